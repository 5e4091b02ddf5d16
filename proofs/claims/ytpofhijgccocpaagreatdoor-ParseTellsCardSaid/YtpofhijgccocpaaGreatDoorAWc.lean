/- The walk that is told things is sound: steps, regions, loops by contract. -/
import Derived.Test.YtpofhijgccocpaaGreatDoorAWb
namespace Go.AS
noncomputable section
theorem zai7 {sy b:Bool}{os:Orc}{K:Orc->Bool->Prop}(h:tst sy b os K):∃ os',K os' b:=by
 unfold tst at h
 split at h
 · split at h
   · exact ⟨_,h⟩
   · exact ⟨_,h⟩
 · split at h
   · obtain ⟨rfl,h⟩:=h;exact ⟨_,h⟩
   · obtain ⟨rfl,h⟩:=h;exact ⟨_,h⟩
   · cases b
     · exact ⟨_,h.2 rfl⟩
     · exact ⟨_,h.1 rfl⟩
   · cases h
theorem zaey {sy b:Bool}{K:Prop}(h:okV sy b K):b=true/\K:=by simp only [okV] at *;grind
theorem zanF {α:Type}{e:α}:∀ (t:Tr α) (k:Nat),tget t k=some e->tput (some e) t k=t:=by
 intro t
 induction t with
 | nil=>intro k h;rw [zab1] at h;cases h
 | node x l r il ir =>
  intro k h
  cases k with
  | zero=>rw [zab0] at h;rw [zai8,h]
  | succ k =>
   cases hb:zadB k
   · rw [zabn _ _ _ _ hb] at h;rw [zai9 _ _ _ _ _ hb,il _ h]
   · rw [zaa6 _ _ _ _ hb] at h;rw [zag9 _ _ _ _ _ hb,ir _ h]
theorem zajU {α:Type}{t:Tr α}{k:Nat}{e:α}(h:aget t k=some e):aset t k e=t:=zanF t k h
theorem zae6 {X:WX}{f:FuncId}{all:List Oper}{os:Orc}{look fr:Fr}(hl:∀ t x,aget look t=some x->aget fr t=some x){g:Option (Nat × Bool)}{K:Orc->Bool->Fr->Prop}(h:zaoG X f all os look fr g K):∃ os' b,zano all look g=some b/\K os' b fr:=by
 unfold zaoG at h
 split at h
 · exact ⟨os,true,rfl,h⟩
 · rename_i j want
   split at h
   · rename_i d hd
     split at h
     · rename_i v hv
       split at h
       · rename_i b
         obtain ⟨os',h⟩:=zai7 h
         refine ⟨os',zaGr want b,?_,?_⟩
         · simp only [zano,hd,zae0,hv,zaBp]
           cases want<;>rfl
         · have e:setT (X.sy f d) d b fr=fr:=by
             unfold setT
             split
             · exact zajU (hl d _ hv)
             · rfl
           rw [e] at h;exact h
       · refine ⟨os,false,?_,h⟩
         simp only [zano,hd,zae0,hv,zaBp]
       · exact h.elim
     · exact h.elim
   · exact h.elim
theorem zah {X:WX}{C:Cx}{f:FuncId}{o:Operand}{fr:Fr}{b:Bool}(h:ev C fr o=some (.lit (.bool b))):zaBs X f o fr b=fr:=by
 unfold zaBs
 split
 · split
   · exact zajU h
   · rfl
 · rfl
def OkV (P:Program)(gl:Nat->Option AV)(g:FuncId)(s:Orc->List AV->Nat->Hp->List Nat->KV->Prop):Prop :=
 ∀ os xs c σ ws K,s os xs c σ ws K->∀ E w vals,GLr gl E->Holds E σ w->(∀ k,c<=k->Fresh E [k])->RR E .vs xs vals ->
  Does P g vals.toArray w fun v w'=>∃ os' x c' σ' ws' E',K os' x c' σ' ws'/\Grows σ ws σ' ws'/\VR E' x v/\Holds E' σ' w'/\Adv E σ w E' σ' w'/\∀ k,c'<=k->Fresh E' [k]
def zaBn (C:Cx)(E:Env)(σ:Hp)(ws:List Nat)(w:World)(K:KV)(v:Value)(w':World):Prop :=
 ∃ os' x c' σ' ws' E',K os' x c' σ' ws'/\Grows σ ws σ' ws'/\VR E' x v/\Holds E' σ' w'/\Adv E σ w E' σ' w'/\∀ k,c'<=k->Fresh E' [k]
section
variable {X:WX} {C:Cx} {n:Nat} {f:FuncId} {call:zauI}
theorem zajm (hC:C.Sound) {os:Orc} {fr:Fr} {c:Nat} {σ:Hp} {ws:List Nat} {o:Oper} {K:KV} (h:opV X C f os fr c σ ws o K) {E:Env} {w:World} {a:Act} (hs:St C n [] c fr σ E w a)
  {next:Act->World->Prop} {Q:Exit->Act->World->Prop} (hn:∀ v w',zaBn C E σ ws w K v w'->next (a.put o.dst v) w'):o.wp C.P a w next Q:=by
 haveI:=hC.tb
 unfold opV at h
 obtain ⟨b,q,h,hq⟩:=zaoi h
 obtain ⟨hok,hk⟩:=zaey h
 obtain ⟨q',hq1,hq2,hq3,hq4⟩:=hq hok
 refine zaoj hs.gl hs.fr hs.holds (hs.fresh c (Nat.le_refl _)) (K:=fun x upd=>x=q.x/\upd=q.upd) (by rw [hq1];exact ⟨hq2,hq3,hq4⟩) ?_
 rintro v w' ⟨E',x,upd,⟨rfl,rfl⟩,h1,h2,h3,h4⟩
 exact hn v w' ⟨_,_,_,_,_,E',hk,.app _ _ _,h1,h2,h3,fun k hk=>(hs.fresh k (by omega)).other h4 (by omega)⟩
theorem zaj3 (hC:C.Sound) (hcall:∀ g,OkV C.P C.gl g (call g)) {os:Orc} {fr:Fr} {c:Nat} {σ:Hp} {ws:List Nat} {o:Oper} {K:KV} (h:zaC X C f call os fr c σ ws o K) {E:Env} {w:World} {a:Act} (hs:St C n [] c fr σ E w a)
  {next:Act->World->Prop} {Q:Exit->Act->World->Prop} (hn:∀ v w',zaBn C E σ ws w K v w'->next (a.put o.dst v) w'):o.wp C.P a w next Q:=by
 haveI:=hC.tb
 unfold zaC at h
 split at h
 · rename_i k hk
   split at h
   · exact zajm hC h hs hn
   · split at h
     · rename_i g xs htar
       have hdo:=hcall g _ _ _ _ _ _ h E w
       unfold zavk at htar
       split at htar
       · rename_i fo hf
         split at htar
         · rename_i fv ys hfv hys
           split at htar
           · rename_i g' y z hv;cases htar
             obtain ⟨y',z',k1,k2,k3⟩:=zadf (zaaj hs.gl hs.fr hfv) hv
             have hvs:RR E .vs (y++ys++z) (y'.toList++k.args.toList.map a.eval++z'.toList):=(k2.vs_append (zabJ hs.gl hs.fr hys)).vs_append k3
             refine Does.wp (hdo _ hs.gl hs.holds hs.fresh hvs) ?_ hn
             have e:(y'.toList++k.args.toList.map a.eval++z'.toList).toArray=y'++k.args.map a.eval++z':=by apply Array.ext';simp
             simp only [execOp,hk,resolve,hf,k1,Deferred.ofValue,pure_bind,invoke,e]
           · cases htar
         · cases htar
       · rename_i r m hf
         split at htar
         · rename_i rv ys hrv hys
           split at htar
           · rename_i t u0 hiv
             split at htar
             · rename_i g' y hm;cases htar
               have hi:=zaa0 (zaaj hs.gl hs.fr hrv) hiv
               simp only at hi
               obtain ⟨u,k1,k2⟩:=hi
               obtain ⟨u2,k2,hmr⟩:=zae2 hm k2 w (C.P.types.size+99)
               have hvs:RR E .vs (y::ys) (u2::k.args.toList.map a.eval) := .vcons k2 (zabJ hs.gl hs.fr hys)
               refine Does.wp (hdo _ hs.gl hs.holds hs.fresh hvs) ?_ hn
               have e:(u2::k.args.toList.map a.eval).toArray = #[u2]++k.args.map a.eval:=by apply Array.ext';simp
               have e2:(#[Value.iface t u]++k.args.map a.eval).extract 1 (#[Value.iface t u]++k.args.map a.eval).size=k.args.map a.eval:=by
                 apply Array.ext';simp only [Array.toList_extract,Array.toList_append,Array.toList_map,Array.size_append,Array.size_map,List.extract_eq_take_drop]
                 simp [List.take_of_length_le]
               have e3:(#[Value.iface t u]++k.args.map a.eval)[0]?=some (Value.iface t u):=by rw [Array.getElem?_append_left (by simp)];rfl
               have h0:(program).run C.P w = .ok C.P w:=rfl
               simp only [execOp,hk,resolve,hf,k1,pure_bind,invoke,e2,e3,callMethod,Sem.run_bind,h0,Result.andThen_ok,Made.depth]
               rw [show C.P.types.size+100=C.P.types.size+99+1 from rfl,hmr]
               simp only [Result.andThen_ok,e]
             · cases htar
           · cases htar
         · cases htar
       · cases htar
     · cases h
 · exact zajm hC h hs hn
theorem zaeV (hC:C.Sound)(hcall:∀ g,OkV C.P C.gl g (call g)){ops:Array Oper}{Q:Exit->Act->World->Prop}:∀ (l:List Oper) (i:Nat),ops.toList.drop i=l ->
  ∀ (os:Orc) (c:Nat) (fr:Fr) (σ:Hp) (ws:List Nat) (K:Orc->Nat->Fr->Hp->List Nat->Prop),opsV X C n f call ops.toList l os c fr σ ws K->∀ (E:Env) (w:World) (a:Act),St C n [] c fr σ E w a ->
   (∀ a' w' os' c' fr' σ' ws' E',K os' c' fr' σ' ws'->Grows σ ws σ' ws'->St C n [] c' fr' σ' E' w' a'->Adv E σ w E' σ' w'->Q .normal a' w')->wpOps C.P ops Q (List.range' i l.length) a w
 | [],i,_,os,c,fr,σ,ws,K,h,E,w,a,hs,hQ=>hQ a w _ _ _ _ _ E h (.refl _ _) hs (.refl _ _ _)
 | o::r,i,hd,os,c,fr,σ,ws,K,h,E,w,a,hs,hQ=>by
  have hi:ops[i]?=some o:=by
   have:=congrArg (·[0]?) hd
   simpa using this
  have hd':ops.toList.drop (i+1)=r:=by
   have:=congrArg (List.drop 1) hd
   simpa [Nat.add_comm] using this
  unfold opsV at h
  obtain ⟨os',b,hb,h⟩:=zae6 (fun _ _ h=>h) h
  rw [List.length_cons,List.range'_succ,wpOps]
  simp only [hi]
  rw [zado hs.fr hb]
  cases b with
  | true =>
   simp only at h
   simp only [if_true]
   left
   refine zaj3 hC hcall h hs ?_
   rintro v w' ⟨os1,x,c1,σ1,ws1,E1,h,k1,k2,k3,k4,k5⟩
   exact zaeV hC hcall r (i+1) hd' _ _ _ _ _ _ h E1 w' _ ⟨hs.gl.mono k4.le,zacI (hs.fr.mono k4.le) o.dst k2,k3,fun k hk=>k5 k hk⟩
    fun a' w'' os' c' fr' σ' ws' E' g1 g2 g3 g4=>hQ a' w'' _ _ _ _ _ E' g1 (k1.trans g2) g3 (k4.trans g4)
  | false =>
   simp only at h
   simp only [Bool.false_eq_true,if_false]
   exact zaeV hC hcall r (i+1) hd' _ _ _ _ _ _ h E w _ ⟨hs.gl,zacI hs.fr o.dst (.lit undef),hs.holds,hs.fresh⟩ hQ
theorem zanL {fr:Fr}{o:Oper}{k:Call}(ho:o.op = .call k){g:FuncId}{xs:List AV}(ht:zavk C fr k=some (g,xs)){p:Id}{τ:Hp}{K:AV->Upd->Prop}(h:askF C p (o.dst.getD 0) g xs τ K):zapK C p fr τ o K:=by simp only [zavk,zapK] at *;grind
theorem zaka (hcon:∀ g con,X.con g=some con->C.ct g=some (genC con)){os:Orc}{p:Id}{fr:Fr}{τ:Hp}{o:Oper}{K:Orc->Res->Prop}(hask:∀ g con xs q,X.con g=some con->Picks con p xs τ q->q.ok=true)(h:zaCl X C f os p fr τ o K) :
  ∃ os' q,DetR C p fr τ o q/\K os' q:=by
 unfold zaCl at h
 split at h
 · rename_i con xs hm
   split at hm
   · rename_i k hk
     split at hm
     · rename_i g ys ht
       split at hm
       · rename_i con' hc;cases hm
         obtain ⟨os',q,h1,h2⟩:=zahV h
         refine ⟨os',q,⟨hask g con xs q hc h1,fun K' hK'=>zanL hk ht ?_⟩,h2⟩
         simp only [askF,hcon g con hc,genC,Ct.asks]
         exact ⟨q,h1,hK'⟩
       · cases hm
     · cases hm
   · cases hm
 · split at h
   · rename_i q hq
     obtain ⟨hok,h⟩:=zaey h
     have hq:symR C fr (aget τ) o=some q:=by
       split at hq
       · exact hq
       · cases hq
     have hnc:∀ k,o.op ≠ .call k:=fun k hk=>by unfold symR at hq;rw [hk] at hq;cases hq
     refine ⟨_,q,⟨hok,fun K' hK' => ?_⟩,h⟩
     unfold zapK
     split
     · rename_i k hk;exact absurd hk (hnc k)
     · rw [zapI hq hok];exact ⟨rfl,hK'⟩
   · split at h
     · rename_i q hq
       obtain ⟨hok,h⟩:=zaey h
       have hq:symA C fr (aget τ) p o=some q:=by
         split at hq
         · exact hq
         · cases hq
       have e:q=⟨q.x,q.upd,true⟩:=by cases q;cases hok;rfl
       have hd:detO C p fr τ o=some q:=by
         rw [e,<-zapJ hq hok]
         unfold detO
         unfold symA at hq
         split at hq
         · rename_i k hk
           split at hq
           · rename_i b hb;simp only [hk,hb]
           · cases hq
         · cases hq
       exact ⟨_,q,.of hd hok,h⟩
     · split at h
       · rename_i q hq
         obtain ⟨hok,h⟩:=zaey h
         exact ⟨_,q,.of hq hok,h⟩
       · cases h
theorem zavL {fc:List Nat}{p:Id}{M:List Mv}{x:AV}{σ':Hp}{ws:List Nat}{r:Res}(h:retF fc p M x σ' ws=some r):r.ok=true:=by grind [retF]
theorem zaof {con:Con}{p:Id}{xs:List AV}{σ:Hp}{q:Res}(h:Picks con p xs σ q):q.ok=true:=by
 obtain ⟨M,σc,ys,_,a,_,i,_,hq⟩:=h
 exact zavL hq
theorem zaex {p:Id}{all:List Oper}{c:Nat}{K K':List PE->Fr->Hp->Prop}(hK:∀ l fr σ,K l fr σ->K' l fr σ):∀ {l:List Oper} {k:Nat} {fr:Fr} {σ:Hp} {log:List PE},opsW C n p all c l k fr σ log K->opsW C n p all c l k fr σ log K'
 | [],_,_,_,_,h=>hK _ _ _ h
 | o::r,k,fr,σ,log,h=>by
  unfold opsW at h ⊢
  split at h
  · rename_i b hb
    split at h
    · obtain ⟨q,h1,h2⟩:=h;exact ⟨q,h1,zaex hK h2⟩
    · exact zaex hK h
  · exact h.elim
theorem zaeX (hcon:∀ g con,X.con g=some con->C.ct g=some (genC con)){all:List Oper}{c:Nat}:∀ {l:List Oper} {os:Orc} {k:Nat} {fr:Fr} {σ:Hp} {ws:List Nat} {log:List PE} {K:Orc->List PE->Fr->Hp->List Nat->Prop},
  opsD X C n f all c l os k fr σ ws log K->opsW C n [] all c l k fr σ log fun log' fr' σ'=>∃ os' ws',K os' log' fr' σ' ws'/\Grows σ ws σ' ws'
 | [],os,_,fr,σ,ws,log,K,h=>⟨os,ws,h,.refl _ _⟩
 | o::r,os,k,fr,σ,ws,log,K,h=>by
  unfold opsD at h
  obtain ⟨os1,b,hb,h⟩:=zae6 (fun t x ht=>(zacZ _ _ _ _ ht).2) h
  unfold opsW;rw [hb]
  cases b with
  | true =>
   simp only at h ⊢
   obtain ⟨os2,q,h1,h2⟩:=zaka hcon (fun g con xs q _ h=>zaof h) h
   exact ⟨q,h1,zaex (fun l fr' σ' ⟨os',ws',g1,g2⟩=>⟨os',ws',g1,(Grows.app _ _ _).trans g2⟩) (zaeX hcon h2)⟩
  | false=>simp only at h ⊢;exact zaeX hcon h
end
end
end Go.AS
