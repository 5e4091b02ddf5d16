/- From a walk to a contract: of a function, of a loop. -/
import Derived.Test.YtpofhijgccocpaaGreatDoorAWe
namespace Go.AS
noncomputable section
def zaq1:List Nat->List Nat->Bool
 | [],_=>true
 | l::r,ws=>match hasN ws l with
  | true=>zaq1 r ws
  | false=>false
theorem zaeB:∀ {ls ws:List Nat},zaq1 ls ws=true->∀ l∈ls,l∈ws
 | [],_,_,l,hl=>by cases hl
 | m::r,ws,h,l,hl=>by
  unfold zaq1 at h
  split at h
  · rename_i hm
    rcases List.mem_cons.1 hl with rfl|hl
    · exact zad5.1 hm
    · exact zaeB h l hl
  · cases h
inductive SameH (a b:Hp):Prop
 | mk (h:a=b)
theorem SameH.eq {a b:Hp}(h:SameH a b):a=b:=by cases h with|mk h=>exact h
theorem SameH.rfl {a:Hp}:SameH a a:=⟨_root_.rfl⟩
def finW (fz:Nat)(fc:List Nat)(σ0 σ:Hp)(M:List Mv)(r:Back)(x:AV)(σ':Hp)(ws':List Nat):Prop :=
 frzW σ0 ws' (M.map (·.l')) fz x σ' fun x σ'=>match zaq1 fc ws' with
  | true=>match retF fc [1] M x σ' ws' with
   | some q=>match zaq1 (addL q.upd []) r.ws with
    | true=>Wk q.x r.x/\SameH (σ.app q.upd) r.σ
    | false=>False
   | none=>False
  | false=>False
def runF (X:WX)(d:Nat)(f:FuncId)(fn:Func)(code:Code)(os:Orc)(fz:Nat)(fc:List Nat)(xs:List AV)(σ:Hp)(r:Back):Prop :=
 match zaqW xs σ with
 | some (M,σc,ys)=>bodyV X d f (callV X d) fn code os ys 1 σc [] fun _ x _ σ' ws'=>finW fz fc σc σ M r x σ' ws'
 | none=>False
theorem Kept.of {σ:Hp}{u:Upd}{r:Back}(h:zaq1 (addL u []) r.ws=true)(hσ:σ.app u=r.σ):Kept σ r.σ r.ws:=by
 have hg:=Grows.app σ [] u
 rw [hσ] at hg
 exact ⟨fun l hl=>(hg.same l fun h'=>hl (zaeB h l h')).2,hg.keep⟩
variable {f:FuncId} {n:Nat} {E:Env}
theorem zade {X:WX} (hX:X.Sound) {d:Nat} {fn:Func} {code:Code} (hf:X.px.P.funcs[f]?=some fn) (hb:fn.body=some code) (hn:(fn.name == "runtime.NumGoroutine")=false) {os:Orc} {fz:Nat} {fc:List Nat} {xs:List AV} {σ:Hp} {r:Back}
  (h:runF X d f fn code os fz fc xs σ r):FOk X.px.P X.px.gl f xs σ r:=by
 unfold runF at h
 split at h
 · rename_i M σc ys hin
   have hbody:=bodyV_ok hX (zagT hX d) hf hb hn _ _ _ _ _ _ h
   have hcall:zauJ X.px.P X.px.gl f ys σc fun _ r'=>∃ q,retF fc [1] M r'.x r'.σ r'.ws=some q/\(∀ l,hasN fc l=true->l∈r'.ws)/\zaq1 (addL q.upd []) r.ws=true/\Wk q.x r.x/\σ.app q.upd=r.σ:=by
     intro E w vals hg hh hfr _ hv
     refine (hbody E w vals hg hh hfr hv).imp ?_
     rintro v w' ⟨os',x,c',σ',ws',E',k1,k2,k3,k4,k5,_⟩
     obtain ⟨x2,σ2,E2,q1,q2,q3,q4,q5⟩:=zahN k1 k3 k4 k5 ⟨fun l hl=>(k2.same l hl).2,k2.keep⟩
     refine ⟨os',⟨x2,σ2,ws'⟩,E2,?_,q5,q2,q3,q4⟩
     split at q1
     · rename_i hfc
       split at q1
       · rename_i q hq
         split at q1
         · rename_i hall;exact ⟨q,hq,fun l hl=>zaeB hfc l (zad5.1 hl),hall,q1.1,q1.2.eq⟩
         · exact q1.elim
       · exact q1.elim
     · exact q1.elim
   intro E w vals hg hh hfr _ hv
   refine (zam3 hX.px.gl hin hcall (p:=[1]) (K:=fun _ q=>zaq1 (addL q.upd []) r.ws=true/\Wk q.x r.x/\σ.app q.upd=r.σ) ?_ hg hh (hfr 1 (Nat.le_refl _)) hv).imp ?_
   · rintro os r' ⟨q,h1,h2,h3⟩;exact ⟨fc,q,h1,h2,h3⟩
   · rintro v w' ⟨os',q,E',⟨k1,k2,k3⟩,h1,h2,h3,_⟩
     exact ⟨os',r,E',rfl,Kept.of k1 k3,k2.vr h1,by rw [<-k3];exact h2,by rw [<-k3];exact h3⟩
 · exact h.elim
def finL (outs:Ex->List Nat)(fz:Nat)(fc:List Nat)(σ0 σ:Hp)(M:List Mv)(r:Ex × Back)(ex:Ex)(fr:Fr)(σ':Hp)(ws':List Nat):Prop :=
 ex=r.1/\match slots fr (outs ex) with
  | some zs=>match r.2.x with
   | .tup _=>finW fz fc σ0 σ M r.2 (.tup zs) σ' ws'
   | _=>False
  | none=>False
def runL (X:WX)(d:Nat)(f:FuncId)(n:Nat)(x:Code)(L L':Lp)(os:Orc)(fz:Nat)(fc:List Nat)(xs:List AV)(σ:Hp)(r:Ex × Back):Prop :=
 match zaqW xs σ with
 | some (M,σc,ys)=>runV X (cxV X d f) n f (callV X d) none x os 1 (mkSl L.ins ys) σc [] fun os ex c fr σ' ws'=>match ex with
  | .normal=>lpV L' os c fr σ' ws' fun _ ex _ fr σ' ws'=>finL L.outs fz fc σc σ M r ex fr σ' ws'
  | ex=>finL L.outs fz fc σc σ M r ex fr σ' ws'
 | none=>False
theorem zal8 {E:Env}{g:Nat->Value}:∀ {ts:List Nat} {zs:List AV},RR E .vs zs (ts.map g)->∀ {t:Nat} {y:AV},aget (mkSl ts zs) t=some y->t∈ts/\VR E y (g t)
 | [],zs,_,t,y,hy=>by
  have:mkSl [] zs = .nil:=by unfold mkSl;rfl
  rw [this,zaax] at hy;cases hy
 | s::r,[],h,t,y,hy=>by
  have:mkSl (s::r) [] = .nil:=by unfold mkSl;rfl
  rw [this,zaax] at hy;cases hy
 | s::r,z::zs,h,t,y,hy=>by
  obtain ⟨v,vs,h1,h2,h3⟩:=h.vs_cons_inv
  rw [List.map_cons] at h3
  obtain ⟨rfl,rfl⟩:=List.cons.inj h3
  rw [mkSl,zaad] at hy
  split at hy
  · rename_i e;cases hy;subst e;exact ⟨List.mem_cons_self ..,h1⟩
  · obtain ⟨k1,k2⟩:=zal8 h2 hy;exact ⟨List.mem_cons_of_mem _ k1,k2⟩
theorem zajh {fr:Fr}:∀ {ts:List Nat} {xs:List AV},slots fr ts=some xs->∀ t∈ts,∃ x,aget fr t=some x
 | [],_,_,t,ht=>by cases ht
 | s::r,xs,h,t,ht=>by
  unfold slots at h
  split at h
  · rename_i y ys h1 h2;cases h
    rcases List.mem_cons.1 ht with rfl|ht
    · exact ⟨_,h1⟩
    · exact zajh h2 t ht
  · cases h
theorem zalr {E:Env}{n:Nat}{fr:Fr}{a:Act}(hf:FR E n fr a):∀ {ts:List Nat} {zs:List AV},slots fr ts=some zs->RR E .vs zs (ts.map fun t=>a.tmps.getD t undef)
 | [],zs,h=>by cases h;exact .vnil
 | t::ts,zs,h=>by
  unfold slots at h
  split at h
  · rename_i y ys h1 h2;cases h
    obtain ⟨v,h3,h4⟩:=hf.at_ t y h1
    refine .vcons ?_ (zalr hf h2)
    simp only [Array.getD_eq_getD_getElem?,h3,Option.getD_some];exact h4
  · cases h
theorem zaFx {X:WX} (hX:X.Sound) {d:Nat} {x:Code} (hl:Code.loops (fun i y=>∀ L,X.lp f i=some L->LpOk X.px.P X.px.gl n y L) none x) {L L':Lp} (hL':LpOk X.px.P X.px.gl n x L') {os:Orc} {fz:Nat} {fc:List Nat}
  {xs:List AV} {σ:Hp} {r:Ex × Back} (h:runL X d f n x L L' os fz fc xs σ r):zab9 X.px.P X.px.gl n x L.ins L.outs xs σ fun _ r'=>r'=r:=by
 have hC:=zajR hX d f
 unfold runL at h
 split at h
 · rename_i M σc ys hin
   intro E w a hg hh hfr hf
   obtain ⟨ls,rfl,hsd,hσc,hys⟩:=zadI hin
   have hmv:=zadd (E:=E) hsd
   have hf':FR (zafh E (inM σ ls 0)) n (mkSl L.ins ys) a:=⟨hf.size,hf.defers,fun t y hy=>by
     obtain ⟨z,g1,g2⟩:=zaju hys hy
     obtain ⟨v,g3,g4⟩:=hf.at_ t z g1
     exact ⟨v,g3,VR.cv hmv g4 g2⟩⟩
   have hst:St (cxV X d f) n [] 1 (mkSl L.ins ys) σc (zafh E (inM σ ls 0)) w a:=⟨fun g x hx=>GV.cv hmv (hg g x hx) (hX.px.gl g x hx _),hf',zagC hh hsd hσc,fun k hk=>zagD hk⟩
   -- behind the loop
   have fin:∀ ex c fr σ' ws' E' w' a',finL L.outs fz fc σc σ (inM σ ls 0) r ex fr σ' ws'->Grows σc [] σ' ws'->St (cxV X d f) n [] c fr σ' E' w' a'->Adv (zafh E (inM σ ls 0)) σc w E' σ' w' ->
       ∃ (_:Orc) (r':Ex × Back) (E':Env),r'=r/\r'.1.to=ex.to/\Kept σ r'.2.σ r'.2.ws/\(∃ zs,r'.2.x = .tup zs/\FR E' n (mkSl (L.outs r'.1) zs) a')/\Holds E' r'.2.σ w'/\Adv E σ w E' r'.2.σ w':=by
     intro ex c fr σ' ws' E' w' a' hfin hgr hs' ha'
     obtain ⟨rfl,hfin⟩:=hfin
     split at hfin
     · rename_i zs hzs
       split at hfin
       · rename_i zs2 hr2
         obtain ⟨x2,σ2,E2,q1,q2,q3,q4,q5⟩:=zahN hfin (.tup (zalr hs'.fr hzs)) hs'.holds ha' ⟨fun l hl=>(hgr.same l hl).2,hgr.keep⟩
         split at q1
         · rename_i hfc
           split at q1
           · rename_i q hq
             split at q1
             · rename_i hall
               obtain ⟨k1,k2⟩:=q1
               have k2:=k2.eq
               obtain ⟨news,u1,u2,p2,p3,p4,p5,p6⟩:=zaes hq
               obtain ⟨r1,r2,r3,r4⟩:=zadJ hh (hfr 1 (Nat.le_refl _)) hsd hσc q3 q4 q5.same (fun l hl=>zaeB hfc l (zad5.1 hl)) (zacj p2) p3 p4 fun mm hm=>by
                 obtain ⟨e0,he0⟩:=zafd hσc hm
                 exact q5.keep _ _ he0
               rw [<-p6,k2] at r1 r2
               have hx2:=k1.vr (q2.cv r4 p5)
               rw [hr2] at hx2
               obtain ⟨vs2,e1,hvs2⟩:=hx2.tup_inv
               have e2:vs2=(L.outs r.1).map fun t=>a'.tmps.getD t undef:=by simpa using e1.symm
               subst e2
               refine ⟨.z,r,_,rfl,rfl,Kept.of hall k2,⟨zs2,hr2,hs'.fr.size,hs'.fr.defers,fun t y hy => ?_⟩,r1,r2⟩
               obtain ⟨g1,g2⟩:=zal8 hvs2 hy
               obtain ⟨y0,g3⟩:=zajh hzs t g1
               obtain ⟨v,g4,_⟩:=hs'.fr.at_ t y0 g3
               refine ⟨v,g4,?_⟩
               simpa only [Array.getD_eq_getD_getElem?,g4,Option.getD_some] using g2
             · exact q1.elim
           · exact q1.elim
         · exact q1.elim
       · exact hfin.elim
     · exact hfin.elim
   refine zaot (wp_mono (zahh hC hX.px.gl (zagT hX d) (zaAA d f) x none hl _ _ _ _ _ _ h _ _ _ hst) ?_)
   rintro e a' w' ⟨ex,c',fr',σ',E',⟨os',ws',k1,k2⟩,rfl,k3,k4,_⟩
   cases ex with
   | normal =>
     refine lwp_mono (zajx hX.px.gl hL' k1 k3) ?_
     rintro e a'' w'' ⟨ex,c2,fr2,σ2,E2,⟨os2,ws2,j1,j2⟩,rfl,j3,j4,_⟩
     exact fin ex c2 fr2 σ2 ws2 E2 w'' a'' j1 (k2.trans j2) j3 (k4.trans j4)
   | exit j=>exact fin _ c' fr' σ' ws' E' w' a' k1 k2 k3 k4
   | ret=>exact fin _ c' fr' σ' ws' E' w' a' k1 k2 k3 k4
 · exact h.elim
structure Sp where
 ι:Type
 pre:ι->Prop
 args:ι->List AV
 heap:ι->Hp
 out:ι->Back
def Sp.con (l:List Sp):Con:=fun xs σ=>l.map fun s=>⟨s.ι,fun i=>s.pre i/\Wks xs (s.args i)/\σ=s.heap i,s.out⟩
theorem Sp.ok {P:Program}{gl:Nat->Option AV}{l:List Sp}(h:∀ s∈l,∀ i,s.pre i->FOk P gl f (s.args i) (s.heap i) (s.out i)):zagZ P gl f (Sp.con l):=by
 intro xs σ a ha i hp
 obtain ⟨s,hs,rfl⟩:=List.mem_map.1 ha
 have h1:=hp.1
 have h2:=hp.2.1
 have h3:σ=s.heap i:=hp.2.2
 intro E w vals hg hh hf hn hv
 have:=h s hs i h1 E w vals hg (by rw [<-h3];exact hh) hf (by rw [<-h3];exact hn) (h2.rr hv)
 rw [<-h3] at this
 exact this
def Sp.pure (ι:Type)(pre:ι->Prop)(args:ι->List AV)(res:ι->AV):Sp:=⟨ι,pre,args,fun _ => .nil,fun i=>⟨res i,.nil,[]⟩⟩
structure Spl where
 ι:Type
 pre:ι->Prop
 args:ι->List AV
 heap:ι->Hp
 out:ι->Ex × Back
def Spl.con (l:List Spl):List AV->Hp->List (Alt (Ex × Back)):=fun xs σ=>l.map fun s=>⟨s.ι,fun i=>s.pre i/\Wks xs (s.args i)/\σ=s.heap i,s.out⟩
theorem zal7 {E:Env}{g:Nat->Value}:∀ {ts:List Nat} {xs:List AV},ts.Nodup->xs.length=ts.length->(∀ t x,aget (mkSl ts xs) t=some x->VR E x (g t))->RR E .vs xs (ts.map g)
 | [],xs,_,hl,_=>by
  obtain rfl:=List.eq_nil_of_length_eq_zero hl;exact .vnil
 | s::r,[],_,hl,_=>by cases hl
 | s::r,x::xs,hn,hl,h=>by
  rw [List.nodup_cons] at hn
  refine .vcons (h s x (by rw [mkSl,zaad,if_pos rfl])) (zal7 hn.2 (by simpa using hl) fun t y hy=>h t y ?_)
  have:t∈r:=by
   have gen:∀ (r:List Nat) (xs:List AV) (t:Nat) (y:AV),aget (mkSl r xs) t=some y->t∈r:=by
    intro r
    induction r with
    | nil => intro xs t y hy; have : mkSl [] xs = .nil := by unfold mkSl; rfl
             rw [this,zaax] at hy;cases hy
    | cons q r ih =>
     intro xs t y hy
     cases xs with
     | nil => have : mkSl (q :: r) [] = .nil := by unfold mkSl; rfl
              rw [this,zaax] at hy;cases hy
     | cons z zs =>
      rw [mkSl,zaad] at hy
      split at hy
      · rename_i e;rw [e];exact List.mem_cons_self ..
      · exact List.mem_cons_of_mem _ (ih _ _ _ hy)
   exact gen r xs t y hy
  rw [mkSl,zaad,if_neg fun e=>hn.1 (by rw [<-e];exact this)];exact hy
theorem zam:∀ {ts:List Nat} {xs:List AV},xs.length=ts.length->∀ t∈ts,∃ x,aget (mkSl ts xs) t=some x
 | [],_,_,t,ht=>by cases ht
 | s::r,[],hl,_,_=>by cases hl
 | s::r,x::xs,hl,t,ht=>by
  rw [mkSl,zaad]
  split
  · exact ⟨_,rfl⟩
  · rename_i hne
    rcases List.mem_cons.1 ht with rfl|ht
    · exact absurd rfl hne
    · exact zam (by simpa using hl) t ht
theorem FR.wks {ts:List Nat}{xs ys:List AV}{a:Act}(hw:Wks xs ys)(hn:ts.Nodup)(hl:xs.length=ts.length)(h:FR E n (mkSl ts xs) a):FR E n (mkSl ts ys) a:=by
 have hr:RR E .vs xs (ts.map fun t=>a.tmps.getD t undef):=zal7 hn hl fun t x hx=>by
  obtain ⟨v,h1,h2⟩:=h.at_ t x hx
  simp only [Array.getD_eq_getD_getElem?,h1,Option.getD_some];exact h2
 refine ⟨h.size,h.defers,fun t y hy => ?_⟩
 obtain ⟨g1,g2⟩:=zal8 (hw.rr hr) hy
 obtain ⟨x,hx⟩:=zam hl t g1
 obtain ⟨v,h1,_⟩:=h.at_ t x hx
 exact ⟨v,h1,by simpa only [Array.getD_eq_getD_getElem?,h1,Option.getD_some] using g2⟩
theorem Spl.ok {P:Program}{gl:Nat->Option AV}{x:Code}{L:Lp}{l:List Spl}(hL:L.con=Spl.con l)(hn:L.ins.Nodup)(h:∀ s∈l,∀ i,s.pre i->zab9 P gl n x L.ins L.outs (s.args i) (s.heap i) fun _ r=>r=s.out i):LpOk P gl n x L:=by
 intro ys σ hlen a ha i hp
 rw [hL] at ha
 obtain ⟨s,hs,rfl⟩:=List.mem_map.1 ha
 have h1:=hp.1
 have h2:=hp.2.1
 have h3:σ=s.heap i:=hp.2.2
 intro E w act hg hh hf hfr
 have:=h s hs i h1 E w act hg (by rw [<-h3];exact hh) hf (hfr.wks h2 hn hlen)
 rw [<-h3] at this
 exact this
end
end Go.AS
