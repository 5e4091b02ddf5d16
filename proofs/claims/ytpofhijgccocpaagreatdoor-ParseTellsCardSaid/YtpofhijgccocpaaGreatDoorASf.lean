/- Operations on values: addresses of fields and elements, slices, appends. -/
import Derived.Test.YtpofhijgccocpaaGreatDoorASe
namespace Go.AS
noncomputable section
def zaoe {α:Type}:Sem α->Option α
 | .pure a=>some a
 | .mark _ k=>zaoe k
 | _=>none
variable {P:Program} {E:Env} {off sz:Nat} {t:TypeId} {B:Tb} {T:TI} {w:World} {x y:AV} {v:Value} {xs:List AV}
theorem zac1 {α:Type}:∀ {s:Sem α} {a:α},zaoe s=some a->∀ w,s.run P w = .ok a w:=by
 intro s
 induction s with
 | pure b=>intro a h w;simp only [zaoe,Option.some.injEq] at h;subst h;rfl
 | mark m k ih=>intro a h w;simp only [zaoe] at h;simp only [Sem.run];exact ih h w
 | _=>intro a h;simp [zaoe] at h
def AV.val?:AV->Option Value
 | .lit v=>some v
 | .iface t x=>(AV.val? x).map (.iface t)
 | _=>none
theorem zadq:∀ {x:AV} {v u:Value},VR E x v->x.val?=some u->v=u:=by
 intro x
 induction x using AV.val?.induct with
 | case1 u'=>intro v u hx h;simp only [AV.val?,Option.some.injEq] at h;subst h;exact hx.lit_inv
 | case2 t x ih =>
  intro v u hx h
  obtain ⟨v',rfl,hx'⟩:=hx.iface_inv
  simp only [AV.val?,Option.map_eq_some_iff] at h
  obtain ⟨u',h1,rfl⟩:=h
  rw [ih hx' h1]
 | case3 x h1 h2=>intro v u hx h;unfold AV.val? at h;split at h<;>first|(exfalso;exact h1 _ rfl)|(exfalso;exact h2 _ _ rfl)|cases h
theorem zalx {b:Nat} {c:Array Value} {fz:Nat × Nat} {cs rest:List Value} {o n:Nat} {g:Bool} {z:AV} (h:E.m b=some (.cells c t fz)) (hc:c.toList.drop off=cs++rest)
  (hp:PartR E.pure cs o n g z) (hz:g=true∨z.leaf=true):VR E (.ref z) (.pointer (some ⟨b,off+o,none⟩)):=by
 unfold PartR at hp
 split at hp
 · rename_i hg
   obtain ⟨ds,r,h1,h2,h3⟩:=hp
   have hr:=RR.cs_one h3
   simp only [Value.cells] at hr
   by_cases hle:o<=cs.length
   · refine .ref (rest:=r++rest) h hr ?_
     rw [<-List.drop_drop,hc,List.drop_append_of_le_length hle,h1];simp
   · rw [List.drop_eq_nil_of_le (by omega)] at h1
     have h7:ds=[]:=by
       have:=congrArg List.length h1;simp at this;exact List.length_eq_zero_iff.1 (by omega)
     subst h7
     exact .ref (rest:=c.toList.drop (off+o)) h hr (by simp)
 · rename_i hg
   obtain ⟨h1,u,h2,h3⟩:=hp
   have hlf:z.leaf=true:=hz.resolve_left (by simpa using hg)
   have hr:=RR.cs_one h3
   rw [zae5 h3 hlf] at hr
   have hlt:o<cs.length:=by rw [List.getElem?_eq_some_iff] at h2;exact h2.1
   refine .ref (rest:=cs.drop (o+1)++rest) h hr ?_
   rw [<-List.drop_drop,hc,List.drop_append_of_le_length (by omega)]
   rw [List.getElem?_eq_some_iff] at h2
   obtain ⟨_,rfl⟩:=h2
   rw [List.drop_eq_getElem_cons hlt];rfl
def zaf (B:Tb)(T:TI)(f:Nat)(x:AV):Option AV :=
 match T.desc with
 | .struct fs =>
  match fs[f]? with
  | some fd=>match ti B fd.type with
   | some U=>if U.size=0 then none else match x with
    | .ptr l i k s=>some (.ptr l i k (s+fd.offset))
    | .ref y=>match y.getAt fd.offset U.size U.agg with
     | some z=>if U.agg=true∨z.leaf=true then some (.ref z) else none
     | none=>none
    | _=>none
   | none=>none
  | none=>none
 | _=>none
theorem zafC [TbOk B P] (hT:ti B t=some T){f:Nat}(hx:VR E x v)(h:zaf B T f x=some y) :
  ∃ u,(Instr.fieldAt t v f).run P w = .ok u w/\VR E y u:=by
 unfold zaf at h
 split at h
 · rename_i fs hd
   split at h
   · rename_i fd hfd
     split at h
     · rename_i U hU
       split at h
       · cases h
       · rename_i hsz
         have run:∀ b o,v = .pointer (some ⟨b,o,none⟩)->(Instr.fieldAt t v f).run P w = .ok (.pointer (some ⟨b,o+fd.offset,none⟩)) w:=fun b o hv=>by
           subst hv
           simp only [Instr.fieldAt,Sem.run_bind,zaa hT,Result.andThen_ok,hd,hfd,Instr.sureAddr,Sem.run_pure,fieldPlace,zaan hU,hsz,if_false,zab8]
         split at h
         · cases h
           obtain ⟨b,base,sz,cap,h1,hv⟩:=hx.ptr_inv
           refine ⟨_,run _ _ hv,?_⟩
           rw [Nat.add_assoc]
           exact .ptr _ _ _ h1
         · rename_i y'
           split at h
           · rename_i z hz
             split at h
             · rename_i hlf;cases h
               obtain ⟨b,off,c,t',fz,cs,rest,hv,h1,h2,h3⟩:=hx.ref_invP
               refine ⟨_,run _ _ hv,?_⟩
               have hp:=zagq (xs:=[y']) (k:=0) (sz:=y'.fsz) h2 (by simp) rfl hz
               rw [Nat.zero_mul,Nat.zero_add] at hp
               exact zalx h1 h3 hp hlf
             · cases h
           · cases h
         · cases h
     · cases h
   · cases h
 · cases h
theorem zagp [TbOk B P] (hT:ti B t=some T){cs:List Value}(hp:PartR E cs off T.size T.agg y) :
  ∃ u,(part t cs.toArray off).run P w = .ok u w/\VR E y u:=by
 unfold PartR at hp
 split at hp
 · rename_i hg
   obtain ⟨ds,r,h1,h2,h3⟩:=hp
   refine ⟨.agg ds.toArray,?_,h3⟩
   simp only [part,Sem.run_bind,zacH hT,Result.andThen_ok,hg,if_true,zaan hT,Sem.run_pure]
   congr 2
   apply Array.ext'
   simp only [Array.toList_extract,List.extract,Nat.add_sub_cancel_left]
   rw [h1,<-h2,List.take_left]
 · rename_i hg
   obtain ⟨h1,u,h2,h3⟩:=hp
   refine ⟨u,?_,h3⟩
   have h4:cs.toArray[off]?=some u:=by simpa using h2
   simp [part,zacH hT,hg,h4]
def zao0 (B:Tb)(T:TI)(f:Nat)(x:AV):Option AV :=
 match T.desc with
 | .struct fs =>
  match fs[f]? with
  | some fd=>match ti B fd.type with
   | some U=>match x with
    | .lit (.agg cs)=>zaox (.agg cs) fd.offset U.size U.agg
    | .agg xs=>AV.getAts xs fd.offset U.size U.agg
    | _=>none
   | none=>none
  | none=>none
 | _=>none
theorem zaf3 [TbOk B P] (hT:ti B t=some T){f:Nat}(hx:VR E x v)(h:zao0 B T f x=some y) :
  ∃ u,(Instr.field t v f).run P w = .ok u w/\VR E y u:=by
 unfold zao0 at h
 split at h
 · rename_i fs hd
   split at h
   · rename_i fd hfd
     split at h
     · rename_i U hU
       split at h
       · rename_i cs
         have:=hx.lit_inv;subst this
         obtain ⟨u,h1,h2⟩:=zagp hU (w:=w) (E:=E) (zad2 h)
         refine ⟨u,?_,h2⟩
         simpa only [Instr.field,Sem.run_bind,zaa hT,Result.andThen_ok,hd,hfd,asAgg,Sem.run_pure,Value.cells,Array.toArray_toList] using h1
       · rename_i xs
         obtain ⟨cs,rfl,hcs⟩:=hx.agg_inv
         obtain ⟨u,h1,h2⟩:=zagp hU (w:=w) (E:=E) (zact xs hcs h)
         refine ⟨u,?_,h2⟩
         simpa only [Instr.field,Sem.run_bind,zaa hT,Result.andThen_ok,hd,hfd,asAgg,Sem.run_pure] using h1
       · cases h
     · cases h
   · cases h
 · cases h
def zamg (B:Tb)(T:TI)(x:AV)(n:Int):Option AV :=
 match T.desc with
 | .array len e=>match ti B e with
  | some U=>if 0<=n/\n<len then match x with
    | .lit (.agg cs)=>zaox (.agg cs) (n.toNat*U.size) U.size U.agg
    | .agg xs=>AV.getAts xs (n.toNat*U.size) U.size U.agg
    | _=>none
   else none
  | none=>none
 | .string=>match x with
  | .lit (.string s)=>if 0<=n then (s[n.toNat]?).map fun b => .lit (.int .u8 b.toNat) else none
  | _=>none
 | _=>none
theorem zakk [TbOk B P] (hT:ti B t=some T){k:IntKind}{n:Int}(hx:VR E x v)(h:zamg B T x n=some y) :
  ∃ u,(Instr.index t v (.int k n)).run P w = .ok u w/\VR E y u:=by
 unfold zamg at h
 split at h
 · rename_i len e hd
   split at h
   · rename_i U hU
     split at h
     · rename_i hn
       split at h
       · rename_i cs
         have:=hx.lit_inv;subst this
         obtain ⟨u,h1,h2⟩:=zagp hU (w:=w) (E:=E) (zad2 h)
         refine ⟨u,?_,h2⟩
         simpa only [Instr.index,asIntOf,Sem.run_bind,Sem.run_pure,zaa hT,Result.andThen_ok,hd,hn,and_self,if_true,zaan hU,Value.cells,Array.toArray_toList] using h1
       · rename_i xs
         obtain ⟨cs,rfl,hcs⟩:=hx.agg_inv
         obtain ⟨u,h1,h2⟩:=zagp hU (w:=w) (E:=E) (zact xs hcs h)
         refine ⟨u,?_,h2⟩
         simpa only [Instr.index,asIntOf,Sem.run_bind,Sem.run_pure,zaa hT,Result.andThen_ok,hd,hn,and_self,if_true,zaan hU] using h1
       · cases h
     · cases h
   · cases h
 · rename_i hd
   split at h
   · rename_i s
     have:=hx.lit_inv;subst this
     split at h
     · rename_i hn
       cases hs:s[n.toNat]? with
       | none=>rw [hs] at h;cases h
       | some b =>
         rw [hs] at h;cases h
         refine ⟨_,?_,.lit _⟩
         simp [Instr.index,asIntOf,zaa hT,hd,hn,hs]
     · cases h
   · cases h
 · cases h
theorem zacL {ex:Bool}(h:VR E (.lst ex sz xs) v) :
  (xs=[]/\∃ a c,v = .slice a 0 c/\(ex=true->c=0)) ∨
  ∃ b off cp c t fz cs rest,v = .slice (some ⟨b,off,none⟩) xs.length cp/\E.m b=some (.cells c t fz)/\RR E.pure .cs xs cs/\c.toList.drop off=cs++rest/\(∀ x∈xs,x.fsz=sz)/\xs.length<=cp/\(ex=true->cp=xs.length)/\(∀ u∈cs,u.oneCell'=true):=by
 cases h with
 | lstE _ a h=>exact .inl ⟨rfl,a,_,rfl,h⟩
 | lst h hx hc hs hn h1 he ho=>subst hn;exact .inr ⟨_,_,_,_,_,_,_,_,rfl,h,hx,hc,hs,h1,he,ho⟩
theorem zajw {ex:Bool}(h:VR E (.lst ex sz xs) v) :
  (xs=[]/\∃ a c,v = .slice a 0 c/\(ex=true->c=0)) ∨
  ∃ b off cp c t fz cs rest,v = .slice (some ⟨b,off,none⟩) xs.length cp/\E.m b=some (.cells c t fz)/\RR E .cs xs cs/\c.toList.drop off=cs++rest/\(∀ x∈xs,x.fsz=sz)/\xs.length<=cp/\(ex=true->cp=xs.length)/\(∀ u∈cs,u.oneCell'=true):=by
 rcases zacL h with h|⟨b,off,cp,c,t,fz,cs,rest,h0,h1,h2,h3⟩
 · exact .inl h
 · exact .inr ⟨b,off,cp,c,t,fz,cs,rest,h0,h1,h2.mono E.pure_le,h3⟩
theorem zafN {l:Nat}{i:Id}{len:Nat}(h:VR E (.slc l i off len) v) :
  (len=0/\(∃ a,v = .slice a 0 0)/\∃ L,E.ρ i=some L)∨∃ b base sz cap c,v = .slice (some ⟨b,base+off*sz,none⟩) len c/\E.ρ i=some (.at b base sz cap)/\len<=c/\off+c<=cap:=by
 cases h with
 | slcZ _ _ a h=>exact .inl ⟨rfl,⟨a,rfl⟩,_,h⟩
 | slc _ h h1 h2=>exact .inr ⟨_,_,_,_,_,rfl,h,h1,h2⟩
def zafE (look:Nat->Option Ent)(sz:Nat):AV->Option (Bool × List AV)
 | .lit (.slice _ 0 _)=>some (true,[])
 | .lst _ sz' xs=>if sz'=sz then some (true,xs) else none
 | .slc l i off len =>
  match look l with
  | some e=>if e.id=i then match e.obj with
   | .row pu sz' xs=>if sz'=sz/\off+len<=xs.length then some (pu,(xs.drop off).take len) else none
   | _=>none else none
  | none=>none
 | _=>none
theorem zadh {τ:Hp} (hh:Holds E τ w) {look:Nat->Option Ent} (hl:∀ l e,look l=some e->aget τ l=some e) {pu:Bool} (hx:VR E x v)
  (h:zafE look sz x=some (pu,xs)):(∀ y∈xs,y.fsz=sz)/\∃ a c,v = .slice a xs.length c/\xs.length<=c/\(xs=[]∨∃ b o cells t fz cs rest,a=some ⟨b,o,none⟩/\w.heap[b]?=some (.cells cells t fz)/\RR (E.sel pu) .cs xs cs /\
   cells.toList.drop o=cs++rest/\(∀ u∈cs,u.oneCell'=true)):=by
 unfold zafE at h
 split at h
 · cases h
   have:=hx.lit_inv;subst this
   exact ⟨by simp,_,_,rfl,Nat.zero_le _,.inl rfl⟩
 · split at h
   · rename_i he;cases h;subst he
     rcases zacL hx with ⟨rfl,a,c,rfl,_⟩|⟨b,off,cp,c,t,fz,cs,rest,rfl,h1,h2,h3,h4,h5,h6,ho⟩
     · exact ⟨by simp,a,c,rfl,Nat.zero_le _,.inl rfl⟩
     · exact ⟨h4,_,cp,rfl,h5,.inr ⟨b,off,c,t,fz,cs,rest,rfl,hh.imm _ _ h1,h2,h3,ho⟩⟩
   · cases h
 · rename_i l i off len
   split at h
   · rename_i e he
     split at h
     · rename_i hid
       split at h
       · rename_i pu' sz' ys hobj
         split at h
         · rename_i hcond;obtain ⟨rfl,hle⟩:=hcond
           cases h
           obtain ⟨L,h2,h3⟩:=hh.own l e (hl l e he)
           rw [hobj] at h3
           have hlen:((ys.drop off).take len).length=len:=by simp;omega
           rcases zafN hx with ⟨rfl,⟨a,rfl⟩,_⟩|⟨b,base,sz,cap,c,rfl,h1,h5,h6⟩
           · refine ⟨by simp,a,0,by simp,by simp,.inl (by simp)⟩
           · rw [hid,h1] at h2;cases h2
             cases h3 with
             | row hw hr hc hs hn hb hf ho =>
               rename_i cells t fz cs rest
               refine ⟨fun y hy=>hs y (List.mem_of_mem_drop (List.mem_of_mem_take hy)),_,c,by rw [hlen],by omega,?_⟩
               right
               have e1:ys=ys.take off++((ys.drop off).take len++(ys.drop off).drop len):=by rw [List.take_append_drop,List.take_append_drop]
               rw [e1] at hr
               obtain ⟨c1,c23,rfl,h7,h8⟩:=hr.cs_append_inv
               obtain ⟨c2,c3,rfl,h9,h10⟩:=h8.cs_append_inv
               refine ⟨b,_,cells,t,fz,c2,c3++rest,rfl,hw,h9,?_,fun u hu=>ho u (by simp [hu])⟩
               have hl1:c1.length=off*sz':=by
                 rw [h7.cs_length,AV.fszs_uniform fun y hy=>hs y (List.mem_of_mem_take hy),List.length_take,Nat.min_eq_left (by omega)]
               rw [<-List.drop_drop,hc,<-hl1,List.append_assoc,List.drop_left];simp
         · cases h
       · cases h
     · cases h
   · cases h
 · cases h
def elems (look:Nat->Option Ent)(sz:Nat)(x:AV):Option (List AV):=match zafE look sz x with
 | some q=>some q.2
 | none=>none
theorem zako {τ:Hp} (hh:Holds E τ w) {look:Nat->Option Ent} (hl:∀ l e,look l=some e->aget τ l=some e) (hx:VR E x v)
  (h:elems look sz x=some xs):(∀ y∈xs,y.fsz=sz)/\∃ a c,v = .slice a xs.length c/\xs.length<=c/\(xs=[]∨∃ b o cells t fz cs rest,a=some ⟨b,o,none⟩/\w.heap[b]?=some (.cells cells t fz)/\RR E .cs xs cs /\
   cells.toList.drop o=cs++rest/\(∀ u∈cs,u.oneCell'=true)):=by
 unfold elems at h
 split at h
 · rename_i q hq;cases h
   obtain ⟨h1,a,c,h2,h3,h4⟩:=zadh hh hl hx hq
   refine ⟨h1,a,c,h2,h3,h4.imp id ?_⟩
   rintro ⟨b,o,cells,t,fz,cs,rest,g1,g2,g3,g4⟩
   exact ⟨b,o,cells,t,fz,cs,rest,g1,g2,g3.mono (E.sel_le _),g4⟩
 · cases h
end
end Go.AS
