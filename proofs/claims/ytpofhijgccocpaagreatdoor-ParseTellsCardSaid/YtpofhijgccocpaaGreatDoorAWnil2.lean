/- A struct alone, whose slice is nil. -/
import Derived.Test.YtpofhijgccocpaaGreatDoorAWnil
namespace Go.AS
noncomputable section
theorem FOk.nil2 {P:Program} {gl:Nat->Option AV} {f:FuncId} {xs:List AV} {r:Back} {sz sz' n a b:Nat} {pre post pre' post' ys:List AV} {σ1:Hp} (hgl:∀ g x,gl g=some x->zabF x=true)
  (h1:zaaD pre=true) (h2:zaaD post=true) (h3:zaaD pre'=true) (h4:zaaD post'=true) (hxs:zaaD xs=true) (hx:zabF r.x=true)
  (hσ1:∀ k,aget σ1 k=if k=1048577 then some ⟨[0,0],.row true sz' []⟩ else if k=1048578 then some ⟨[1,0],.row false sz [.agg (pre ++ .slc 1048577 [0,0] 0 0::post)]⟩ else none)
  (hr:∀ k,aget r.σ k=if k=1048577 then some ⟨[0,1],.row true sz' ys⟩ else if k=1048578 then some ⟨[1,0],.row false sz [.agg (pre' ++ .slc 1048577 [0,1] 0 n::post')]⟩ else none)
  (h:FOk P gl f (.ptr 1048578 [1,0] a b::xs) σ1 r) :
  FOk P gl f (.ptr 1048577 [0,0] a b::xs) (hpL [(1048577,⟨[0,0],.row false sz [.agg (pre ++ .agg [.lit (.slice none 0 0)]::post)]⟩)])
   ⟨r.x,hpL [(1048577,⟨[0,0],.row false sz [.agg (pre' ++ .slc 1048578 [0,1] 0 n::post')]⟩),(1048578,⟨[0,1],.row true sz' ys⟩)],[1048577,1048578]⟩:=by
 intro E w vals hg hh hf hn hv
 have hs:∀ k,aget (hpL [(1048577,(⟨[0,0],.row false sz [.agg (pre ++ .agg [.lit (.slice none 0 0)]::post)]⟩:Ent))]) k=if k=1048577 then some ⟨[0,0],.row false sz [.agg (pre ++ .agg [.lit (.slice none 0 0)]::post)]⟩ else none:=by
  intro k
  simp only [hpL]
  rw [zaad,zaax]
 have ht:∀ k,aget (hpL [(1048577,(⟨[0,0],.row false sz [.agg (pre' ++ .slc 1048578 [0,1] 0 n::post')]⟩:Ent)),(1048578,⟨[0,1],.row true sz' ys⟩)]) k=if k=1048577 then some ⟨[0,0],.row false sz [.agg (pre' ++ .slc 1048578 [0,1] 0 n::post')]⟩ else if k=1048578 then some ⟨[0,1],.row true sz' ys⟩ else none:=by
  intro k
  simp only [hpL]
  rw [zaad,zaad,zaax]
 generalize hσe:hpL [(1048577,(⟨[0,0],.row false sz [.agg (pre ++ .agg [.lit (.slice none 0 0)]::post)]⟩:Ent))]=σ at *
 generalize hτe:hpL [(1048577,(⟨[0,0],.row false sz [.agg (pre' ++ .slc 1048578 [0,1] 0 n::post')]⟩:Ent)),(1048578,⟨[0,1],.row true sz' ys⟩)]=τ at *
 obtain ⟨L,hL,hO⟩:=hh.own 1048577 _ ((hs _).trans (if_pos rfl))
 have hL:E.ρ [0,0]=some L:=hL
 let E1:Env:=⟨fun i=>if i=[1,0] then some L else if i=[0,0] then some .ghost else none,E.m⟩
 have e10:E1.ρ [1,0]=some L:=by
  show (if ([1,0]:Id)=[1,0] then some L else if ([1,0]:Id)=[0,0] then some Loc.ghost else none)=_
  exact if_pos rfl
 have e00:E1.ρ [0,0]=some .ghost:=by
  show (if ([0,0]:Id)=[1,0] then some L else if ([0,0]:Id)=[0,0] then some Loc.ghost else none)=_
  rw [if_neg (by decide),if_pos rfl]
 have hp1:E.pure.le E1:=⟨fun i L h'=>absurd (show none=some L from h') (fun c=>by cases c),fun _ _ h=>h⟩
 have purl:∀ {x:AV} {v:Value} {A B:Env},zabF x=true->A.pure.le B->VR A x v->VR B x v:=by
  intro x v A B hx hAB h
  refine (RR.pure_of h ?_).mono hAB
  show (zabF x&&true)=true
  rw [hx];rfl
 have split1:∀ {A B:Env} {l l' m:Nat} {i i':Id} {u:AV},A.pure.le B->(∀ v,VR A u v->VR B (.slc l' i' 0 m) v)->∀ {p q:List AV} {cs:List Value},zaaD p=true->zaaD q=true->RR A .cs (p++u::q) cs->RR B .cs (p ++ .slc l' i' 0 m::q) cs:=by
  intro A B l l' m i i' u hAB hu p
  induction p with
  | nil =>
   intro q cs _ hq h
   cases h with
   | ccons h hs=>exact .ccons (hu _ h) ((RR.pure_of hs hq).mono hAB)
  | cons c p ih =>
   intro q cs hp hq h
   have hp:(zabF c&&zaaD p)=true:=hp
   rw [Bool.and_eq_true] at hp
   cases h with
   | ccons h hs=>exact .ccons (purl hp.1 hAB h) (ih hp.2 hq hs)
 have flat:∀ {p q:List AV} {cs:List Value},RR E .cs (p ++ .agg [.lit (.slice none 0 0)]::q) cs->RR E .cs (p ++ .lit (.slice none 0 0)::q) cs:=by
  intro p
  induction p with
  | nil =>
   intro q cs h
   cases h with
   | ccons h hs =>
    cases h with
    | agg h =>
     cases h with
     | ccons h h2 =>
      cases h2;cases h
      have e:(Value.agg ((Value.slice none 0 0).cells.toList++[]).toArray).cells.toList=(Value.slice none 0 0).cells.toList:=by simp [Value.cells]
      rw [e]
      exact .ccons (.lit (.slice none 0 0)) hs
  | cons c p ih =>
   intro q cs h
   cases h with
   | ccons h hs=>exact .ccons h (ih hs)
 have fszE:∀ (u u':AV) (p q:List AV),u.fsz=u'.fsz->AV.fszs (p++u::q)=AV.fszs (p++u'::q):=by
  intro u u' p q hu
  induction p with
  | nil=>show u.fsz+_=u'.fsz+_;rw [hu]
  | cons c p ih=>exact congrArg (c.fsz + ·) ih
 have own1:∀ b,Own E1 σ1 b->Own E σ b:=by
  rintro b ⟨k,e,L',a1,a2,a3⟩
  rw [hσ1] at a1
  split at a1
  · cases a1;rw [show E1.ρ [0,0]=some .ghost from e00] at a2;cases a2;cases a3
  · split at a1
    · cases a1
      rw [show E1.ρ [1,0]=some L from e10] at a2;cases a2
      exact ⟨1048577,_,L,(hs _).trans (if_pos rfl),hL,a3⟩
    · cases a1
 have hh1:Holds E1 σ1 w:=by
  refine ⟨hh.imm,?_,fun b hb=>hh.apart b (own1 b hb),?_⟩
  · intro k e a1
    rw [hσ1] at a1
    split at a1
    · cases a1;exact ⟨_,e00,.ghost _ _⟩
    · split at a1
      · cases a1
        refine ⟨L,e10,?_⟩
        cases hO with
        | row h hx hc hs' hn' hb hf' ho =>
          refine .row h ?_ hc ?_ hn' hb hf' ho
          · cases hx with
            | ccons hx hr =>
              cases hr
              cases hx with
              | agg hx=>exact .ccons (.agg (split1 (l:=0) (i:=[]) hp1 (fun v hv=>by cases hv;exact .slcZ _ 0 none e00) h1 h2 (flat hx))) .cnil
          · intro x hx
            rw [List.mem_singleton] at hx;subst hx
            rw [<-hs' _ (List.mem_singleton.2 rfl)]
            exact fszE _ _ pre post rfl
      · cases a1
  · intro k1 k2 e1 e2 L1 L2 b a1 a2 a3 a4 a5 a6
    have src:∀ k e L',aget σ1 k=some e->E1.ρ e.id=some L'->L'.blk?=some b->k=1048578:=by
      intro k e L' c1 c2 c3
      rw [hσ1] at c1
      split at c1
      · cases c1;rw [show E1.ρ [0,0]=some .ghost from e00] at c2;cases c2;cases c3
      · split at c1
        · assumption
        · cases c1
    rw [src _ _ _ a1 a3 a5,src _ _ _ a2 a4 a6]
 have hg1:GLr gl E1:=fun g x hx=>⟨purl (hgl g x hx) hp1 (hg g x hx).vr,(hg g x hx).tab⟩
 have hf1:∀ k,1<=k->Fresh E1 [k]:=by
  intro k hk i hi
  show (if i=[1,0] then _ else _)=none
  split
  · rename_i e;subst e;have:=suf1 hi;omega
  · split
    · rename_i e;subst e;have:=suf1 hi;omega
    · rfl
 have hn1:Canon E1 σ1:=by
  intro j hj i hi
  show (if i=[1,0] then _ else _)=none
  split
  · rename_i e;subst e
    have:=suf2 hi;subst this
    exact absurd rfl (hj 1048578 _ ((hσ1 _).trans ((if_neg (by decide)).trans (if_pos rfl))))
  · split
    · rename_i e;subst e
      have:=suf2 hi;subst this
      exact absurd rfl (hj 1048577 _ ((hσ1 _).trans (if_pos rfl)))
    · rfl
 have hv1:RR E1 .vs (.ptr 1048578 [1,0] a b::xs) vals:=by
  cases hv with
  | vcons h hs =>
   refine .vcons ?_ ((RR.pure_of hs hxs).mono hp1)
   cases h with
   | ptr _ _ _ h =>
    rw [hL] at h;cases h
    exact .ptr _ _ _ e10
 refine (h E1 w vals hg1 hh1 hf1 hn1 hv1).imp ?_
 rintro v w' ⟨os,q,E',rfl,k1,k2,k3,k4⟩
 let E2:Env:=⟨fun i=>if i=[0,1] then E'.ρ [0,1] else E.ρ i,E'.m⟩
 have f01:E2.ρ [0,1]=E'.ρ [0,1]:=by
  show (if ([0,1]:Id)=[0,1] then E'.ρ [0,1] else E.ρ [0,1])=_
  exact if_pos rfl
 have f00:E2.ρ [0,0]=some L:=by
  show (if ([0,0]:Id)=[0,1] then E'.ρ [0,1] else E.ρ [0,0])=_
  rw [if_neg (by decide)];exact hL
 have g10:E'.ρ [1,0]=some L:=k4.le.ρ _ _ e10
 have hp2:E'.pure.le E2:=⟨fun i L h'=>absurd (show none=some L from h') (fun c=>by cases c),fun _ _ h=>h⟩
 have hle:E.le E2:=by
  refine ⟨fun i L' hi => ?_,k4.le.m⟩
  show (if i=[0,1] then _ else _)=_
  split
  · rename_i e;subst e
    rw [hf 1 (Nat.le_refl _) [0,1] ⟨[0],rfl⟩] at hi;cases hi
  · exact hi
 have own2:∀ k e L',aget τ k=some e->E2.ρ e.id=some L'->∃ k' e',aget q.σ k'=some e'/\E'.ρ e'.id=some L'/\(k=1048577/\k'=1048578∨k=1048578/\k'=1048577):=by
  intro k e L' a1 a2
  rw [ht] at a1
  split at a1
  · cases a1
    rw [show E2.ρ [0,0]=some L from f00] at a2;cases a2
    exact ⟨1048578,_,(hr _).trans ((if_neg (by decide)).trans (if_pos rfl)),g10,.inl ⟨‹_›,rfl⟩⟩
  · split at a1
    · cases a1
      exact ⟨1048577,_,(hr _).trans (if_pos rfl),f01.symm.trans a2,.inr ⟨‹_›,rfl⟩⟩
    · cases a1
 have hown:∀ b,Own E2 τ b->Own E' q.σ b:=by
  rintro b ⟨k,e,L',a1,a2,a3⟩
  obtain ⟨k',e',c1,c2,_⟩:=own2 k e L' a1 a2
  exact ⟨k',e',L',c1,c2,a3⟩
 refine ⟨os,_,E2,rfl,⟨fun k hk => ?_,fun k e he => ?_⟩,purl hx hp2 k2,⟨k3.imm,?_,fun b hb=>k3.apart b (hown b hb),?_⟩,⟨hle,k4.os,k4.tape,k4.output,k4.size,fun b hb ho=>k4.kept b hb fun c=>ho (own1 b c),fun b hb=>(k4.ownNew b (hown b hb)).imp_left (own1 b),fun b hb=>(k4.mNew b hb).imp_right (Or.imp_left (own1 b))⟩⟩
 · have n1:k≠1048577:=by rintro rfl;exact hk (by simp)
   have n2:k≠1048578:=by rintro rfl;exact hk (by simp)
   show aget τ k=aget σ k
   rw [ht,hs,if_neg n1,if_neg n2,if_neg n1]
 · rw [hs] at he
   split at he
   · rename_i e1;exact ⟨_,(ht k).trans (if_pos e1)⟩
   · cases he
 · intro k e hk
   rw [ht] at hk
   split at hk
   · cases hk
     refine ⟨L,f00,?_⟩
     obtain ⟨L2,b1,b2⟩:=k3.own 1048578 _ ((hr _).trans ((if_neg (by decide)).trans (if_pos rfl)))
     rw [show E'.ρ [1,0]=some L from g10] at b1;cases b1
     cases b2 with
     | row h hx hc hs' hn' hb hf' ho =>
       refine .row h ?_ hc ?_ hn' hb hf' ho
       · cases hx with
         | ccons hx hr =>
           cases hr
           cases hx with
           | agg hx =>
             refine .ccons (.agg (split1 (l:=0) (i:=[]) hp2 (fun v hv => ?_) h3 h4 hx)) .cnil
             cases hv with
             | slc _ h q1 q2=>exact .slc _ (f01.trans h) q1 q2
             | slcZ _ _ a h=>exact .slcZ _ 0 a (f01.trans h)
       · intro x hx
         rw [List.mem_singleton] at hx;subst hx
         rw [<-hs' _ (List.mem_singleton.2 rfl)]
         exact fszE _ _ pre' post' rfl
   · split at hk
     · cases hk
       obtain ⟨L2,b1,b2⟩:=k3.own 1048577 _ ((hr _).trans (if_pos rfl))
       refine ⟨L2,f01.trans b1,?_⟩
       cases b2 with
       | row h hx hc hs' hn' hb hf' ho=>exact .row h ((show RR E'.pure .cs ys _ from hx).mono ⟨fun _ _ h=>h,fun _ _ h=>h⟩) hc hs' hn' hb hf' ho
       | ghost _ _=>exact .ghost _ _
     · cases hk
 · intro c1 c2 e1 e2 L1 L2 bb a1 a2 a3 a4 a5 a6
   obtain ⟨d1,u1,x1,y1,z1⟩:=own2 _ _ _ a1 a3
   obtain ⟨d2,u2,x2,y2,z2⟩:=own2 _ _ _ a2 a4
   have:=k3.inj _ _ _ _ _ _ _ x1 x2 y1 y2 a5 a6
   omega
def zajY (o o':AObj):Prop:=∀ E w L,ObjR E w o L↔ObjR E w o' L
def zaer (σ τ:Hp):Prop:=∀ k,(aget σ k=none/\aget τ k=none)∨∃ e e',aget σ k=some e/\aget τ k=some e'/\e.id=e'.id/\zajY e.obj e'.obj
variable {σ τ:Hp} {E:Env}
theorem zaer.get (h:zaer σ τ){k:Nat}{e':Ent}(hk:aget τ k=some e'):∃ e,aget σ k=some e/\e.id=e'.id/\zajY e.obj e'.obj:=by
 rcases h k with ⟨_,h2⟩|⟨e,e2,h1,h2,h3,h4⟩
 · rw [h2] at hk;cases hk
 · rw [h2] at hk;cases hk;exact ⟨e,h1,h3,h4⟩
theorem zaer.symm (h:zaer σ τ):zaer τ σ:=fun k=>(h k).imp (fun q=>⟨q.2,q.1⟩) fun ⟨e,e',h1,h2,h3,h4⟩=>⟨e',e,h2,h1,h3.symm,fun E w L=>(h4 E w L).symm⟩
theorem zaer.own (h:zaer σ τ){b:Nat}:Own E τ b->Own E σ b:=by
 rintro ⟨k,e,L,a1,a2,a3⟩
 obtain ⟨e',h1,h2,_⟩:=h.get a1
 exact ⟨k,e',L,h1,by rw [h2];exact a2,a3⟩
theorem zaer.holds (h:zaer σ τ){w:World}(hh:Holds E σ w):Holds E τ w:=by
 refine ⟨hh.imm,fun k e hk => ?_,fun b hb=>hh.apart b (h.own hb),fun k1 k2 e1 e2 L1 L2 b a1 a2 a3 a4 a5 a6 => ?_⟩
 · obtain ⟨e',h1,h2,h3⟩:=h.get hk
   obtain ⟨L,c1,c2⟩:=hh.own k e' h1
   exact ⟨L,by rw [<-h2];exact c1,(h3 E w L).1 c2⟩
 · obtain ⟨d1,u1,u2,_⟩:=h.get a1
   obtain ⟨d2,v1,v2,_⟩:=h.get a2
   exact hh.inj k1 k2 d1 d2 L1 L2 b u1 v1 (by rw [u2];exact a3) (by rw [v2];exact a4) a5 a6
theorem FOk.same {P:Program}{gl:Nat->Option AV}{f:FuncId}{xs:List AV}{σ':Hp}{r:Back}(h1:zaer σ σ')(h2:zaer r.σ τ)(hk:Kept σ' τ r.ws)(h:FOk P gl f xs σ r):FOk P gl f xs σ' ⟨r.x,τ,r.ws⟩:=by
 intro E w vals hg hh hf hn hv
 refine (h E w vals hg (h1.symm.holds hh) hf (fun j hj=>hn j fun l e hl=>by
  obtain ⟨e',q1,q2,_⟩:=h1.get hl
  rw [<-q2];exact hj l e' q1) hv).imp ?_
 rintro v w' ⟨os,q,E',rfl,k1,k2,k3,k4⟩
 exact ⟨os,_,E',rfl,hk,k2,h2.holds k3,⟨k4.le,k4.os,k4.tape,k4.output,k4.size,fun b hb ho=>k4.kept b hb fun c=>ho (h1.symm.own c),fun b hb=>(k4.ownNew b (h2.own hb)).imp_left h1.symm.own,fun b hb=>(k4.mNew b hb).imp_right (Or.imp_left h1.symm.own)⟩⟩
theorem zajW (v:Value):(Value.agg (v.cells.toList++[]).toArray).cells.toList=v.cells.toList:=by simp [Value.cells]
theorem zajI {E:Env}{l o n:Nat}{i:Id}{q:List AV}:∀ {p:List AV} {cs:List Value},RR E .cs (p ++ .agg [.slc l i o n]::q) cs↔RR E .cs (p ++ .slc l i o n::q) cs
 | [],cs=>by
  constructor
  · intro h
    cases h with
    | ccons h hs =>
      cases h with
      | agg h =>
        cases h with
        | ccons h h2 =>
          cases h2
          rw [zajW]
          exact .ccons h hs
  · intro h
    cases h with
    | ccons h hs =>
      have g:=RR.ccons (.agg (.ccons h .cnil)) hs
      rw [zajW] at g
      exact g
 | c::p,cs=>by
  constructor
  · intro h
    cases h with
    | ccons h hs=>exact .ccons h (zajI.1 hs)
  · intro h
    cases h with
    | ccons h hs=>exact .ccons h (zajI.2 hs)
theorem zaiH (u u':AV)(q:List AV)(hu:u.fsz=u'.fsz):∀ p:List AV,AV.fszs (p++u::q)=AV.fszs (p++u'::q)
 | []=>by show u.fsz+_=u'.fsz+_;rw [hu]
 | c::p=>congrArg (c.fsz + ·) (zaiH u u' q hu p)
theorem zaji (sz l o n:Nat)(i:Id)(p q:List AV):zajY (.row false sz [.agg (p ++ .slc l i o n::q)]) (.row false sz [.agg (p ++ .agg [.slc l i o n]::q)]):=by
 intro E w L
 constructor
 · intro h
   cases h with
   | row h hx hc hs hn hb hf ho =>
     refine .row h ?_ hc ?_ hn hb hf ho
     · cases hx with
       | ccons hx hr =>
         cases hr
         cases hx with
         | agg hx=>exact .ccons (.agg (zajI.2 hx)) .cnil
     · intro x hx
       rw [List.mem_singleton] at hx;subst hx
       rw [<-hs _ (List.mem_singleton.2 rfl)]
       show AV.fszs (p++_::q)=AV.fszs (p++_::q)
       exact zaiH (.agg [.slc l i o n]) (.slc l i o n) q rfl p
 · intro h
   cases h with
   | row h hx hc hs hn hb hf ho =>
     refine .row h ?_ hc ?_ hn hb hf ho
     · cases hx with
       | ccons hx hr =>
         cases hr
         cases hx with
         | agg hx=>exact .ccons (.agg (zajI.1 hx)) .cnil
     · intro x hx
       rw [List.mem_singleton] at hx;subst hx
       rw [<-hs _ (List.mem_singleton.2 rfl)]
       show AV.fszs (p++_::q)=AV.fszs (p++_::q)
       exact zaiH (.slc l i o n) (.agg [.slc l i o n]) q rfl p
end
end Go.AS
