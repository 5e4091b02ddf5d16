/- Regions in their text's order; code; a function's body. -/
import Derived.Test.YtpofhijgccocpaaGreatDoorASo
namespace Go.AS
noncomputable section
structure St (C:Cx) (n:Nat) (p:Id) (c:Nat) (fr:Fr) (σ:Hp) (E:Env) (w:World) (a:Act):Prop where
 gl:GL C E
 fr:FR E n fr a
 holds:Holds E σ w
 fresh:∀ k,c<=k->Fresh E (k::p)
def zaui (all:List Oper)(j:Nat):Option Tmp:=lrec (fun _=>none) (fun o _ ih k=>nsel o.dst ih k) all j
theorem zamP:∀ (all:List Oper) (j:Nat),zaui all j=(all[j]?).bind (·.dst)
 | [],j=>by simp [zaui,zamb]
 | o::r,0=>by simp [zaui,zagz,zaoo]
 | o::r,j+1=>by
  have:=zamP r j
  simp only [zaui] at this
  simp only [zaui,zagz,zaop,this,List.getElem?_cons_succ]
def zaBp (want:Bool):AV->Option Bool
 | .lit v=>match v with
  | .bool b=>match want with
   | true=>some b
   | false=>some (!b)
  | .tuple _=>some false
  | _=>none
 | _=>none
def zano (all:List Oper)(fr:Fr):Option (Nat × Bool)->Option Bool
 | none=>some true
 | some (j,want)=>obind (zaui all j) fun d=>obind (aget fr d) (zaBp want)
theorem zado {E:Env}{n:Nat}{fr:Fr}{a:Act}(hf:FR E n fr a){ops:Array Oper}{o:Oper}{b:Bool}(h:zano ops.toList fr o.guard=some b):Region.wanted o (yielded ops a.tmps)=b:=by
 unfold zano at h
 unfold Region.wanted
 split at h
 · rename_i hg;rw [hg];cases h;rfl
 · rename_i j want hg
   rw [hg]
   obtain ⟨d,h1,h2⟩:=zabq h
   obtain ⟨x,h3,h4⟩:=zabq h2
   rw [zamP,Option.bind_eq_some_iff] at h1
   obtain ⟨g,hj,hd⟩:=h1
   have hj':ops[j]?=some g:=by simpa using hj
   obtain ⟨v,k1,k2⟩:=hf.at_ d _ h3
   unfold zaBp at h4
   split at h4
   · have:=k2.lit_inv;subst this
     split at h4
     · rename_i t
       have hy:yielded ops a.tmps j=some t:=by simp [yielded,hj',hd,k1]
       simp only [hy]
       cases want<;>cases t<;>(cases h4;rfl)
     · rename_i us
       have hy:yielded ops a.tmps j=none:=by simp [yielded,hj',hd,k1]
       simp only [hy]
       cases h4;rfl
     · cases h4
   · cases h4
def putF (n:Nat)(fr:Fr)(dst:Option Tmp)(x:AV):Fr :=
 match dst with
 | none=>fr
 | some d=>match Nat.blt d n with
  | true=>aset fr d x
  | false=>adel fr d
theorem zacI {E:Env}{n:Nat}{fr:Fr}{a:Act}(hf:FR E n fr a)(dst:Option Tmp){x:AV}{v:Value}(hx:VR E x v):FR E n (putF n fr dst x) (a.put dst v):=by
 cases dst with
 | none=>exact hf
 | some d =>
  refine ⟨by simp [Act.put,hf.size],hf.defers,fun t y ht => ?_⟩
  unfold putF at ht
  simp only at ht
  split at ht
  · rename_i hb
    have hlt:d<n:=by simpa using hb
    rw [zaad] at ht
    split at ht
    · rename_i e;cases ht;subst e
      exact ⟨v,by simp [Act.put,hf.size,hlt],hx⟩
    · rename_i hne
      obtain ⟨u,h1,h2⟩:=hf.at_ t y ht
      exact ⟨u,by simp only [Act.put];rw [Array.getElem?_setIfInBounds_ne (fun e=>hne e.symm)];exact h1,h2⟩
  · rw [zabR] at ht
    split at ht
    · cases ht
    · rename_i hne
      obtain ⟨u,h1,h2⟩:=hf.at_ t y ht
      exact ⟨u,by simp only [Act.put];rw [Array.getElem?_setIfInBounds_ne (fun e=>hne e.symm)];exact h1,h2⟩
inductive Ex where
 | normal|exit (id:Nat)|ret
def Ex.to:Ex->Exit
 | .normal => .normal
 | .exit i => .exit i
 | .ret => .ret
abbrev zanm:=Ex->Nat->Fr->Hp->Prop
def Post (C:Cx)(n:Nat)(p:Id)(E:Env)(σ:Hp)(w:World)(Q:zanm)(e:Exit)(a':Act)(w':World):Prop :=
 ∃ ex c' fr' σ' E',Q ex c' fr' σ'/\ex.to=e/\St C n p c' fr' σ' E' w' a'/\Adv E σ w E' σ' w'/\zac6 E E' p
def AX (C:Cx)(n:Nat)(p:Id)(code:Code)(c:Nat)(fr:Fr)(σ:Hp)(Q:zanm):Prop :=
 ∀ E w a,St C n p c fr σ E w a->code.wp C.P (Post C n p E σ w Q) a w
section
variable {C:Cx} {n:Nat} {p:Id} {c:Nat} {fr:Fr} {σ:Hp} {Q:zanm}
theorem Post.after {E E':Env}{σ σ':Hp}{w w':World}(ha:Adv E σ w E' σ' w')(hn:zac6 E E' p){e:Exit}{a:Act}{w'':World}(h:Post C n p E' σ' w' Q e a w''):Post C n p E σ w Q e a w'':=by
 obtain ⟨ex,c',fr',σ'',E'',h1,h2,h3,h4,h5⟩:=h
 exact ⟨ex,c',fr',σ'',E'',h1,h2,h3,ha.trans h4,hn.trans h5⟩
theorem AX.mono {code:Code}{Q':zanm}(h:AX C n p code c fr σ Q)(hq:∀ e c fr σ,Q e c fr σ->Q' e c fr σ):AX C n p code c fr σ Q':=fun E w a hs =>
 wp_mono (h E w a hs) fun e a w ⟨ex,c',fr',σ',E',h1,h2⟩=>⟨ex,c',fr',σ',E',hq _ _ _ _ h1,h2⟩
theorem AX.skip (h:Q .normal c fr σ):AX C n p .skip c fr σ Q:=fun E _ _ hs=>wp_skip ⟨.normal,c,fr,σ,E,h,rfl,hs,.refl _ _ _,.refl _ _⟩
theorem AX.exit {i:Nat}(h:Q (.exit i) c fr σ):AX C n p (.exit i) c fr σ Q:=fun E _ _ hs=>wp_exit ⟨.exit i,c,fr,σ,E,h,rfl,hs,.refl _ _ _,.refl _ _⟩
theorem AX.ret (h:Q .ret c fr σ):AX C n p .ret c fr σ Q:=fun E _ _ hs=>wp_ret ⟨.ret,c,fr,σ,E,h,rfl,hs,.refl _ _ _,.refl _ _⟩
def seqK (Q:zanm)(next:Nat->Fr->Hp->Prop):zanm:=fun e c fr σ=>match e with
 | .normal=>next c fr σ
 | .exit i=>Q (.exit i) c fr σ
 | .ret=>Q .ret c fr σ
theorem AX.seq {x y:Code}(h:AX C n p x c fr σ (seqK Q fun c fr σ=>AX C n p y c fr σ Q)):AX C n p (.seq x y) c fr σ Q:=fun E w a hs =>
 wp_seq (wp_mono (h E w a hs) fun e a w ⟨ex,c',fr',σ',E',h1,h2,h3,h4,h5⟩=>by
  cases ex<;>subst h2
  · exact wp_mono (h1 E' w a h3) fun e a w h=>h.after h4 h5
  · exact ⟨.exit _,c',fr',σ',E',h1,rfl,h3,h4,h5⟩
  · exact ⟨.ret,c',fr',σ',E',h1,rfl,h3,h4,h5⟩)
theorem AX.cond {o:Operand}{x y:Code}{t:Bool}(ho:ev C fr o=some (.lit (.bool t)))(h:match t with|true=>AX C n p x c fr σ Q|false=>AX C n p y c fr σ Q):AX C n p (.cond o x y) c fr σ Q:=fun E w a hs=>by
 have:=(zaaj hs.gl hs.fr ho).lit_inv
 refine wp_cond this ?_
 cases t
 · exact h E w a hs
 · exact h E w a hs
def zam4 (i:Nat)(Q:zanm):zanm:=fun e c fr σ=>match e with
 | .exit j=>match Nat.beq j i with
  | true=>Q .normal c fr σ
  | false=>Q (.exit j) c fr σ
 | .normal=>Q .normal c fr σ
 | .ret=>Q .ret c fr σ
theorem AX.block {i:Nat}{x:Code}(h:AX C n p x c fr σ (zam4 i Q)):AX C n p (.block i x) c fr σ Q:=fun E w a hs =>
 wp_block (wp_mono (h E w a hs) fun e a w ⟨ex,c',fr',σ',E',h1,h2,h3,h4,h5⟩=>by
  cases ex with
  | normal=>subst h2;exact ⟨.normal,c',fr',σ',E',h1,rfl,h3,h4,h5⟩
  | exit j =>
   subst h2
   simp only [zam4] at h1
   simp only [Exit.inBlock,Ex.to]
   split at h1
   · rename_i e
     have:j=i:=by simpa using e
     rw [if_pos this]
     exact ⟨.normal,c',fr',σ',E',h1,rfl,h3,h4,h5⟩
   · rename_i e
     have:j≠i:=fun hji=>by subst hji;simp at e
     rw [if_neg this]
     exact ⟨.exit j,c',fr',σ',E',h1,rfl,h3,h4,h5⟩
  | ret=>subst h2;exact ⟨.ret,c',fr',σ',E',h1,rfl,h3,h4,h5⟩)
theorem zakW {P:Program}{Q:Exit->Act->World->Prop}{x:Code}(I:Nat->Act->World->Prop)(hr:∀ k a w,I k a w->x.wp P (Exit.then (fun a' w'=>∃ k',k'<k/\I k' a' w') Q) a w) :
  ∀ k a w,I k a w->(Code.loop x).wp P Q a w:=by
 intro k a w h₀ b t cs
 have key:∀ m a w,I m a w->∃ e a' w',Q e a' w'/\Arrives P (lone (b.at a (.code x :: .inLoop x::t)) cs w) b t cs e a' w':=by
  intro m
  induction m using Nat.strongRecOn with
  | _ m ih =>
   intro a w hI
   obtain ⟨e,a₁,w₁,hq,harr⟩:=hr m a w hI b (.inLoop x::t) cs
   cases e with
   | normal =>
    obtain ⟨m',hlt,hI₁⟩:=hq
    obtain ⟨e₂,a₂,w₂,hq₂,harr₂⟩:=ih m' hlt a₁ w₁ hI₁
    exact ⟨e₂,a₂,w₂,hq₂,.of_steps (Steps.trans harr (.one step_inLoop)) harr₂⟩
   | exit id=>exact ⟨_,a₁,w₁,hq,.pass (x := .inLoop x) rfl (fun _ _ => .inl (by simp)) harr⟩
   | goto l=>exact ⟨_,a₁,w₁,hq,.pass (x := .inLoop x) rfl (fun _ _ => .inl (by simp)) harr⟩
   | ret=>exact ⟨_,a₁,w₁,hq,.pass (x := .inLoop x) rfl (fun _ _ => .inl (by simp)) harr⟩
   | panic ch=>exact ⟨_,a₁,w₁,hq,.pass (x := .inLoop x) rfl (fun _ _ => .inl (by simp)) harr⟩
   | outgrown=>exact ⟨_,a₁,w₁,hq,.pass (x := .inLoop x) rfl (fun _ _ => .inl (by simp)) harr⟩
 obtain ⟨e,a',w',hq,harr⟩:=key k a w h₀
 exact ⟨e,a',w',hq,.of_steps (.one step_loop) harr⟩
theorem AX.loop {x:Code} (I:Nat->Nat->Fr->Hp->Prop) {k:Nat} (h0:I k c fr σ)
  (hr:∀ k c fr σ,I k c fr σ->AX C n p x c fr σ (seqK Q fun c' fr' σ'=>∃ k',k'<k/\I k' c' fr' σ')):AX C n p (.loop x) c fr σ Q:=fun E w a hs=>by
 refine zakW (fun k a' w'=>∃ c' fr' σ' E',I k c' fr' σ'/\St C n p c' fr' σ' E' w' a'/\Adv E σ w E' σ' w'/\zac6 E E' p) ?_ k a w ⟨c,fr,σ,E,h0,hs,.refl _ _ _,.refl _ _⟩
 rintro k a' w' ⟨c',fr',σ',E',h1,h2,h3,h4⟩
 refine wp_mono (hr k c' fr' σ' h1 E' w' a' h2) ?_
 rintro e a'' w'' ⟨ex,c'',fr'',σ'',E'',k1,k2,k3,k4,k5⟩
 cases ex with
 | normal=>subst k2;obtain ⟨k',hlt,hI⟩:=k1;exact ⟨k',hlt,c'',fr'',σ'',E'',hI,k3,h3.trans k4,h4.trans k5⟩
 | exit j=>subst k2;exact ⟨.exit j,c'',fr'',σ'',E'',k1,rfl,k3,h3.trans k4,h4.trans k5⟩
 | ret=>subst k2;exact ⟨.ret,c'',fr'',σ'',E'',k1,rfl,k3,h3.trans k4,h4.trans k5⟩
end
end
end Go.AS
