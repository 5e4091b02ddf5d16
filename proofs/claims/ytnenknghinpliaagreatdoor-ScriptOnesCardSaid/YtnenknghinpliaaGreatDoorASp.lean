/- Regions in their text's order; code; a function's body. -/
import Derived.Test.YtnenknghinpliaaGreatDoorASo
namespace Go.AS
noncomputable section

structure St (C : Cx) (n : Nat) (p : Id) (c : Nat) (fr : Fr) (σ : Hp) (E : Env) (w : World) (a : Act) : Prop where
  gl : GL C E
  fr : FR E n fr a
  holds : Holds E σ w
  fresh : ∀ k, c ≤ k → Fresh E (k :: p)

/-- The slot that operation j of a region writes. -/
def dstOf (all : List Oper) (j : Nat) : Option Tmp := lrec (fun _ => none) (fun o _ ih k => nsel o.dst ih k) all j
theorem dstOf_eq : ∀ (all : List Oper) (j : Nat), dstOf all j = (all[j]?).bind (·.dst)
  | [], j => by simp [dstOf, lrec_nil]
  | o :: r, 0 => by simp [dstOf, lrec_cons, nsel_zero]
  | o :: r, j + 1 => by
    have := dstOf_eq r j
    simp only [dstOf] at this
    simp only [dstOf, lrec_cons, nsel_succ, this, List.getElem?_cons_succ]
def wantV (want : Bool) : AV → Option Bool
  | .lit v => match v with
    | .bool b => match want with
      | true => some b
      | false => some (!b)
    | .tuple _ => some false
    | _ => none
  | _ => none
def wantE (all : List Oper) (fr : Fr) : Option (Nat × Bool) → Option Bool
  | none => some true
  | some (j, want) => obind (dstOf all j) fun d => obind (aget fr d) (wantV want)
theorem want_sound {E : Env} {n : Nat} {fr : Fr} {a : Act} (hf : FR E n fr a) {ops : Array Oper} {o : Oper} {b : Bool} (h : wantE ops.toList fr o.guard = some b) : Region.wanted o (yielded ops a.tmps) = b := by
  unfold wantE at h
  unfold Region.wanted
  split at h
  · rename_i hg; rw [hg]; cases h; rfl
  · rename_i j want hg
    rw [hg]
    obtain ⟨d, h1, h2⟩ := obind_eq h
    obtain ⟨x, h3, h4⟩ := obind_eq h2
    rw [dstOf_eq, Option.bind_eq_some_iff] at h1
    obtain ⟨g, hj, hd⟩ := h1
    have hj' : ops[j]? = some g := by simpa using hj
    obtain ⟨v, k1, k2⟩ := hf.at_ d _ h3
    unfold wantV at h4
    split at h4
    · have := k2.lit_inv; subst this
      split at h4
      · rename_i t
        have hy : yielded ops a.tmps j = some t := by simp [yielded, hj', hd, k1]
        simp only [hy]
        cases want <;> cases t <;> (cases h4; rfl)
      · rename_i us
        have hy : yielded ops a.tmps j = none := by simp [yielded, hj', hd, k1]
        simp only [hy]
        cases h4; rfl
      · cases h4
    · cases h4
def putF (n : Nat) (fr : Fr) (dst : Option Tmp) (x : AV) : Fr :=
  match dst with
  | none => fr
  | some d => match Nat.blt d n with
    | true => aset fr d x
    | false => adel fr d
theorem putF_sound {E : Env} {n : Nat} {fr : Fr} {a : Act} (hf : FR E n fr a) (dst : Option Tmp) {x : AV} {v : Value} (hx : VR E x v) : FR E n (putF n fr dst x) (a.put dst v) := by
  cases dst with
  | none => exact hf
  | some d =>
    refine ⟨by simp [Act.put, hf.size], hf.defers, fun t y ht => ?_⟩
    unfold putF at ht
    simp only at ht
    split at ht
    · rename_i hb
      have hlt : d < n := by simpa using hb
      rw [aget_aset] at ht
      split at ht
      · rename_i e; cases ht; subst e
        exact ⟨v, by simp [Act.put, hf.size, hlt], hx⟩
      · rename_i hne
        obtain ⟨u, h1, h2⟩ := hf.at_ t y ht
        exact ⟨u, by simp only [Act.put]; rw [Array.getElem?_setIfInBounds_ne (fun e => hne e.symm)]; exact h1, h2⟩
    · rw [aget_adel] at ht
      split at ht
      · cases ht
      · rename_i hne
        obtain ⟨u, h1, h2⟩ := hf.at_ t y ht
        exact ⟨u, by simp only [Act.put]; rw [Array.getElem?_setIfInBounds_ne (fun e => hne e.symm)]; exact h1, h2⟩

/-- A region's operations in their order. -/
def opsR (C : Cx) (n : Nat) (p : Id) (all : List Oper) : List Oper → Nat → Fr → Hp → (Nat → Fr → Hp → Prop) → Prop
  | [], c, fr, σ, K => K c fr σ
  | o :: r, c, fr, σ, K => match wantE all fr o.guard with
    | some b => match b with
      | true => stepO C (c :: p) fr σ o fun x upd => opsR C n p all r (c + 1) (putF n fr o.dst x) (σ.app upd) K
      | false => opsR C n p all r c (putF n fr o.dst (.lit undef)) σ K
    | none => False

def Tos (C : Cx) (n : Nat) (p : Id) (E : Env) (σ : Hp) (w : World) (K : Nat → Fr → Hp → Prop) (a' : Act) (w' : World) : Prop :=
  ∃ c' fr' σ' E', K c' fr' σ' ∧ St C n p c' fr' σ' E' w' a' ∧ Adv E σ w E' σ' w' ∧ NewIn E E' p

theorem St.after {C : Cx} {n : Nat} {p : Id} {c : Nat} {fr : Fr} {σ : Hp} {E : Env} {w : World} {a : Act} (h : St C n p c fr σ E w a) {E' : Env} {w' : World} {x : AV} {v : Value} {upd : Upd} (hx : VR E' x v)
    (hh : Holds E' (σ.app upd) w') (ha : Adv E σ w E' (σ.app upd) w') (hn : NewIn E E' (c :: p)) (dst : Option Tmp) : St C n p (c + 1) (putF n fr dst x) (σ.app upd) E' w' (a.put dst v) :=
  ⟨h.gl.mono ha.le, putF_sound (h.fr.mono ha.le) dst hx, hh, fun k hk => (h.fresh k (by omega)).other hn (by omega)⟩

theorem opsR_sound {C : Cx} (hC : C.Sound) {n : Nat} {p : Id} {ops : Array Oper} {K : Nat → Fr → Hp → Prop} {Q : Exit → Act → World → Prop} : ∀ (l : List Oper) (i : Nat), ops.toList.drop i = l → ∀ (c : Nat) (fr : Fr) (σ : Hp) (E : Env) (w : World) (a : Act),
    St C n p c fr σ E w a → opsR C n p ops.toList l c fr σ K → (∀ a' w', Tos C n p E σ w K a' w' → Q .normal a' w') → wpOps C.P ops Q (List.range' i l.length) a w
  | [], i, _, c, fr, σ, E, w, a, hs, h, hQ => hQ a w ⟨c, fr, σ, E, h, hs, .refl _ _ _, .refl _ _⟩
  | o :: r, i, hd, c, fr, σ, E, w, a, hs, h, hQ => by
    have hi : ops[i]? = some o := by
      have := congrArg (·[0]?) hd
      simpa using this
    have hd' : ops.toList.drop (i + 1) = r := by
      have := congrArg (List.drop 1) hd
      simpa [Nat.add_comm] using this
    rw [List.length_cons, List.range'_succ, wpOps]
    simp only [hi]
    unfold opsR at h
    split at h
    · rename_i b hb
      rw [want_sound hs.fr hb]
      split at h
      · simp only [if_true]
        left
        refine step_wp hC hs.gl hs.fr hs.holds (hs.fresh c (Nat.le_refl _)) h ?_
        rintro v w' ⟨E', x, upd, hk, hx, hh, ha, hn⟩
        refine opsR_sound hC r (i + 1) hd' _ _ _ _ _ _ (hs.after hx hh ha hn o.dst) hk ?_
        rintro a' w'' ⟨c', fr', σ', E'', k1, k2, k3, k4⟩
        exact hQ a' w'' ⟨c', fr', σ', E'', k1, k2, ha.trans k3, (hn.up (List.suffix_cons _ _)).trans k4⟩
      · simp only [Bool.false_eq_true, if_false]
        refine opsR_sound hC r (i + 1) hd' _ _ _ _ _ _ ⟨hs.gl, putF_sound hs.fr o.dst (.lit undef), hs.holds, hs.fresh⟩ h hQ
    · exact h.elim

inductive Ex where
  | normal | exit (id : Nat) | ret
def Ex.to : Ex → Exit
  | .normal => .normal
  | .exit i => .exit i
  | .ret => .ret
abbrev PostK := Ex → Nat → Fr → Hp → Prop
def Post (C : Cx) (n : Nat) (p : Id) (E : Env) (σ : Hp) (w : World) (Q : PostK) (e : Exit) (a' : Act) (w' : World) : Prop :=
  ∃ ex c' fr' σ' E', Q ex c' fr' σ' ∧ ex.to = e ∧ St C n p c' fr' σ' E' w' a' ∧ Adv E σ w E' σ' w' ∧ NewIn E E' p
/-- What a piece of code does to what is known. -/
def AX (C : Cx) (n : Nat) (p : Id) (code : Code) (c : Nat) (fr : Fr) (σ : Hp) (Q : PostK) : Prop :=
  ∀ E w a, St C n p c fr σ E w a → code.wp C.P (Post C n p E σ w Q) a w
/-- A piece of code that is left to a rule of its own. -/
inductive Left (C : Cx) (n : Nat) (p : Id) (code : Code) (c : Nat) (fr : Fr) (σ : Hp) (Q : PostK) : Prop
  | mk (h : AX C n p code c fr σ Q)

section
variable {C : Cx} {n : Nat} {p : Id} {c : Nat} {fr : Fr} {σ : Hp} {Q : PostK}
theorem Post.after {E E' : Env} {σ σ' : Hp} {w w' : World} (ha : Adv E σ w E' σ' w') (hn : NewIn E E' p) {e : Exit} {a : Act} {w'' : World} (h : Post C n p E' σ' w' Q e a w'') : Post C n p E σ w Q e a w'' := by
  obtain ⟨ex, c', fr', σ'', E'', h1, h2, h3, h4, h5⟩ := h
  exact ⟨ex, c', fr', σ'', E'', h1, h2, h3, ha.trans h4, hn.trans h5⟩
theorem AX.mono {code : Code} {Q' : PostK} (h : AX C n p code c fr σ Q) (hq : ∀ e c fr σ, Q e c fr σ → Q' e c fr σ) : AX C n p code c fr σ Q' := fun E w a hs =>
  wp_mono (h E w a hs) fun e a w ⟨ex, c', fr', σ', E', h1, h2⟩ => ⟨ex, c', fr', σ', E', hq _ _ _ _ h1, h2⟩
theorem AX.skip (h : Q .normal c fr σ) : AX C n p .skip c fr σ Q := fun E _ _ hs => wp_skip ⟨.normal, c, fr, σ, E, h, rfl, hs, .refl _ _ _, .refl _ _⟩
theorem AX.exit {i : Nat} (h : Q (.exit i) c fr σ) : AX C n p (.exit i) c fr σ Q := fun E _ _ hs => wp_exit ⟨.exit i, c, fr, σ, E, h, rfl, hs, .refl _ _ _, .refl _ _⟩
theorem AX.ret (h : Q .ret c fr σ) : AX C n p .ret c fr σ Q := fun E _ _ hs => wp_ret ⟨.ret, c, fr, σ, E, h, rfl, hs, .refl _ _ _, .refl _ _⟩
def seqK (Q : PostK) (next : Nat → Fr → Hp → Prop) : PostK := fun e c fr σ => match e with
  | .normal => next c fr σ
  | .exit i => Q (.exit i) c fr σ
  | .ret => Q .ret c fr σ
theorem AX.seq {x y : Code} (h : AX C n p x c fr σ (seqK Q fun c fr σ => AX C n p y c fr σ Q)) : AX C n p (.seq x y) c fr σ Q := fun E w a hs =>
  wp_seq (wp_mono (h E w a hs) fun e a w ⟨ex, c', fr', σ', E', h1, h2, h3, h4, h5⟩ => by
    cases ex <;> subst h2
    · exact wp_mono (h1 E' w a h3) fun e a w h => h.after h4 h5
    · exact ⟨.exit _, c', fr', σ', E', h1, rfl, h3, h4, h5⟩
    · exact ⟨.ret, c', fr', σ', E', h1, rfl, h3, h4, h5⟩)
theorem AX.cond {o : Operand} {x y : Code} {t : Bool} (ho : ev C fr o = some (.lit (.bool t))) (h : match t with | true => AX C n p x c fr σ Q | false => AX C n p y c fr σ Q) : AX C n p (.cond o x y) c fr σ Q := fun E w a hs => by
  have := (ev_sound hs.gl hs.fr ho).lit_inv
  refine wp_cond this ?_
  cases t
  · exact h E w a hs
  · exact h E w a hs
def blockK (i : Nat) (Q : PostK) : PostK := fun e c fr σ => match e with
  | .exit j => match Nat.beq j i with
    | true => Q .normal c fr σ
    | false => Q (.exit j) c fr σ
  | .normal => Q .normal c fr σ
  | .ret => Q .ret c fr σ
theorem AX.block {i : Nat} {x : Code} (h : AX C n p x c fr σ (blockK i Q)) : AX C n p (.block i x) c fr σ Q := fun E w a hs =>
  wp_block (wp_mono (h E w a hs) fun e a w ⟨ex, c', fr', σ', E', h1, h2, h3, h4, h5⟩ => by
    cases ex with
    | normal => subst h2; exact ⟨.normal, c', fr', σ', E', h1, rfl, h3, h4, h5⟩
    | exit j =>
      subst h2
      simp only [blockK] at h1
      simp only [Exit.inBlock, Ex.to]
      split at h1
      · rename_i e
        have : j = i := by simpa using e
        rw [if_pos this]
        exact ⟨.normal, c', fr', σ', E', h1, rfl, h3, h4, h5⟩
      · rename_i e
        have : j ≠ i := fun hji => by subst hji; simp at e
        rw [if_neg this]
        exact ⟨.exit j, c', fr', σ', E', h1, rfl, h3, h4, h5⟩
    | ret => subst h2; exact ⟨.ret, c', fr', σ', E', h1, rfl, h3, h4, h5⟩)
theorem AX.region (hC : C.Sound) {i : Nat} {ops : Array Oper} (h : opsR C n p ops.toList ops.toList c fr σ (Q .normal)) : AX C n p (.region i ops false) c fr σ Q := fun E w a hs => by
  refine wp_region ?_
  have := opsR_sound hC (Q := Post C n p E σ w Q) ops.toList 0 rfl c fr σ E w a hs h fun a' w' ⟨c', fr', σ', E', k1, k2, k3, k4⟩ => ⟨.normal, c', fr', σ', E', k1, rfl, k2, k3, k4⟩
  rw [List.range_eq_range']
  simpa using this
theorem wp_loop_by {P : Program} {Q : Exit → Act → World → Prop} {x : Code} (I : Nat → Act → World → Prop) (hr : ∀ k a w, I k a w → x.wp P (Exit.then (fun a' w' => ∃ k', k' < k ∧ I k' a' w') Q) a w) :
    ∀ k a w, I k a w → (Code.loop x).wp P Q a w := by
  intro k a w h₀ b t cs
  have key : ∀ m a w, I m a w → ∃ e a' w', Q e a' w' ∧ Arrives P (lone (b.at a (.code x :: .inLoop x :: t)) cs w) b t cs e a' w' := by
    intro m
    induction m using Nat.strongRecOn with
    | _ m ih =>
      intro a w hI
      obtain ⟨e, a₁, w₁, hq, harr⟩ := hr m a w hI b (.inLoop x :: t) cs
      cases e with
      | normal =>
        obtain ⟨m', hlt, hI₁⟩ := hq
        obtain ⟨e₂, a₂, w₂, hq₂, harr₂⟩ := ih m' hlt a₁ w₁ hI₁
        exact ⟨e₂, a₂, w₂, hq₂, .of_steps (Steps.trans harr (.one step_inLoop)) harr₂⟩
      | exit id => exact ⟨_, a₁, w₁, hq, .pass (x := .inLoop x) rfl (fun _ _ => .inl (by simp)) harr⟩
      | goto l => exact ⟨_, a₁, w₁, hq, .pass (x := .inLoop x) rfl (fun _ _ => .inl (by simp)) harr⟩
      | ret => exact ⟨_, a₁, w₁, hq, .pass (x := .inLoop x) rfl (fun _ _ => .inl (by simp)) harr⟩
      | panic ch => exact ⟨_, a₁, w₁, hq, .pass (x := .inLoop x) rfl (fun _ _ => .inl (by simp)) harr⟩
      | outgrown => exact ⟨_, a₁, w₁, hq, .pass (x := .inLoop x) rfl (fun _ _ => .inl (by simp)) harr⟩
  obtain ⟨e, a', w', hq, harr⟩ := key k a w h₀
  exact ⟨e, a', w', hq, .of_steps (.one step_loop) harr⟩
/-- A loop: what holds at each round's start, with a measure that falls. -/
theorem AX.loop {x : Code} (I : Nat → Nat → Fr → Hp → Prop) {k : Nat} (h0 : I k c fr σ)
    (hr : ∀ k c fr σ, I k c fr σ → AX C n p x c fr σ (seqK Q fun c' fr' σ' => ∃ k', k' < k ∧ I k' c' fr' σ')) : AX C n p (.loop x) c fr σ Q := fun E w a hs => by
  refine wp_loop_by (fun k a' w' => ∃ c' fr' σ' E', I k c' fr' σ' ∧ St C n p c' fr' σ' E' w' a' ∧ Adv E σ w E' σ' w' ∧ NewIn E E' p) ?_ k a w ⟨c, fr, σ, E, h0, hs, .refl _ _ _, .refl _ _⟩
  rintro k a' w' ⟨c', fr', σ', E', h1, h2, h3, h4⟩
  refine wp_mono (hr k c' fr' σ' h1 E' w' a' h2) ?_
  rintro e a'' w'' ⟨ex, c'', fr'', σ'', E'', k1, k2, k3, k4, k5⟩
  cases ex with
  | normal => subst k2; obtain ⟨k', hlt, hI⟩ := k1; exact ⟨k', hlt, c'', fr'', σ'', E'', hI, k3, h3.trans k4, h4.trans k5⟩
  | exit j => subst k2; exact ⟨.exit j, c'', fr'', σ'', E'', k1, rfl, k3, h3.trans k4, h4.trans k5⟩
  | ret => subst k2; exact ⟨.ret, c'', fr'', σ'', E'', k1, rfl, k3, h3.trans k4, h4.trans k5⟩
/-- Less is known of the frame, and of the memory. -/
theorem AX.weaken {code : Code} {fr' : Fr} {σ' : Hp} {c' : Nat} (hc : c ≤ c') (hf : ∀ t x, aget fr' t = some x → aget fr t = some x) (hσ : ∀ l e, aget σ' l = some e → aget σ l = some e) (h : AX C n p code c' fr' σ' Q) : AX C n p code c fr σ Q := by
  intro E w a hs
  refine wp_mono (h E w a ⟨hs.gl, ⟨hs.fr.size, hs.fr.defers, fun t x ht => hs.fr.at_ t x (hf t x ht)⟩, hs.holds.sub hσ, fun k hk => hs.fresh k (Nat.le_trans hc hk)⟩) ?_
  rintro e a' w' ⟨ex, c'', fr'', σ'', E', h1, h2, h3, h4, h5⟩
  exact ⟨ex, c'', fr'', σ'', E', h1, h2, h3, (Adv.refl E σ w).sub hσ |>.trans h4, h5⟩

end
end
end Go.AS
