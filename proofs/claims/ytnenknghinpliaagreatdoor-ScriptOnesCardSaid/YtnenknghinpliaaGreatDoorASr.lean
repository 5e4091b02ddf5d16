/- Regions whose order is drawn: every order does what the text's order does, where operations that are not ordered do not meet. -/
import Derived.Test.YtnenknghinpliaaGreatDoorASq
import Derived.Orders
namespace Go.AS
noncomputable section

/-! ### What a call does that saw a part of the memory. -/
def ulast : Upd → Nat → Option Ent
  | [], _ => none
  | (j, e) :: r, l => match ulast r l with
    | some e' => some e'
    | none => if j = l then some e else none
theorem aget_app : ∀ (upd : Upd) (σ : Hp) (l : Nat), aget (σ.app upd) l = (ulast upd l).or (aget σ l)
  | [], σ, l => by simp [Hp.app, ulast]
  | (j, e) :: r, σ, l => by
    rw [Hp.app, aget_app r, ulast, aget_aset]
    cases h : ulast r l with
    | some e' => simp
    | none =>
      by_cases hj : j = l
      · subst hj; simp
      · have hj' : l ≠ j := fun h => hj h.symm
        simp [hj, hj']
theorem frame_sub {E E' : Env} {σ τ : Hp} {upd : Upd} {w w' : World} (hh : Holds E σ w) (hs : ∀ l e, aget τ l = some e → aget σ l = some e) (h1 : Holds E' (τ.app upd) w') (ha : Adv E τ w E' (τ.app upd) w') :
    Holds E' (σ.app upd) w' ∧ Adv E σ w E' (σ.app upd) w' := by
  -- what is not seen is where it was
  have hout : ∀ l e, aget σ l = some e → aget τ l = none → ∀ L b, E.ρ e.id = some L → L.blk? = some b → b < w.heap.size ∧ ¬ Own E τ b ∧ ¬ Own E' (τ.app upd) b ∧ Own E σ b := by
    intro l e he hn L b hL hb
    have ho : Own E σ b := ⟨l, e, L, he, hL, hb⟩
    have hlt := hh.own_lt ho
    have hno : ¬ Own E τ b := by
      rintro ⟨l', e', L', h2, h3, h4⟩
      have := hh.inj l' l e' e L' L b (hs _ _ h2) he h3 hL h4 hb
      subst this; rw [hn] at h2; cases h2
    exact ⟨hlt, hno, fun h => by rcases ha.ownNew b h with h | h; exact hno h; omega, ho⟩
  have hcase : ∀ l e, aget (σ.app upd) l = some e → aget (τ.app upd) l = some e ∨ (aget σ l = some e ∧ aget τ l = none) := by
    intro l e he
    rw [aget_app] at he ⊢
    cases hu : ulast upd l with
    | some e' => rw [hu] at he; simp at he ⊢; exact .inl he
    | none =>
      rw [hu] at he; simp at he
      cases ht : aget τ l with
      | none => exact .inr ⟨he, rfl⟩
      | some e' => have := hs _ _ ht; rw [he] at this; cases this; exact .inl (by simp)
  have hown : ∀ b, Own E' (σ.app upd) b → Own E' (τ.app upd) b ∨ (Own E σ b ∧ ¬ Own E τ b ∧ b < w.heap.size) := by
    rintro b ⟨l, e, L, h2, h3, h4⟩
    rcases hcase l e h2 with h5 | ⟨h5, h6⟩
    · exact .inl ⟨l, e, L, h5, h3, h4⟩
    · obtain ⟨L0, h7, _⟩ := hh.own l e h5
      have := ha.le.ρ _ _ h7
      rw [h3] at this; cases this
      obtain ⟨k1, k2, _, k3⟩ := hout l e h5 h6 L b h7 h4
      exact .inr ⟨k3, k2, k1⟩
  refine ⟨⟨h1.imm, fun l e he => ?_, fun b hb => ?_, ?_⟩, ⟨ha.le, ha.os, ha.tape, ha.output, ha.size, fun b hb ho => ha.kept b hb fun h => ho (h.sub hs), fun b hb => ?_, fun b hb => ?_⟩⟩
  · rcases hcase l e he with h5 | ⟨h5, h6⟩
    · exact h1.own l e h5
    · obtain ⟨L, h7, h8⟩ := hh.own l e h5
      exact ⟨L, ha.le.ρ _ _ h7, h8.keep ha.le fun b hb => ha.kept b (h8.lt hb) (hout l e h5 h6 L b h7 hb).2.1⟩
  · rcases hown b hb with h | ⟨h, h2, h3⟩
    · exact h1.apart b h
    · cases hm : E'.m b with
      | none => rfl
      | some o =>
        rcases ha.mNew b (by rw [hm]; simp) with h4 | h4 | h4
        · exact absurd (hh.apart b h) h4
        · exact absurd h4 h2
        · omega
  · intro l1 l2 e1 e2 L1 L2 b h2 h3 h4 h5 h6 h7
    rcases hcase l1 e1 h2 with k1 | ⟨k1, k2⟩ <;> rcases hcase l2 e2 h3 with k3 | ⟨k3, k4⟩
    · exact h1.inj l1 l2 e1 e2 L1 L2 b k1 k3 h4 h5 h6 h7
    · obtain ⟨L0, q1, _⟩ := hh.own l2 e2 k3
      have := ha.le.ρ _ _ q1; rw [h5] at this; cases this
      exact ((hout l2 e2 k3 k4 L2 b q1 h7).2.2.1 ⟨l1, e1, L1, k1, h4, h6⟩).elim
    · obtain ⟨L0, q1, _⟩ := hh.own l1 e1 k1
      have := ha.le.ρ _ _ q1; rw [h4] at this; cases this
      exact ((hout l1 e1 k1 k2 L1 b q1 h6).2.2.1 ⟨l2, e2, L2, k3, h5, h7⟩).elim
    · obtain ⟨L0, q1, _⟩ := hh.own l1 e1 k1
      have := ha.le.ρ _ _ q1; rw [h4] at this; cases this
      obtain ⟨L0', q2, _⟩ := hh.own l2 e2 k3
      have := ha.le.ρ _ _ q2; rw [h5] at this; cases this
      exact hh.inj l1 l2 e1 e2 L1 L2 b k1 k3 q1 q2 h6 h7
  · rcases hown b hb with h | ⟨h, _, _⟩
    · rcases ha.ownNew b h with h2 | h2
      · exact .inl (h2.sub hs)
      · exact .inr h2
    · exact .inl h
  · rcases ha.mNew b hb with h2 | h2 | h2
    · exact .inl h2
    · exact .inr (.inl (h2.sub hs))
    · exact .inr (.inr h2)

/-! ### One operation by a contract that tells what it does. -/
/-- A name as a label. -/
def enc : Id → Nat
  | [] => 0
  | a :: r => enc r * 1048576 + (a + 1)
mutual
/-- The labels in a value. -/
def labsA : AV → List Nat
  | .ptr l _ _ _ => [l]
  | .slc l _ _ _ => [l]
  | .sub l _ _ _ _ => [l]
  | .yld _ => []
  | .mp l _ => [l]
  | .ref _ => []
  | .lst _ _ _ => []
  | .mpv _ _ => []
  | .iface _ x => labsA x
  | .agg xs => labsAs xs
  | .tup xs => labsAs xs
  | .fn _ xs ys => labsAs xs ++ labsAs ys
  | .lit _ => []
def labsAs : List AV → List Nat
  | [] => []
  | x :: xs => labsA x ++ labsAs xs
end
def labsO : AObj → List Nat
  | .row pu _ xs => match pu with
    | true => []
    | false => labsAs xs
  | .map pu _ _ _ vs => match pu with
    | true => []
    | false => labsAs vs
  | .sit _ _ => []
  | .mit l _ _ _ _ => [l]
  | .bld _ x => labsA x
  | .buf _ _ => []
def hasN : List Nat → Nat → Bool
  | [], _ => false
  | m :: r, l => match Nat.beq m l with
    | true => true
    | false => hasN r l
theorem hasN_iff : ∀ {xs : List Nat} {l : Nat}, hasN xs l = true ↔ l ∈ xs
  | [], l => by simp [hasN]
  | m :: r, l => by
    unfold hasN
    split
    · rename_i h; rw [Nat.eq_of_beq_eq_true h]; simp
    · rename_i h
      have : l ≠ m := fun e => by subst e; simp at h
      rw [hasN_iff]; simp [this]
/-- The labels that can be reached. -/
def reach (σ : Hp) : Nat → List Nat → List Nat → List Nat
  | 0, _, acc => acc
  | _ + 1, [], acc => acc
  | f + 1, l :: r, acc => match hasN acc l with
    | true => reach σ f r acc
    | false => match aget σ l with
      | some e => reach σ f (labsO e.obj ++ r) (l :: acc)
      | none => reach σ f r acc

def fpO (C : Cx) (fr : Fr) : List Operand → List Nat
  | [] => []
  | o :: r => match ev C fr o with
    | some x => labsA x ++ fpO C fr r
    | none => fpO C fr r
/-- The pieces that an operation may look at. -/
def fpR (C : Cx) (fr : Fr) (σ : Hp) (o : Oper) : List Nat :=
  match o.op with
  | .load _ x => fpO C fr [x]
  | .store _ x _ => fpO C fr [x]
  | .indexAddr _ x _ => fpO C fr [x]
  | .index _ x _ => fpO C fr [x]
  | .slice _ x _ _ _ => fpO C fr [x]
  | .convert _ _ x => fpO C fr [x]
  | .lookup _ x _ _ => fpO C fr [x]
  | .mapUpdate _ x _ _ => fpO C fr [x]
  | .insert _ x _ _ => fpO C fr [x]
  | .mapEntry _ x _ => fpO C fr [x]
  | .entryStore _ x _ _ => fpO C fr [x]
  | .binOp _ _ x y _ => fpO C fr [x, y]
  | .next x _ => fpO C fr [x]
  | .range _ x => fpO C fr [x]
  | .call c => match c.callee with
    | .builtin _ => fpO C fr c.args.toList
    | .value f => reach σ 100000 (fpO C fr (f :: c.args.toList)) []
    | .invoke f _ => reach σ 100000 (fpO C fr (f :: c.args.toList)) []
  | _ => []
def askD (C : Cx) (p : Id) (d : Nat) (f : FuncId) (xs : List AV) (τ : Hp) : Option Res :=
  match C.ct f with
  | some (.det g) => g p d xs τ
  | _ => none
def detO (C : Cx) (p : Id) (fr : Fr) (τ : Hp) (o : Oper) : Option Res :=
  match o.op with
  | .call c => match c.callee with
    | .value f => match ev C fr f, evs C fr c.args.toList with
      | some fv, some xs => match fnView fv with
        | some (g, a, b) => askD C p (o.dst.getD 0) g (a ++ xs ++ b) τ
        | none => none
      | _, _ => none
    | .invoke r m => match ev C fr r, evs C fr c.args.toList with
      | some rv, some xs => match ifView rv with
        | some (.dyn t x) => match methodE C.B t x m with
          | some (g, y) => askD C p (o.dst.getD 0) g (y :: xs) τ
          | none => none
        | _ => none
      | _, _ => none
    | .builtin _ => opE C fr (aget τ) p o
  | _ => opE C fr (aget τ) p o
theorem det_step {C : Cx} {p : Id} {fr : Fr} {τ : Hp} {o : Oper} {r : Res} (h : detO C p fr τ o = some r) (hok : r.ok = true) : stepO C p fr τ o fun x upd => x = r.x ∧ upd = r.upd := by
  have hask : ∀ d f xs, askD C p d f xs τ = some r → askF C p d f xs τ fun x upd => x = r.x ∧ upd = r.upd := by
    intro d f xs h
    unfold askD at h
    unfold askF
    split at h
    · rename_i g hg
      rw [hg]; simp only [Ct.asks, h]; exact ⟨hok, by simp⟩
    · cases h
  have hop : opE C fr (aget τ) p o = some r → (match opE C fr (aget τ) p o with | some r' => r'.ok = true ∧ r'.x = r.x ∧ r'.upd = r.upd | none => False) := fun h => by rw [h]; exact ⟨hok, rfl, rfl⟩
  unfold detO at h
  unfold stepO
  split at h
  · rename_i c hc
    split at h
    · rename_i f hcal
      simp only [hc, hcal]
      split at h
      · rename_i fv xs hfv hxs
        simp only [hfv, hxs]
        split at h
        · rename_i g a b hv
          simp only [hv]
          exact hask _ _ _ h
        · cases h
      · cases h
    · rename_i rv m hcal
      simp only [hc, hcal]
      split at h
      · rename_i y xs hrv hxs
        simp only [hrv, hxs]
        split at h
        · rename_i t x hv
          simp only [hv]
          split at h
          · rename_i g y' hm
            simp only [hm]
            exact hask _ _ _ h
          · cases h
        · cases h
      · cases h
    · rename_i b hcal
      simp only [hc, hcal]
      exact hop h
  · rename_i hnc
    split
    · rename_i c hc; exact absurd hc (hnc c)
    · exact hop h
theorem det_stepK {C : Cx} {K : AV → Upd → Prop} {p : Id} {fr : Fr} {τ : Hp} {o : Oper} {r : Res} (h : detO C p fr τ o = some r) (hok : r.ok = true) (hk : K r.x r.upd) : stepO C p fr τ o K := by
  have hask : ∀ d f xs, askD C p d f xs τ = some r → askF C p d f xs τ K := by
    intro d f xs h
    unfold askD at h
    unfold askF
    split at h
    · rename_i g hg
      rw [hg]; simp only [Ct.asks, h]; exact ⟨hok, hk⟩
    · cases h
  have hop : opE C fr (aget τ) p o = some r → (match opE C fr (aget τ) p o with | some r' => r'.ok = true ∧ K r'.x r'.upd | none => False) := fun h => by rw [h]; exact ⟨hok, hk⟩
  unfold detO at h
  unfold stepO
  split at h
  · rename_i c hc
    split at h
    · rename_i f hcal
      simp only [hc, hcal]
      split at h
      · rename_i fv xs hfv hxs
        simp only [hfv, hxs]
        split at h
        · rename_i g a b hv
          simp only [hv]
          exact hask _ _ _ h
        · cases h
      · cases h
    · rename_i rv m hcal
      simp only [hc, hcal]
      split at h
      · rename_i y xs hrv hxs
        simp only [hrv, hxs]
        split at h
        · rename_i t x hv
          simp only [hv]
          split at h
          · rename_i g y' hm
            simp only [hm]
            exact hask _ _ _ h
          · cases h
        · cases h
      · cases h
    · rename_i b hcal
      simp only [hc, hcal]
      exact hop h
  · rename_i hnc
    split
    · rename_i c hc; exact absurd hc (hnc c)
    · exact hop h
/-- What a step does, whatever is asked of what follows. -/
def DetR (C : Cx) (p : Id) (fr : Fr) (τ : Hp) (o : Oper) (q : Res) : Prop := q.ok = true ∧ ∀ K : AV → Upd → Prop, K q.x q.upd → stepO C p fr τ o K
theorem DetR.of {C : Cx} {p : Id} {fr : Fr} {τ : Hp} {o : Oper} {r : Res} (h : detO C p fr τ o = some r) (hok : r.ok = true) : DetR C p fr τ o r := ⟨hok, fun _ hk => det_stepK h hok hk⟩
theorem det_wp {C : Cx} (hC : C.Sound) {E : Env} {σ τ : Hp} {w : World} {p : Id} {n : Nat} {fr : Fr} {a : Act} (hg : GL C E) (hf : FR E n fr a) (hh : Holds E σ w) (hs : ∀ l e, aget τ l = some e → aget σ l = some e) (hp : Fresh E p)
    {o : Oper} {r : Res} (h : DetR C p fr τ o r) {next : Act → World → Prop} {Q : Exit → Act → World → Prop}
    (hn : ∀ v w' E', VR E' r.x v → Holds E' (σ.app r.upd) w' → Adv E σ w E' (σ.app r.upd) w' → NewIn E E' p → next (a.put o.dst v) w') : o.wp C.P a w next Q := by
  refine step_wp hC hg hf (hh.sub hs) hp (h.2 (fun x upd => x = r.x ∧ upd = r.upd) ⟨rfl, rfl⟩) ?_
  rintro v w' ⟨E', x, upd, ⟨rfl, rfl⟩, h1, h2, h3, h4⟩
  obtain ⟨k1, k2⟩ := frame_sub hh hs h2 h3
  exact hn v w' E' h1 k1 k2 h4
end
end Go.AS
