/- A function's body, and its contract. -/
import Derived.Test.YtnenknghinpliaaGreatDoorASp
namespace Go.AS
noncomputable section

theorem no_own {E : Env} {b : Nat} : ¬ Own E .nil b := by rintro ⟨l, e, L, h, _⟩; rw [aget_nil] at h; cases h
def mkFr : Nat → List AV → Fr
  | _, [] => .nil
  | k, x :: xs => aset (mkFr (k + 1) xs) k x
theorem mkFr_get : ∀ (xs : List AV) (k t : Nat) (x : AV), aget (mkFr k xs) t = some x → ∃ j, t = k + j ∧ xs[j]? = some x
  | [], _, _, _, h => by rw [mkFr, aget_nil] at h; cases h
  | y :: xs, k, t, x, h => by
    rw [mkFr, aget_aset] at h
    split at h
    · rename_i e; cases h; exact ⟨0, by omega, by simp⟩
    · obtain ⟨j, h1, h2⟩ := mkFr_get xs (k + 1) t x h
      exact ⟨j + 1, by omega, by simpa using h2⟩
def resOne (C : Cx) (fr : Fr) (σ : Hp) : ResultVar → Option AV
  | .tmp t => aget fr t
  | .cell a t => match ti C.B t, aget fr a with
    | some T, some x => loadA T (aget σ) x
    | _, _ => none
def resAll (C : Cx) (fr : Fr) (σ : Hp) : List ResultVar → Option (List AV)
  | [] => some []
  | r :: rs => match resOne C fr σ r, resAll C fr σ rs with
    | some x, some xs => some (x :: xs)
    | _, _ => none
def resE (C : Cx) (fn : Func) (fr : Fr) (σ : Hp) : Option AV :=
  match resAll C fr σ fn.results.toList with
  | some [x] => some x
  | some xs => some (.tup xs)
  | none => none
theorem resOne_sound {C : Cx} [TbOk C.B C.P] {n : Nat} {p : Id} {c : Nat} {fr : Fr} {σ : Hp} {E : Env} {w : World} {a : Act} (hs : St C n p c fr σ E w a) {r : ResultVar} {x : AV} (h : resOne C fr σ r = some x) :
    ∃ v, (match r with | .tmp t => Pure.pure (a.tmps.getD t undef) | .cell b t => do loadVar t (← asAddr (a.tmps.getD b undef)) : Sem Value).run C.P w = .ok v w ∧ VR E x v := by
  cases r with
  | tmp t =>
    obtain ⟨v, h1, h2⟩ := hs.fr.at_ t x h
    exact ⟨v, by simp only [Sem.run_pure, Array.getD_eq_getD_getElem?, h1, Option.getD_some], h2⟩
  | cell b t =>
    unfold resOne at h
    simp only at h
    split at h
    · rename_i T y hT hy
      obtain ⟨v, h1, h2⟩ := hs.fr.at_ b y hy
      obtain ⟨u, h3, h4⟩ := loadA_sound hT hs.holds (look := aget σ) (fun _ _ h => h) h2 h
      refine ⟨u, ?_, h4⟩
      simp only [Array.getD_eq_getD_getElem?, h1, Option.getD_some]
      cases y <;> simp only [loadA, loadE, spanE] at h <;> try (cases h; done)
      · obtain ⟨bb, base, sz, cap, _, rfl⟩ := h2.ptr_inv
        simpa [Instr.loadAt, Instr.sureAddr, asAddr, Sem.run_bind] using h3
      · obtain ⟨bb, off, cc, tt, fz, cs, rest, rfl, _⟩ := h2.ref_inv
        simpa [Instr.loadAt, Instr.sureAddr, asAddr, Sem.run_bind] using h3
    · cases h
theorem resAll_sound {C : Cx} [TbOk C.B C.P] {n : Nat} {p : Id} {c : Nat} {fr : Fr} {σ : Hp} {E : Env} {w : World} {a : Act} (hs : St C n p c fr σ E w a) : ∀ {rs : List ResultVar} {xs : List AV}, resAll C fr σ rs = some xs →
    ∃ vs, (rs.mapM (fun r => match r with | ResultVar.tmp t => (Pure.pure (a.tmps.getD t undef) : Sem Value) | ResultVar.cell b t => (do loadVar t (← asAddr (a.tmps.getD b undef)) : Sem Value)) : Sem (List Value)).run C.P w = .ok vs w ∧ RR E .vs xs vs
  | [], xs, h => by cases h; exact ⟨[], by simp only [List.mapM_nil, Sem.run_pure], .vnil⟩
  | r :: rs, xs, h => by
    unfold resAll at h
    split at h
    · rename_i x xs' h1 h2; cases h
      obtain ⟨v, h3, h4⟩ := resOne_sound hs h1
      obtain ⟨vs, h5, h6⟩ := resAll_sound hs h2
      exact ⟨v :: vs, by simp only [List.mapM_cons, Sem.run_bind, h3, h5, Result.andThen_ok, Sem.run_pure], .vcons h4 h6⟩
    · cases h
theorem resE_sound {C : Cx} [TbOk C.B C.P] {n : Nat} {p : Id} {c : Nat} {fr : Fr} {σ : Hp} {E : Env} {w : World} {a : Act} (hs : St C n p c fr σ E w a) {fn : Func} {x : AV} (h : resE C fn fr σ = some x) : ∃ v, (results fn a.tmps).run C.P w = .ok v w ∧ VR E x v := by
  unfold resE at h
  have gen : ∀ xs, resAll C fr σ fn.results.toList = some xs → ∃ vs : List Value, (results fn a.tmps).run C.P w = .ok (if h : vs.toArray.size = 1 then vs.toArray[0] else .tuple vs.toArray) w ∧ RR E .vs xs vs := fun xs hx => by
    obtain ⟨vs, h1, h2⟩ := resAll_sound hs hx
    refine ⟨vs, ?_, h2⟩
    unfold results
    rw [Array.mapM_eq_mapM_toList]
    simp only [Sem.run_bind, Sem.run_map]
    erw [h1]
    simp only [Result.andThen_ok, Sem.run_pure]
  split at h
  · rename_i y hx; cases h
    obtain ⟨vs, h1, h2⟩ := gen _ hx
    obtain ⟨v, vs', h3, h4, rfl⟩ := h2.vs_cons_inv
    obtain rfl := h4.vs_nil_inv
    exact ⟨v, by simpa using h1, h3⟩
  · rename_i xs hne hx; cases h
    obtain ⟨vs, h1, h2⟩ := gen _ hx
    have : vs.toArray.size ≠ 1 := by
      intro he
      have hl : xs.length = 1 := by rw [← h2.vs_length]; simpa using he
      obtain ⟨y, rfl⟩ := List.length_eq_one_iff.1 hl
      exact hne y rfl
    exact ⟨_, by rw [dif_neg this] at h1; exact h1, .tup h2⟩
  · cases h

end
end Go.AS
