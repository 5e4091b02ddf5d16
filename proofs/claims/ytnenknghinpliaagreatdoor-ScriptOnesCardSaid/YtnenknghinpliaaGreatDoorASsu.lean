/- A function proved elsewhere that reckons a value out of a slice's bytes, memory left as it is. -/
import Derived.Test.YtnenknghinpliaaGreatDoorASst
namespace Go.AS
open Go.RowKit
noncomputable section

def sumX (g : List Nat → Value) : Id → Nat → List AV → Hp → Option Res := fun _ _ xs σ => match xs with
  | [x] => match elemsP (aget σ) 1 x with
    | some q => match valNs (valN 2) q.2 with
      | some us => match byteVs us with
        | some l => bsel (Nat.ble l.length 1000000) (some ⟨.lit (g l), [], true⟩) none
        | none => none
      | none => none
    | none => none
  | _ => none
theorem sumX_ok {C : Cx} {f : FuncId} {g : List Nat → Value} (hent : ∀ args w, (callFunc f args).run C.P w = .ok (.enter f args) w)
    (h0 : ∀ (a : Option Addr) (c : Nat) (w : World), Calls C.P f #[.slice a 0 c] w fun e w' => e = .returned (g []) ∧ w' = w)
    (h1 : ∀ (a : Addr) (l : List Nat) (c : Nat) (w : World), l.length ≤ 1000000 → (∀ n ∈ l, n < 256) → (∀ (j x : Nat), l[j]? = some x → w.cell? (a.add j) = some (.int .u8 x)) → Calls C.P f #[.slice (some a) l.length c] w fun e w' => e = .returned (g l) ∧ w' = w) : CtOk C f (.det (sumX g)) := by
  intro p d xs σ K hk E w vals hg hh hp hv
  simp only [Ct.asks] at hk
  split at hk
  · rename_i r hr
    unfold sumX at hr
    split at hr
    · rename_i x
      split at hr
      · rename_i q hq
        split at hr
        · rename_i us hus
          split at hr
          · rename_i l hl
            obtain ⟨hle, hr⟩ := bsel_some hr
            cases hr
            obtain ⟨v', vs, h2, h3, rfl⟩ := hv.vs_cons_inv
            obtain rfl := h3.vs_nil_inv
            obtain ⟨k1, a, c, rfl, k2, k3⟩ := elemsP_sound hh (fun _ _ h => h) (pu := q.1) (xs := q.2) h2 hq
            obtain ⟨h4, h5⟩ := byteVs_sound hl
            have fin : ∀ {e : Ending} {w' : World}, e = .returned (g l) ∧ w' = w → ∃ u, e = .returned u ∧ After E σ w p K u w' := by
              rintro e w' ⟨rfl, rfl⟩
              exact ⟨_, rfl, E, _, [], hk.2, .lit _, hh, .refl _ _ _, .refl _ _⟩
            rcases k3 with k3 | ⟨b, o, cells, t, fz, cs, rest, rfl, g1, g2, g3, g4⟩
            · have hl0 : l = [] := by
                rw [k3] at hus
                simp only [valNs] at hus
                cases hus
                cases l with
                | nil => rfl
                | cons n l => simp at h4
              subst hl0
              rw [k3]
              exact .inl ⟨hent _ _, (h0 a c w).mono fun e w' h => fin h⟩
            · have hcs : cs = us := valNs_sound (fun h k => valN_sound h k) g2 hus
              have hlen : q.2.length = l.length := by
                have := g2.cs_length
                rw [AV.fszs_uniform k1, hcs, h4, List.length_map] at this
                omega
              rw [hlen]
              refine .inl ⟨hent _ _, (h1 ⟨b, o, none⟩ l c w (Nat.le_of_ble_eq_true hle) h5 fun j x hj => ?_).mono fun e w' h => fin h⟩
              have : cells[o + j]? = some (.int .u8 x) := by
                have h6 := congrArg (·[j]?) g3
                simp only [List.getElem?_drop, hcs, h4] at h6
                rw [List.getElem?_append_left (by rw [List.length_map]; exact (List.getElem?_eq_some_iff.1 hj).1), List.getElem?_map, hj] at h6
                simpa using h6
              rw [add_none]
              simp [World.cell?, g1, this]
          · cases hr
        · cases hr
      · cases hr
    · cases hr
  · exact hk.elim
end
end Go.AS
