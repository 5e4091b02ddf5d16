/- Several ways that end in slices of no elements: one result for all. -/
import Derived.Test.YtnenknghinpliaaGreatDoorASrj
namespace Go.AS
noncomputable section

def emptyL (sz : Nat) (x : AV) : AV := match x with
  | .lit (.slice _ 0 _) => .lst false sz []
  | .lst _ _ [] => .lst false sz []
  | .slc _ _ _ 0 => .lst false sz []
  | x => x
theorem emptyL_sound {E : Env} {x : AV} {v : Value} (h : VR E x v) (sz : Nat) : VR E (emptyL sz x) v := by
  unfold emptyL
  split
  · have := h.lit_inv; subst this
    exact .lstE sz _ (fun h => by cases h)
  · rcases lst_invP h with ⟨_, a, c, rfl, _⟩ | ⟨b, off, cp, c, t, fz, cs, rest, rfl, _⟩
    · exact .lstE sz _ (fun h => by cases h)
    · exact .lstE sz _ (fun h => by cases h)
  · rcases slc_inv h with ⟨_, ⟨a, rfl⟩, _⟩ | ⟨b, base, sz', cap, c, rfl, _⟩
    · exact .lstE sz _ (fun h => by cases h)
    · exact .lstE sz _ (fun h => by cases h)
  · exact h
/-- Where there are several ways, results of no elements are told as one. -/
def bodE (sz : Nat) (b : List AV → Hp → Option (List OutF)) (xs : List AV) (σ : Hp) : Option (List OutF) :=
  match b xs σ with
  | some l => match l with
    | [q] => some [q]
    | l => some (l.map fun q => (emptyL sz q.1, q.2))
  | none => none
theorem bodE_ok {X : PX} {f : FuncId} {b : List AV → Hp → Option (List OutF)} (h : BodOk X f b) (sz : Nat) : BodOk X f (bodE sz b) := by
  intro xs σ l hl
  unfold bodE at hl
  split at hl
  · rename_i l0 hl0
    obtain ⟨h1, h2⟩ := h _ _ _ hl0
    split at hl
    · cases hl; exact ⟨h1, h2⟩
    · cases hl
      refine ⟨fun q hq => ?_, fun E w vals hg hh hf hv => Does.imp (h2 E w vals hg hh hf hv) ?_⟩
      · obtain ⟨r, k1, rfl⟩ := List.mem_map.1 hq
        exact h1 r k1
      · rintro v w' ⟨q, k1, E', k2, k3, k4⟩
        exact ⟨_, List.mem_map.2 ⟨q, k1, rfl⟩, E', emptyL_sound k2 sz, k3, k4⟩
  · cases hl
end
end Go.AS
