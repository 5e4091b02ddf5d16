/- A part of the proof of OopsOutermostCardSaid. -/
import Derived.Test.YtihjokkmkdhhpaaDoorOP
import Derived.Test.YtihjokkmkdhhpaaDoorOV4
namespace Go.Proofs.YtihjokkmkdhhpaaDoor
open Go.AS
noncomputable section
abbrev orc4 : Orc := Orc.z.t.t.t.t.t.t.t.t.t.t.t.t.t.t.t.t.t.t.t.t.t.t.t.t.t.t.t
theorem g4_ok (a b x y kind : Int) (name : ByteArray) : g4 orc4 a b x y kind name := by
  rw [g4_vc]
  have h3 := Int.emod_nonneg kind (by decide : (19 : Int) ≠ 0)
  have h4 := Int.emod_lt_of_pos kind (by decide : (0 : Int) < 19)
  refine ⟨(kind, 19), ⟨⟨(by show (0 : Int) < 19; omega), (by show (19 : Int) ≤ 1000000; omega)⟩, .refl _, rfl⟩, inR_i64 (by show _ ≤ 1 + kind % 19; omega) (by show 1 + kind % 19 < _; omega), x, ⟨trivial, .refl _, rfl⟩, y, ⟨trivial, .refl _, rfl⟩, ?_⟩
  repeat' first
    | (refine ⟨x, ⟨trivial, .refl _, rfl⟩, ?_⟩)
    | (refine And.intro ?_ ?_)
  all_goals first
    | rfl
    | exact beq_self_eq_true _
    | exact decide_eq_true rfl
    | (simp only [hash_flat]; done)
    | (simp only [hash_flat, Bool.and_self]; done)
    | kernel_rfl
end
end Go.Proofs.YtihjokkmkdhhpaaDoor
