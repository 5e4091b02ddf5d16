/- A part of the proof of OopsLayersCardSaid. -/
import Derived.Test.YtihjokkmkdhhpaaDoorOP
namespace Go.Proofs.YtihjokkmkdhhpaaDoor
open Go.AS
noncomputable section
abbrev orc3 : Orc := Orc.z.t.t.t.t.t.t.t.t.t.t.t.t.t.t.t.t.t.t.t.t.t.t.t.t.t.t.t.t.t.t.t.t.t.t.t.t.t.t.t.t.f.f.f.f.f.f.f.f.f.f.f.f.f.f.f.f.f.f.f.f.f.f.f.f.f.f.f.f.f.f.f
theorem g3_ok (kind : Int) (name : ByteArray) (at_ n : Int) : g3 orc3 kind at_ n name := by
  rw [g3_vc]
  have h3 := Int.emod_nonneg kind (by decide : (19 : Int) ≠ 0)
  have h4 := Int.emod_lt_of_pos kind (by decide : (0 : Int) < 19)
  refine ⟨(kind, 19), ⟨⟨(by show (0 : Int) < 19; omega), (by show (19 : Int) ≤ 1000000; omega)⟩, .refl _, rfl⟩, inR_i64 (by show _ ≤ 1 + kind % 19; omega) (by show 1 + kind % 19 < _; omega), n, ⟨trivial, .refl _, rfl⟩, ?_⟩
  repeat' first
    | (refine ⟨n, ⟨trivial, .refl _, rfl⟩, ?_⟩)
    | (refine And.intro ?_ ?_)
  all_goals first
    | rfl
    | exact beq_self_eq_true _
    | (simp only [hash_flat, Bool.and_self, decide_true, beq_self_eq_true])
end
end Go.Proofs.YtihjokkmkdhhpaaDoor
