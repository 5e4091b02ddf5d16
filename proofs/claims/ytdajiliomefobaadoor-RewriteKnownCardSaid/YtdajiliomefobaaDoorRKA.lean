/- The law RewriteKnown: the program as the walk knows it; its functions without a body. No condition. -/
import Derived.Test.YtdajiliomefobaaDoorChecked
import Derived.Test.YtdajiliomefobaaDoorASlaw
namespace Go.Proofs.YtdajiliomefobaaDoor
open Go.AS
namespace RewriteKnown
noncomputable section

def extF (f : FuncId) : Option (Go.AS.Id → Nat → List AV → Hp → Option Res) :=
  (bsel (Nat.beq f 54) (some (pureX Tryd.prog Extern.BytealgIndexByte.indexByte)) (none))
def X : PX := { P := Tryd.prog, gl := fun _ => none, ext := extF, own := fun _ _ => true, m := 100000 }
theorem isExt54 : IsExt Tryd.prog 54 Tryd.f54 Extern.BytealgIndexByte.indexByte := ⟨Tryd.func54, by kernel_rfl, by kernel_rfl, by kernel_rfl, by kernel_rfl⟩
theorem sound : X.Sound := by
  refine ⟨by kernel_rfl, fun g x h => (by cases h), fun f g h => ?_⟩
  have h : extF f = some g := h
  unfold extF at h
  cases hb54 : Nat.beq f 54
  · rw [hb54, bsel_false] at h
    cases h
  · rw [hb54, bsel_true] at h; cases h
    obtain rfl := Nat.eq_of_beq_eq_true hb54
    exact pureX_ok (C := cx X 54 fun _ _ _ _ _ => none) isExt54
end
end RewriteKnown
end Go.Proofs.YtdajiliomefobaaDoor
