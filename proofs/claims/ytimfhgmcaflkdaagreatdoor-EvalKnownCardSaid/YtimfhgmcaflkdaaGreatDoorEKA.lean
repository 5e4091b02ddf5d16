/- The law EvalKnown: the program as the walk knows it; its functions without a body. No condition. -/
import Derived.Test.YtimfhgmcaflkdaaGreatDoorChecked
import Derived.Test.YtimfhgmcaflkdaaGreatDoorASlaw
import Derived.Test.YtimfhgmcaflkdaaGreatDoorASmem
namespace Go.Proofs.YtimfhgmcaflkdaaGreatDoor
open Go.AS
namespace EvalKnown
noncomputable section

def extF (f : FuncId) : Option (Go.AS.Id → Nat → List AV → Hp → Option Res) :=
  (bsel (Nat.beq f 27) (some (typeOfX Tryz.prog))
  (bsel (Nat.beq f 54) (some (valueOfX Tryz.prog))
  (bsel (Nat.beq f 55) (some (typeX Tryz.prog))
  (bsel (Nat.beq f 56) (some (isNilX Tryz.prog))
  (bsel (Nat.beq f 87) (some (elemX Tryz.prog))
  (bsel (Nat.beq f 88) (some (setX Tryz.prog))
  (bsel (Nat.beq f 111) (some (pureX Tryz.prog (Extern.BytealgIndexByte.indexByte)))
  (bsel (Nat.beq f 206) (some (pureX Tryz.prog (Extern.ReflectliteType.abiMethod fun t => do pure (.int .u8 (← Extern.Rtype.kind t)))))
  (bsel (Nat.beq f 221) (some (pureX Tryz.prog (Extern.ReflectliteType.relation "AssignableTo" Extern.ReflectliteType.assignableTo)))
  (bsel (Nat.beq f 222) (some (pureX Tryz.prog (Extern.ReflectliteType.method fun t => do Extern.Rtype.noPackHeld "Comparable" t; pure (.bool (← typeInfo t).comparable))))
  (bsel (Nat.beq f 223) (some (pureX Tryz.prog (Extern.ReflectliteType.method Extern.ReflectliteType.elem)))
  (bsel (Nat.beq f 224) (some (pureX Tryz.prog (Extern.ReflectliteType.relation "Implements" Extern.ReflectliteType.implements_))) (none)))))))))))))
def X : PX := { P := Tryz.prog, gl := fun g => bsel (Nat.beq g 0) (some (.ref (.lit (.iface 121 (.agg #[.pointer (some ⟨7, 25, none⟩)]))))) none, ext := extF, own := fun f _ => !(Nat.beq f 3), m := 100000 }
theorem isExt27 : IsExt Tryz.prog 27 Tryz.f27 (Extern.ReflectliteType.typeOf) := ⟨Tryz.func27, by kernel_rfl, by kernel_rfl, by kernel_rfl, by kernel_rfl⟩
theorem isExt54 : IsExt Tryz.prog 54 Tryz.f54 (fun args => Extern.ReflectliteValue.unpack (args.getD 0 (.tuple #[]))) := ⟨Tryz.func54, by kernel_rfl, by kernel_rfl, by kernel_rfl, by kernel_rfl⟩
theorem isExt55 : IsExt Tryz.prog 55 Tryz.f55 (Extern.ReflectliteValue.methodAny (Extern.ReflectliteValue.valueError "reflectlite.Value.Type" 0) fun t _ _ _ => Extern.ReflectliteType.toType t) := ⟨Tryz.func55, by kernel_rfl, by kernel_rfl, by kernel_rfl, by kernel_rfl⟩
theorem isExt56 : IsExt Tryz.prog 56 Tryz.f56 (Extern.ReflectliteValue.method (Extern.ReflectliteValue.valueError "reflectlite.Value.IsNil" 0) Extern.ReflectliteValue.isNil) := ⟨Tryz.func56, by kernel_rfl, by kernel_rfl, by kernel_rfl, by kernel_rfl⟩
theorem isExt87 : IsExt Tryz.prog 87 Tryz.f87 (Extern.ReflectliteValue.method (Extern.ReflectliteValue.valueError "reflectlite.Value.Elem" 0) Extern.ReflectliteValue.elem) := ⟨Tryz.func87, by kernel_rfl, by kernel_rfl, by kernel_rfl, by kernel_rfl⟩
theorem isExt88 : IsExt Tryz.prog 88 Tryz.f88 (Extern.ReflectliteValue.set) := ⟨Tryz.func88, by kernel_rfl, by kernel_rfl, by kernel_rfl, by kernel_rfl⟩
theorem isExt111 : IsExt Tryz.prog 111 Tryz.f111 (Extern.BytealgIndexByte.indexByte) := ⟨Tryz.func111, by kernel_rfl, by kernel_rfl, by kernel_rfl, by kernel_rfl⟩
theorem isExt206 : IsExt Tryz.prog 206 Tryz.f206 (Extern.ReflectliteType.abiMethod fun t => do pure (.int .u8 (← Extern.Rtype.kind t))) := ⟨Tryz.func206, by kernel_rfl, by kernel_rfl, by kernel_rfl, by kernel_rfl⟩
theorem isExt221 : IsExt Tryz.prog 221 Tryz.f221 (Extern.ReflectliteType.relation "AssignableTo" Extern.ReflectliteType.assignableTo) := ⟨Tryz.func221, by kernel_rfl, by kernel_rfl, by kernel_rfl, by kernel_rfl⟩
theorem isExt222 : IsExt Tryz.prog 222 Tryz.f222 (Extern.ReflectliteType.method fun t => do Extern.Rtype.noPackHeld "Comparable" t; pure (.bool (← typeInfo t).comparable)) := ⟨Tryz.func222, by kernel_rfl, by kernel_rfl, by kernel_rfl, by kernel_rfl⟩
theorem isExt223 : IsExt Tryz.prog 223 Tryz.f223 (Extern.ReflectliteType.method Extern.ReflectliteType.elem) := ⟨Tryz.func223, by kernel_rfl, by kernel_rfl, by kernel_rfl, by kernel_rfl⟩
theorem isExt224 : IsExt Tryz.prog 224 Tryz.f224 (Extern.ReflectliteType.relation "Implements" Extern.ReflectliteType.implements_) := ⟨Tryz.func224, by kernel_rfl, by kernel_rfl, by kernel_rfl, by kernel_rfl⟩
theorem sound : X.Sound := by
  refine ⟨by kernel_rfl, fun g x h => (by
    have h : bsel (Nat.beq g 0) (some (.ref (.lit (.iface 121 (.agg #[.pointer (some ⟨7, 25, none⟩)]))))) none = some x := h
    cases hb : Nat.beq g 0
    · rw [hb, bsel_false] at h; cases h
    · rw [hb, bsel_true] at h; cases h; intro M; rfl), fun f g h => ?_⟩
  have h : extF f = some g := h
  unfold extF at h
  cases hb27 : Nat.beq f 27
  · rw [hb27, bsel_false] at h
    cases hb54 : Nat.beq f 54
    · rw [hb54, bsel_false] at h
      cases hb55 : Nat.beq f 55
      · rw [hb55, bsel_false] at h
        cases hb56 : Nat.beq f 56
        · rw [hb56, bsel_false] at h
          cases hb87 : Nat.beq f 87
          · rw [hb87, bsel_false] at h
            cases hb88 : Nat.beq f 88
            · rw [hb88, bsel_false] at h
              cases hb111 : Nat.beq f 111
              · rw [hb111, bsel_false] at h
                cases hb206 : Nat.beq f 206
                · rw [hb206, bsel_false] at h
                  cases hb221 : Nat.beq f 221
                  · rw [hb221, bsel_false] at h
                    cases hb222 : Nat.beq f 222
                    · rw [hb222, bsel_false] at h
                      cases hb223 : Nat.beq f 223
                      · rw [hb223, bsel_false] at h
                        cases hb224 : Nat.beq f 224
                        · rw [hb224, bsel_false] at h
                          cases h
                        · rw [hb224, bsel_true] at h; cases h
                          obtain rfl := Nat.eq_of_beq_eq_true hb224
                          exact pureX_ok (C := cx X 224 fun _ _ _ _ _ => none) isExt224
                      · rw [hb223, bsel_true] at h; cases h
                        obtain rfl := Nat.eq_of_beq_eq_true hb223
                        exact pureX_ok (C := cx X 223 fun _ _ _ _ _ => none) isExt223
                    · rw [hb222, bsel_true] at h; cases h
                      obtain rfl := Nat.eq_of_beq_eq_true hb222
                      exact pureX_ok (C := cx X 222 fun _ _ _ _ _ => none) isExt222
                  · rw [hb221, bsel_true] at h; cases h
                    obtain rfl := Nat.eq_of_beq_eq_true hb221
                    exact pureX_ok (C := cx X 221 fun _ _ _ _ _ => none) isExt221
                · rw [hb206, bsel_true] at h; cases h
                  obtain rfl := Nat.eq_of_beq_eq_true hb206
                  exact pureX_ok (C := cx X 206 fun _ _ _ _ _ => none) isExt206
              · rw [hb111, bsel_true] at h; cases h
                obtain rfl := Nat.eq_of_beq_eq_true hb111
                exact pureX_ok (C := cx X 111 fun _ _ _ _ _ => none) isExt111
            · rw [hb88, bsel_true] at h; cases h
              obtain rfl := Nat.eq_of_beq_eq_true hb88
              exact set_ok (C := cx X 88 fun _ _ _ _ _ => none) isExt88
          · rw [hb87, bsel_true] at h; cases h
            obtain rfl := Nat.eq_of_beq_eq_true hb87
            exact elem_ok (C := cx X 87 fun _ _ _ _ _ => none) isExt87
        · rw [hb56, bsel_true] at h; cases h
          obtain rfl := Nat.eq_of_beq_eq_true hb56
          exact isNil_ok (C := cx X 56 fun _ _ _ _ _ => none) isExt56
      · rw [hb55, bsel_true] at h; cases h
        obtain rfl := Nat.eq_of_beq_eq_true hb55
        exact type_ok (C := cx X 55 fun _ _ _ _ _ => none) isExt55
    · rw [hb54, bsel_true] at h; cases h
      obtain rfl := Nat.eq_of_beq_eq_true hb54
      exact valueOf_ok (C := cx X 54 fun _ _ _ _ _ => none) isExt54
  · rw [hb27, bsel_true] at h; cases h
    obtain rfl := Nat.eq_of_beq_eq_true hb27
    exact typeOf_ok (C := cx X 27 fun _ _ _ _ _ => none) isExt27
end
end EvalKnown
end Go.Proofs.YtimfhgmcaflkdaaGreatDoor
