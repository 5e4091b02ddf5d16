/- The program as the walk knows it; its functions without a body. -/
import Derived.Test.YtihjokkmkdhhpaaDoorChecked
import Derived.Test.YtihjokkmkdhhpaaDoorAWh
import Derived.Test.YtihjokkmkdhhpaaDoorASlaw
namespace Go.Proofs.YtihjokkmkdhhpaaDoor
open Go.AS
noncomputable section
def fn (f : Nat) : Func := (Tryd.prog.funcs[f]?).getD default
def code (f : Nat) : Code := ((Tryd.prog.funcs[f]?).bind (·.body)).getD .skip

def extF (f : FuncId) : Option (Go.AS.Id → Nat → List AV → Hp → Option Res) :=
  (bsel (Nat.beq f 26) (some (valueOfX Tryd.prog))
  (bsel (Nat.beq f 27) (some (typeX Tryd.prog))
  (bsel (Nat.beq f 28) (some (isNilX Tryd.prog))
  (bsel (Nat.beq f 30) (some (typeOfX Tryd.prog))
  (bsel (Nat.beq f 32) (some (elemX Tryd.prog))
  (bsel (Nat.beq f 33) (some (setX Tryd.prog))
  (bsel (Nat.beq f 48) (some (pureX Tryd.prog (Extern.ReflectliteType.abiMethod fun t => do pure (.int .u8 (← Extern.Rtype.kind t)))))
  (bsel (Nat.beq f 76) (some (pureX Tryd.prog (Extern.ReflectliteType.relation "AssignableTo" Extern.ReflectliteType.assignableTo)))
  (bsel (Nat.beq f 77) (some (pureX Tryd.prog (Extern.ReflectliteType.method fun t => do Extern.Rtype.noPackHeld "Comparable" t; pure (.bool (← typeInfo t).comparable))))
  (bsel (Nat.beq f 78) (some (pureX Tryd.prog (Extern.ReflectliteType.method Extern.ReflectliteType.elem)))
  (bsel (Nat.beq f 79) (some (pureX Tryd.prog (Extern.ReflectliteType.relation "Implements" Extern.ReflectliteType.implements_))) (none))))))))))))
def X0 : PX := { P := Tryd.prog, gl := fun g => bsel (Nat.beq g 0) (some (.ref (.lit (.iface 90 (.agg #[.pointer (some ⟨4, 25, none⟩)]))))) none, ext := extF, own := fun _ _ => false, m := 100000 }
theorem isExt26 : IsExt Tryd.prog 26 Tryd.f26 (fun args => Extern.ReflectliteValue.unpack (args.getD 0 (.tuple #[]))) := ⟨Tryd.func26, by kernel_rfl, by kernel_rfl, by kernel_rfl, by kernel_rfl⟩
theorem isExt27 : IsExt Tryd.prog 27 Tryd.f27 (Extern.ReflectliteValue.methodAny (Extern.ReflectliteValue.valueError "reflectlite.Value.Type" 0) fun t _ _ _ => Extern.ReflectliteType.toType t) := ⟨Tryd.func27, by kernel_rfl, by kernel_rfl, by kernel_rfl, by kernel_rfl⟩
theorem isExt28 : IsExt Tryd.prog 28 Tryd.f28 (Extern.ReflectliteValue.method (Extern.ReflectliteValue.valueError "reflectlite.Value.IsNil" 0) Extern.ReflectliteValue.isNil) := ⟨Tryd.func28, by kernel_rfl, by kernel_rfl, by kernel_rfl, by kernel_rfl⟩
theorem isExt30 : IsExt Tryd.prog 30 Tryd.f30 (Extern.ReflectliteType.typeOf) := ⟨Tryd.func30, by kernel_rfl, by kernel_rfl, by kernel_rfl, by kernel_rfl⟩
theorem isExt32 : IsExt Tryd.prog 32 Tryd.f32 (Extern.ReflectliteValue.method (Extern.ReflectliteValue.valueError "reflectlite.Value.Elem" 0) Extern.ReflectliteValue.elem) := ⟨Tryd.func32, by kernel_rfl, by kernel_rfl, by kernel_rfl, by kernel_rfl⟩
theorem isExt33 : IsExt Tryd.prog 33 Tryd.f33 (Extern.ReflectliteValue.set) := ⟨Tryd.func33, by kernel_rfl, by kernel_rfl, by kernel_rfl, by kernel_rfl⟩
theorem isExt48 : IsExt Tryd.prog 48 Tryd.f48 (Extern.ReflectliteType.abiMethod fun t => do pure (.int .u8 (← Extern.Rtype.kind t))) := ⟨Tryd.func48, by kernel_rfl, by kernel_rfl, by kernel_rfl, by kernel_rfl⟩
theorem isExt76 : IsExt Tryd.prog 76 Tryd.f76 (Extern.ReflectliteType.relation "AssignableTo" Extern.ReflectliteType.assignableTo) := ⟨Tryd.func76, by kernel_rfl, by kernel_rfl, by kernel_rfl, by kernel_rfl⟩
theorem isExt77 : IsExt Tryd.prog 77 Tryd.f77 (Extern.ReflectliteType.method fun t => do Extern.Rtype.noPackHeld "Comparable" t; pure (.bool (← typeInfo t).comparable)) := ⟨Tryd.func77, by kernel_rfl, by kernel_rfl, by kernel_rfl, by kernel_rfl⟩
theorem isExt78 : IsExt Tryd.prog 78 Tryd.f78 (Extern.ReflectliteType.method Extern.ReflectliteType.elem) := ⟨Tryd.func78, by kernel_rfl, by kernel_rfl, by kernel_rfl, by kernel_rfl⟩
theorem isExt79 : IsExt Tryd.prog 79 Tryd.f79 (Extern.ReflectliteType.relation "Implements" Extern.ReflectliteType.implements_) := ⟨Tryd.func79, by kernel_rfl, by kernel_rfl, by kernel_rfl, by kernel_rfl⟩
theorem sound0 : X0.Sound := by
  refine ⟨by kernel_rfl, fun g x h => (by
    have h : bsel (Nat.beq g 0) (some (.ref (.lit (.iface 90 (.agg #[.pointer (some ⟨4, 25, none⟩)]))))) none = some x := h
    cases hb : Nat.beq g 0
    · rw [hb, bsel_false] at h; cases h
    · rw [hb, bsel_true] at h; cases h; intro M; rfl), fun f g h => ?_⟩
  have h : extF f = some g := h
  unfold extF at h
  cases hb26 : Nat.beq f 26
  · rw [hb26, bsel_false] at h
    cases hb27 : Nat.beq f 27
    · rw [hb27, bsel_false] at h
      cases hb28 : Nat.beq f 28
      · rw [hb28, bsel_false] at h
        cases hb30 : Nat.beq f 30
        · rw [hb30, bsel_false] at h
          cases hb32 : Nat.beq f 32
          · rw [hb32, bsel_false] at h
            cases hb33 : Nat.beq f 33
            · rw [hb33, bsel_false] at h
              cases hb48 : Nat.beq f 48
              · rw [hb48, bsel_false] at h
                cases hb76 : Nat.beq f 76
                · rw [hb76, bsel_false] at h
                  cases hb77 : Nat.beq f 77
                  · rw [hb77, bsel_false] at h
                    cases hb78 : Nat.beq f 78
                    · rw [hb78, bsel_false] at h
                      cases hb79 : Nat.beq f 79
                      · rw [hb79, bsel_false] at h
                        cases h
                      · rw [hb79, bsel_true] at h; cases h
                        obtain rfl := Nat.eq_of_beq_eq_true hb79
                        exact pureX_ok (C := cx X0 79 fun _ _ _ _ _ => none) isExt79
                    · rw [hb78, bsel_true] at h; cases h
                      obtain rfl := Nat.eq_of_beq_eq_true hb78
                      exact pureX_ok (C := cx X0 78 fun _ _ _ _ _ => none) isExt78
                  · rw [hb77, bsel_true] at h; cases h
                    obtain rfl := Nat.eq_of_beq_eq_true hb77
                    exact pureX_ok (C := cx X0 77 fun _ _ _ _ _ => none) isExt77
                · rw [hb76, bsel_true] at h; cases h
                  obtain rfl := Nat.eq_of_beq_eq_true hb76
                  exact pureX_ok (C := cx X0 76 fun _ _ _ _ _ => none) isExt76
              · rw [hb48, bsel_true] at h; cases h
                obtain rfl := Nat.eq_of_beq_eq_true hb48
                exact pureX_ok (C := cx X0 48 fun _ _ _ _ _ => none) isExt48
            · rw [hb33, bsel_true] at h; cases h
              obtain rfl := Nat.eq_of_beq_eq_true hb33
              exact set_ok (C := cx X0 33 fun _ _ _ _ _ => none) isExt33
          · rw [hb32, bsel_true] at h; cases h
            obtain rfl := Nat.eq_of_beq_eq_true hb32
            exact elem_ok (C := cx X0 32 fun _ _ _ _ _ => none) isExt32
        · rw [hb30, bsel_true] at h; cases h
          obtain rfl := Nat.eq_of_beq_eq_true hb30
          exact typeOf_ok (C := cx X0 30 fun _ _ _ _ _ => none) isExt30
      · rw [hb28, bsel_true] at h; cases h
        obtain rfl := Nat.eq_of_beq_eq_true hb28
        exact isNil_ok (C := cx X0 28 fun _ _ _ _ _ => none) isExt28
    · rw [hb27, bsel_true] at h; cases h
      obtain rfl := Nat.eq_of_beq_eq_true hb27
      exact type_ok (C := cx X0 27 fun _ _ _ _ _ => none) isExt27
  · rw [hb26, bsel_true] at h; cases h
    obtain rfl := Nat.eq_of_beq_eq_true hb26
    exact valueOf_ok (C := cx X0 26 fun _ _ _ _ _ => none) isExt26
end
end Go.Proofs.YtihjokkmkdhhpaaDoor
