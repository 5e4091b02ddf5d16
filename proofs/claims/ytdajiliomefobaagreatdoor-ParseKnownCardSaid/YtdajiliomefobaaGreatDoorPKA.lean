/- The law ParseKnown: the program as the walk knows it; its functions without a body. No condition. -/
import Derived.Test.YtdajiliomefobaaGreatDoorChecked
import Derived.Test.YtdajiliomefobaaGreatDoorASlaw
namespace Go.Proofs.YtdajiliomefobaaGreatDoor
open Go.AS
namespace ParseKnown
noncomputable section

def extF (f : FuncId) : Option (Go.AS.Id → Nat → List AV → Hp → Option Res) :=
  (bsel (Nat.beq f 107) (some (valueOfX Tryz.prog))
  (bsel (Nat.beq f 108) (some (typeX Tryz.prog))
  (bsel (Nat.beq f 109) (some (isNilX Tryz.prog))
  (bsel (Nat.beq f 126) (some (typeOfX Tryz.prog))
  (bsel (Nat.beq f 127) (some (elemX Tryz.prog))
  (bsel (Nat.beq f 128) (some (setX Tryz.prog))
  (bsel (Nat.beq f 132) (some (pureX Tryz.prog (Extern.BytealgIndexByte.indexByte)))
  (bsel (Nat.beq f 197) (some (pureX Tryz.prog (Extern.ReflectliteType.abiMethod fun t => do pure (.int .u8 (← Extern.Rtype.kind t)))))
  (bsel (Nat.beq f 207) (some (pureX Tryz.prog (Extern.ReflectliteType.relation "AssignableTo" Extern.ReflectliteType.assignableTo)))
  (bsel (Nat.beq f 208) (some (pureX Tryz.prog (Extern.ReflectliteType.method fun t => do Extern.Rtype.noPackHeld "Comparable" t; pure (.bool (← typeInfo t).comparable))))
  (bsel (Nat.beq f 209) (some (pureX Tryz.prog (Extern.ReflectliteType.method Extern.ReflectliteType.elem)))
  (bsel (Nat.beq f 210) (some (pureX Tryz.prog (Extern.ReflectliteType.relation "Implements" Extern.ReflectliteType.implements_))) (none)))))))))))))
def X : PX := { P := Tryz.prog, gl := fun g => bsel (Nat.beq g 0) (some (.ref (.lit (.iface 169 (.agg #[.pointer (some ⟨7, 47, none⟩)]))))) none, ext := extF, own := fun _ _ => true, m := 100000 }
theorem isExt107 : IsExt Tryz.prog 107 Tryz.f107 (fun args => Extern.ReflectliteValue.unpack (args.getD 0 (.tuple #[]))) := ⟨Tryz.func107, by kernel_rfl, by kernel_rfl, by kernel_rfl, by kernel_rfl⟩
theorem isExt108 : IsExt Tryz.prog 108 Tryz.f108 (Extern.ReflectliteValue.methodAny (Extern.ReflectliteValue.valueError "reflectlite.Value.Type" 0) fun t _ _ _ => Extern.ReflectliteType.toType t) := ⟨Tryz.func108, by kernel_rfl, by kernel_rfl, by kernel_rfl, by kernel_rfl⟩
theorem isExt109 : IsExt Tryz.prog 109 Tryz.f109 (Extern.ReflectliteValue.method (Extern.ReflectliteValue.valueError "reflectlite.Value.IsNil" 0) Extern.ReflectliteValue.isNil) := ⟨Tryz.func109, by kernel_rfl, by kernel_rfl, by kernel_rfl, by kernel_rfl⟩
theorem isExt126 : IsExt Tryz.prog 126 Tryz.f126 (Extern.ReflectliteType.typeOf) := ⟨Tryz.func126, by kernel_rfl, by kernel_rfl, by kernel_rfl, by kernel_rfl⟩
theorem isExt127 : IsExt Tryz.prog 127 Tryz.f127 (Extern.ReflectliteValue.method (Extern.ReflectliteValue.valueError "reflectlite.Value.Elem" 0) Extern.ReflectliteValue.elem) := ⟨Tryz.func127, by kernel_rfl, by kernel_rfl, by kernel_rfl, by kernel_rfl⟩
theorem isExt128 : IsExt Tryz.prog 128 Tryz.f128 (Extern.ReflectliteValue.set) := ⟨Tryz.func128, by kernel_rfl, by kernel_rfl, by kernel_rfl, by kernel_rfl⟩
theorem isExt132 : IsExt Tryz.prog 132 Tryz.f132 (Extern.BytealgIndexByte.indexByte) := ⟨Tryz.func132, by kernel_rfl, by kernel_rfl, by kernel_rfl, by kernel_rfl⟩
theorem isExt197 : IsExt Tryz.prog 197 Tryz.f197 (Extern.ReflectliteType.abiMethod fun t => do pure (.int .u8 (← Extern.Rtype.kind t))) := ⟨Tryz.func197, by kernel_rfl, by kernel_rfl, by kernel_rfl, by kernel_rfl⟩
theorem isExt207 : IsExt Tryz.prog 207 Tryz.f207 (Extern.ReflectliteType.relation "AssignableTo" Extern.ReflectliteType.assignableTo) := ⟨Tryz.func207, by kernel_rfl, by kernel_rfl, by kernel_rfl, by kernel_rfl⟩
theorem isExt208 : IsExt Tryz.prog 208 Tryz.f208 (Extern.ReflectliteType.method fun t => do Extern.Rtype.noPackHeld "Comparable" t; pure (.bool (← typeInfo t).comparable)) := ⟨Tryz.func208, by kernel_rfl, by kernel_rfl, by kernel_rfl, by kernel_rfl⟩
theorem isExt209 : IsExt Tryz.prog 209 Tryz.f209 (Extern.ReflectliteType.method Extern.ReflectliteType.elem) := ⟨Tryz.func209, by kernel_rfl, by kernel_rfl, by kernel_rfl, by kernel_rfl⟩
theorem isExt210 : IsExt Tryz.prog 210 Tryz.f210 (Extern.ReflectliteType.relation "Implements" Extern.ReflectliteType.implements_) := ⟨Tryz.func210, by kernel_rfl, by kernel_rfl, by kernel_rfl, by kernel_rfl⟩
theorem sound : X.Sound := by
  refine ⟨by kernel_rfl, fun g x h => (by
    have h : bsel (Nat.beq g 0) (some (.ref (.lit (.iface 169 (.agg #[.pointer (some ⟨7, 47, none⟩)]))))) none = some x := h
    cases hb : Nat.beq g 0
    · rw [hb, bsel_false] at h; cases h
    · rw [hb, bsel_true] at h; cases h; intro M; rfl), fun f g h => ?_⟩
  have h : extF f = some g := h
  unfold extF at h
  cases hb107 : Nat.beq f 107
  · rw [hb107, bsel_false] at h
    cases hb108 : Nat.beq f 108
    · rw [hb108, bsel_false] at h
      cases hb109 : Nat.beq f 109
      · rw [hb109, bsel_false] at h
        cases hb126 : Nat.beq f 126
        · rw [hb126, bsel_false] at h
          cases hb127 : Nat.beq f 127
          · rw [hb127, bsel_false] at h
            cases hb128 : Nat.beq f 128
            · rw [hb128, bsel_false] at h
              cases hb132 : Nat.beq f 132
              · rw [hb132, bsel_false] at h
                cases hb197 : Nat.beq f 197
                · rw [hb197, bsel_false] at h
                  cases hb207 : Nat.beq f 207
                  · rw [hb207, bsel_false] at h
                    cases hb208 : Nat.beq f 208
                    · rw [hb208, bsel_false] at h
                      cases hb209 : Nat.beq f 209
                      · rw [hb209, bsel_false] at h
                        cases hb210 : Nat.beq f 210
                        · rw [hb210, bsel_false] at h
                          cases h
                        · rw [hb210, bsel_true] at h; cases h
                          obtain rfl := Nat.eq_of_beq_eq_true hb210
                          exact pureX_ok (C := cx X 210 fun _ _ _ _ _ => none) isExt210
                      · rw [hb209, bsel_true] at h; cases h
                        obtain rfl := Nat.eq_of_beq_eq_true hb209
                        exact pureX_ok (C := cx X 209 fun _ _ _ _ _ => none) isExt209
                    · rw [hb208, bsel_true] at h; cases h
                      obtain rfl := Nat.eq_of_beq_eq_true hb208
                      exact pureX_ok (C := cx X 208 fun _ _ _ _ _ => none) isExt208
                  · rw [hb207, bsel_true] at h; cases h
                    obtain rfl := Nat.eq_of_beq_eq_true hb207
                    exact pureX_ok (C := cx X 207 fun _ _ _ _ _ => none) isExt207
                · rw [hb197, bsel_true] at h; cases h
                  obtain rfl := Nat.eq_of_beq_eq_true hb197
                  exact pureX_ok (C := cx X 197 fun _ _ _ _ _ => none) isExt197
              · rw [hb132, bsel_true] at h; cases h
                obtain rfl := Nat.eq_of_beq_eq_true hb132
                exact pureX_ok (C := cx X 132 fun _ _ _ _ _ => none) isExt132
            · rw [hb128, bsel_true] at h; cases h
              obtain rfl := Nat.eq_of_beq_eq_true hb128
              exact set_ok (C := cx X 128 fun _ _ _ _ _ => none) isExt128
          · rw [hb127, bsel_true] at h; cases h
            obtain rfl := Nat.eq_of_beq_eq_true hb127
            exact elem_ok (C := cx X 127 fun _ _ _ _ _ => none) isExt127
        · rw [hb126, bsel_true] at h; cases h
          obtain rfl := Nat.eq_of_beq_eq_true hb126
          exact typeOf_ok (C := cx X 126 fun _ _ _ _ _ => none) isExt126
      · rw [hb109, bsel_true] at h; cases h
        obtain rfl := Nat.eq_of_beq_eq_true hb109
        exact isNil_ok (C := cx X 109 fun _ _ _ _ _ => none) isExt109
    · rw [hb108, bsel_true] at h; cases h
      obtain rfl := Nat.eq_of_beq_eq_true hb108
      exact type_ok (C := cx X 108 fun _ _ _ _ _ => none) isExt108
  · rw [hb107, bsel_true] at h; cases h
    obtain rfl := Nat.eq_of_beq_eq_true hb107
    exact valueOf_ok (C := cx X 107 fun _ _ _ _ _ => none) isExt107
end
end ParseKnown
end Go.Proofs.YtdajiliomefobaaGreatDoor
