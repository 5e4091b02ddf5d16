/- The law ClientKnown: the program as the walk knows it; its functions without a body. No condition. -/
import Derived.Test.YtjigieojedmhoaaGreatDoorChecked
import Derived.Test.YtjigieojedmhoaaGreatDoorASlaw
import Derived.Test.YtjigieojedmhoaaGreatDoorASlend
import Derived.Test.YtjigieojedmhoaaGreatDoorASms
namespace Go.Proofs.YtjigieojedmhoaaGreatDoor
open Go.AS
namespace ClientKnown
noncomputable section

def extF (f : FuncId) : Option (Go.AS.Id → Nat → List AV → Hp → Option Res) :=
  (bsel (Nat.beq f 96) (some (valueOfX Tryz.prog))
  (bsel (Nat.beq f 97) (some (typeX Tryz.prog))
  (bsel (Nat.beq f 98) (some (isNilX Tryz.prog))
  (bsel (Nat.beq f 162) (some (typeOfX Tryz.prog))
  (bsel (Nat.beq f 163) (some (elemX Tryz.prog))
  (bsel (Nat.beq f 164) (some (setX Tryz.prog))
  (bsel (Nat.beq f 215) (some (pureX Tryz.prog (Extern.BytealgIndexByte.indexByte)))
  (bsel (Nat.beq f 344) (some (pureX Tryz.prog (Extern.ReflectliteType.abiMethod fun t => do pure (.int .u8 (← Extern.Rtype.kind t)))))
  (bsel (Nat.beq f 359) (some (pureX Tryz.prog (Extern.ReflectliteType.relation "AssignableTo" Extern.ReflectliteType.assignableTo)))
  (bsel (Nat.beq f 360) (some (pureX Tryz.prog (Extern.ReflectliteType.method fun t => do Extern.Rtype.noPackHeld "Comparable" t; pure (.bool (← typeInfo t).comparable))))
  (bsel (Nat.beq f 361) (some (pureX Tryz.prog (Extern.ReflectliteType.method Extern.ReflectliteType.elem)))
  (bsel (Nat.beq f 362) (some (pureX Tryz.prog (Extern.ReflectliteType.relation "Implements" Extern.ReflectliteType.implements_))) (none)))))))))))))
def X : PX := { P := Tryz.prog, gl := fun g => bsel (Nat.beq g 0) (some (.ref (.lit (.iface 293 (.agg #[.pointer (some ⟨7, 24, none⟩)]))))) none, ext := extF, own := fun _ _ => true, m := 100000 }
theorem isExt96 : IsExt Tryz.prog 96 Tryz.f96 (fun args => Extern.ReflectliteValue.unpack (args.getD 0 (.tuple #[]))) := ⟨Tryz.func96, by kernel_rfl, by kernel_rfl, by kernel_rfl, by kernel_rfl⟩
theorem isExt97 : IsExt Tryz.prog 97 Tryz.f97 (Extern.ReflectliteValue.methodAny (Extern.ReflectliteValue.valueError "reflectlite.Value.Type" 0) fun t _ _ _ => Extern.ReflectliteType.toType t) := ⟨Tryz.func97, by kernel_rfl, by kernel_rfl, by kernel_rfl, by kernel_rfl⟩
theorem isExt98 : IsExt Tryz.prog 98 Tryz.f98 (Extern.ReflectliteValue.method (Extern.ReflectliteValue.valueError "reflectlite.Value.IsNil" 0) Extern.ReflectliteValue.isNil) := ⟨Tryz.func98, by kernel_rfl, by kernel_rfl, by kernel_rfl, by kernel_rfl⟩
theorem isExt162 : IsExt Tryz.prog 162 Tryz.f162 (Extern.ReflectliteType.typeOf) := ⟨Tryz.func162, by kernel_rfl, by kernel_rfl, by kernel_rfl, by kernel_rfl⟩
theorem isExt163 : IsExt Tryz.prog 163 Tryz.f163 (Extern.ReflectliteValue.method (Extern.ReflectliteValue.valueError "reflectlite.Value.Elem" 0) Extern.ReflectliteValue.elem) := ⟨Tryz.func163, by kernel_rfl, by kernel_rfl, by kernel_rfl, by kernel_rfl⟩
theorem isExt164 : IsExt Tryz.prog 164 Tryz.f164 (Extern.ReflectliteValue.set) := ⟨Tryz.func164, by kernel_rfl, by kernel_rfl, by kernel_rfl, by kernel_rfl⟩
theorem isExt215 : IsExt Tryz.prog 215 Tryz.f215 (Extern.BytealgIndexByte.indexByte) := ⟨Tryz.func215, by kernel_rfl, by kernel_rfl, by kernel_rfl, by kernel_rfl⟩
theorem isExt344 : IsExt Tryz.prog 344 Tryz.f344 (Extern.ReflectliteType.abiMethod fun t => do pure (.int .u8 (← Extern.Rtype.kind t))) := ⟨Tryz.func344, by kernel_rfl, by kernel_rfl, by kernel_rfl, by kernel_rfl⟩
theorem isExt359 : IsExt Tryz.prog 359 Tryz.f359 (Extern.ReflectliteType.relation "AssignableTo" Extern.ReflectliteType.assignableTo) := ⟨Tryz.func359, by kernel_rfl, by kernel_rfl, by kernel_rfl, by kernel_rfl⟩
theorem isExt360 : IsExt Tryz.prog 360 Tryz.f360 (Extern.ReflectliteType.method fun t => do Extern.Rtype.noPackHeld "Comparable" t; pure (.bool (← typeInfo t).comparable)) := ⟨Tryz.func360, by kernel_rfl, by kernel_rfl, by kernel_rfl, by kernel_rfl⟩
theorem isExt361 : IsExt Tryz.prog 361 Tryz.f361 (Extern.ReflectliteType.method Extern.ReflectliteType.elem) := ⟨Tryz.func361, by kernel_rfl, by kernel_rfl, by kernel_rfl, by kernel_rfl⟩
theorem isExt362 : IsExt Tryz.prog 362 Tryz.f362 (Extern.ReflectliteType.relation "Implements" Extern.ReflectliteType.implements_) := ⟨Tryz.func362, by kernel_rfl, by kernel_rfl, by kernel_rfl, by kernel_rfl⟩
theorem sound : X.Sound := by
  refine ⟨by kernel_rfl, fun g x h => (by
    have h : bsel (Nat.beq g 0) (some (.ref (.lit (.iface 293 (.agg #[.pointer (some ⟨7, 24, none⟩)]))))) none = some x := h
    cases hb : Nat.beq g 0
    · rw [hb, bsel_false] at h; cases h
    · rw [hb, bsel_true] at h; cases h; intro M; rfl), fun f g h => ?_⟩
  have h : extF f = some g := h
  unfold extF at h
  cases hb96 : Nat.beq f 96
  · rw [hb96, bsel_false] at h
    cases hb97 : Nat.beq f 97
    · rw [hb97, bsel_false] at h
      cases hb98 : Nat.beq f 98
      · rw [hb98, bsel_false] at h
        cases hb162 : Nat.beq f 162
        · rw [hb162, bsel_false] at h
          cases hb163 : Nat.beq f 163
          · rw [hb163, bsel_false] at h
            cases hb164 : Nat.beq f 164
            · rw [hb164, bsel_false] at h
              cases hb215 : Nat.beq f 215
              · rw [hb215, bsel_false] at h
                cases hb344 : Nat.beq f 344
                · rw [hb344, bsel_false] at h
                  cases hb359 : Nat.beq f 359
                  · rw [hb359, bsel_false] at h
                    cases hb360 : Nat.beq f 360
                    · rw [hb360, bsel_false] at h
                      cases hb361 : Nat.beq f 361
                      · rw [hb361, bsel_false] at h
                        cases hb362 : Nat.beq f 362
                        · rw [hb362, bsel_false] at h
                          cases h
                        · rw [hb362, bsel_true] at h; cases h
                          obtain rfl := Nat.eq_of_beq_eq_true hb362
                          exact pureX_ok (C := cx X 362 fun _ _ _ _ _ => none) isExt362
                      · rw [hb361, bsel_true] at h; cases h
                        obtain rfl := Nat.eq_of_beq_eq_true hb361
                        exact pureX_ok (C := cx X 361 fun _ _ _ _ _ => none) isExt361
                    · rw [hb360, bsel_true] at h; cases h
                      obtain rfl := Nat.eq_of_beq_eq_true hb360
                      exact pureX_ok (C := cx X 360 fun _ _ _ _ _ => none) isExt360
                  · rw [hb359, bsel_true] at h; cases h
                    obtain rfl := Nat.eq_of_beq_eq_true hb359
                    exact pureX_ok (C := cx X 359 fun _ _ _ _ _ => none) isExt359
                · rw [hb344, bsel_true] at h; cases h
                  obtain rfl := Nat.eq_of_beq_eq_true hb344
                  exact pureX_ok (C := cx X 344 fun _ _ _ _ _ => none) isExt344
              · rw [hb215, bsel_true] at h; cases h
                obtain rfl := Nat.eq_of_beq_eq_true hb215
                exact pureX_ok (C := cx X 215 fun _ _ _ _ _ => none) isExt215
            · rw [hb164, bsel_true] at h; cases h
              obtain rfl := Nat.eq_of_beq_eq_true hb164
              exact set_ok (C := cx X 164 fun _ _ _ _ _ => none) isExt164
          · rw [hb163, bsel_true] at h; cases h
            obtain rfl := Nat.eq_of_beq_eq_true hb163
            exact elem_ok (C := cx X 163 fun _ _ _ _ _ => none) isExt163
        · rw [hb162, bsel_true] at h; cases h
          obtain rfl := Nat.eq_of_beq_eq_true hb162
          exact typeOf_ok (C := cx X 162 fun _ _ _ _ _ => none) isExt162
      · rw [hb98, bsel_true] at h; cases h
        obtain rfl := Nat.eq_of_beq_eq_true hb98
        exact isNil_ok (C := cx X 98 fun _ _ _ _ _ => none) isExt98
    · rw [hb97, bsel_true] at h; cases h
      obtain rfl := Nat.eq_of_beq_eq_true hb97
      exact type_ok (C := cx X 97 fun _ _ _ _ _ => none) isExt97
  · rw [hb96, bsel_true] at h; cases h
    obtain rfl := Nat.eq_of_beq_eq_true hb96
    exact valueOf_ok (C := cx X 96 fun _ _ _ _ _ => none) isExt96
end
end ClientKnown
end Go.Proofs.YtjigieojedmhoaaGreatDoor
