/- The law AnswerKnown: the program as the walk knows it; its functions without a body. No condition. -/
import Derived.Test.YtnkhdbbjmmjkoaaGreatDoorChecked
import Derived.Test.YtnkhdbbjmmjkoaaGreatDoorASlaw
import Derived.Test.YtnkhdbbjmmjkoaaGreatDoorASlend
import Derived.Test.YtnkhdbbjmmjkoaaGreatDoorASms
import Derived.Test.YtnkhdbbjmmjkoaaGreatDoorASext2
namespace Go.Proofs.YtnkhdbbjmmjkoaaGreatDoor
open Go.AS
namespace AnswerKnown
noncomputable section

def extF (f : FuncId) : Option (Go.AS.Id → Nat → List AV → Hp → Option Res) :=
  (bsel (Nat.beq f 91) (some (valueOfX Tryz.prog))
  (bsel (Nat.beq f 92) (some (typeX Tryz.prog))
  (bsel (Nat.beq f 93) (some (isNilX Tryz.prog))
  (bsel (Nat.beq f 130) (some (typeOfX Tryz.prog))
  (bsel (Nat.beq f 135) (some (elemX Tryz.prog))
  (bsel (Nat.beq f 136) (some (setX Tryz.prog))
  (bsel (Nat.beq f 187) (some (cloneX))
  (bsel (Nat.beq f 221) (some (compareX))
  (bsel (Nat.beq f 264) (some (pureX Tryz.prog (Extern.ReflectliteType.abiMethod fun t => do pure (.int .u8 (← Extern.Rtype.kind t)))))
  (bsel (Nat.beq f 277) (some (pureX Tryz.prog (Extern.ReflectliteType.relation "AssignableTo" Extern.ReflectliteType.assignableTo)))
  (bsel (Nat.beq f 278) (some (pureX Tryz.prog (Extern.ReflectliteType.method fun t => do Extern.Rtype.noPackHeld "Comparable" t; pure (.bool (← typeInfo t).comparable))))
  (bsel (Nat.beq f 279) (some (pureX Tryz.prog (Extern.ReflectliteType.method Extern.ReflectliteType.elem)))
  (bsel (Nat.beq f 280) (some (pureX Tryz.prog (Extern.ReflectliteType.relation "Implements" Extern.ReflectliteType.implements_))) (none))))))))))))))
def X : PX := { P := Tryz.prog, gl := fun g => bsel (Nat.beq g 0) (some (.ref (.lit (.iface 257 (.agg #[.pointer (some ⟨2, 36, none⟩)]))))) none, ext := extF, own := fun _ _ => true, m := 100000 }
theorem isExt91 : IsExt Tryz.prog 91 Tryz.f91 (fun args => Extern.ReflectliteValue.unpack (args.getD 0 (.tuple #[]))) := ⟨Tryz.func91, by kernel_rfl, by kernel_rfl, by kernel_rfl, by kernel_rfl⟩
theorem isExt92 : IsExt Tryz.prog 92 Tryz.f92 (Extern.ReflectliteValue.methodAny (Extern.ReflectliteValue.valueError "reflectlite.Value.Type" 0) fun t _ _ _ => Extern.ReflectliteType.toType t) := ⟨Tryz.func92, by kernel_rfl, by kernel_rfl, by kernel_rfl, by kernel_rfl⟩
theorem isExt93 : IsExt Tryz.prog 93 Tryz.f93 (Extern.ReflectliteValue.method (Extern.ReflectliteValue.valueError "reflectlite.Value.IsNil" 0) Extern.ReflectliteValue.isNil) := ⟨Tryz.func93, by kernel_rfl, by kernel_rfl, by kernel_rfl, by kernel_rfl⟩
theorem isExt130 : IsExt Tryz.prog 130 Tryz.f130 (Extern.ReflectliteType.typeOf) := ⟨Tryz.func130, by kernel_rfl, by kernel_rfl, by kernel_rfl, by kernel_rfl⟩
theorem isExt135 : IsExt Tryz.prog 135 Tryz.f135 (Extern.ReflectliteValue.method (Extern.ReflectliteValue.valueError "reflectlite.Value.Elem" 0) Extern.ReflectliteValue.elem) := ⟨Tryz.func135, by kernel_rfl, by kernel_rfl, by kernel_rfl, by kernel_rfl⟩
theorem isExt136 : IsExt Tryz.prog 136 Tryz.f136 (Extern.ReflectliteValue.set) := ⟨Tryz.func136, by kernel_rfl, by kernel_rfl, by kernel_rfl, by kernel_rfl⟩
theorem isExt187 : IsExt Tryz.prog 187 Tryz.f187 (Extern.MapsClone.clone) := ⟨Tryz.func187, by kernel_rfl, by kernel_rfl, by kernel_rfl, by kernel_rfl⟩
theorem isExt221 : IsExt Tryz.prog 221 Tryz.f221 (Extern.BytealgCompare.compare) := ⟨Tryz.func221, by kernel_rfl, by kernel_rfl, by kernel_rfl, by kernel_rfl⟩
theorem isExt264 : IsExt Tryz.prog 264 Tryz.f264 (Extern.ReflectliteType.abiMethod fun t => do pure (.int .u8 (← Extern.Rtype.kind t))) := ⟨Tryz.func264, by kernel_rfl, by kernel_rfl, by kernel_rfl, by kernel_rfl⟩
theorem isExt277 : IsExt Tryz.prog 277 Tryz.f277 (Extern.ReflectliteType.relation "AssignableTo" Extern.ReflectliteType.assignableTo) := ⟨Tryz.func277, by kernel_rfl, by kernel_rfl, by kernel_rfl, by kernel_rfl⟩
theorem isExt278 : IsExt Tryz.prog 278 Tryz.f278 (Extern.ReflectliteType.method fun t => do Extern.Rtype.noPackHeld "Comparable" t; pure (.bool (← typeInfo t).comparable)) := ⟨Tryz.func278, by kernel_rfl, by kernel_rfl, by kernel_rfl, by kernel_rfl⟩
theorem isExt279 : IsExt Tryz.prog 279 Tryz.f279 (Extern.ReflectliteType.method Extern.ReflectliteType.elem) := ⟨Tryz.func279, by kernel_rfl, by kernel_rfl, by kernel_rfl, by kernel_rfl⟩
theorem isExt280 : IsExt Tryz.prog 280 Tryz.f280 (Extern.ReflectliteType.relation "Implements" Extern.ReflectliteType.implements_) := ⟨Tryz.func280, by kernel_rfl, by kernel_rfl, by kernel_rfl, by kernel_rfl⟩
theorem sound : X.Sound := by
  refine ⟨by kernel_rfl, fun g x h => (by
    have h : bsel (Nat.beq g 0) (some (.ref (.lit (.iface 257 (.agg #[.pointer (some ⟨2, 36, none⟩)]))))) none = some x := h
    cases hb : Nat.beq g 0
    · rw [hb, bsel_false] at h; cases h
    · rw [hb, bsel_true] at h; cases h; intro M; rfl), fun f g h => ?_⟩
  have h : extF f = some g := h
  unfold extF at h
  cases hb91 : Nat.beq f 91
  · rw [hb91, bsel_false] at h
    cases hb92 : Nat.beq f 92
    · rw [hb92, bsel_false] at h
      cases hb93 : Nat.beq f 93
      · rw [hb93, bsel_false] at h
        cases hb130 : Nat.beq f 130
        · rw [hb130, bsel_false] at h
          cases hb135 : Nat.beq f 135
          · rw [hb135, bsel_false] at h
            cases hb136 : Nat.beq f 136
            · rw [hb136, bsel_false] at h
              cases hb187 : Nat.beq f 187
              · rw [hb187, bsel_false] at h
                cases hb221 : Nat.beq f 221
                · rw [hb221, bsel_false] at h
                  cases hb264 : Nat.beq f 264
                  · rw [hb264, bsel_false] at h
                    cases hb277 : Nat.beq f 277
                    · rw [hb277, bsel_false] at h
                      cases hb278 : Nat.beq f 278
                      · rw [hb278, bsel_false] at h
                        cases hb279 : Nat.beq f 279
                        · rw [hb279, bsel_false] at h
                          cases hb280 : Nat.beq f 280
                          · rw [hb280, bsel_false] at h
                            cases h
                          · rw [hb280, bsel_true] at h; cases h
                            obtain rfl := Nat.eq_of_beq_eq_true hb280
                            exact pureX_ok (C := cx X 280 fun _ _ _ _ _ => none) isExt280
                        · rw [hb279, bsel_true] at h; cases h
                          obtain rfl := Nat.eq_of_beq_eq_true hb279
                          exact pureX_ok (C := cx X 279 fun _ _ _ _ _ => none) isExt279
                      · rw [hb278, bsel_true] at h; cases h
                        obtain rfl := Nat.eq_of_beq_eq_true hb278
                        exact pureX_ok (C := cx X 278 fun _ _ _ _ _ => none) isExt278
                    · rw [hb277, bsel_true] at h; cases h
                      obtain rfl := Nat.eq_of_beq_eq_true hb277
                      exact pureX_ok (C := cx X 277 fun _ _ _ _ _ => none) isExt277
                  · rw [hb264, bsel_true] at h; cases h
                    obtain rfl := Nat.eq_of_beq_eq_true hb264
                    exact pureX_ok (C := cx X 264 fun _ _ _ _ _ => none) isExt264
                · rw [hb221, bsel_true] at h; cases h
                  obtain rfl := Nat.eq_of_beq_eq_true hb221
                  exact compareX_ok (C := cx X 221 fun _ _ _ _ _ => none) isExt221
              · rw [hb187, bsel_true] at h; cases h
                obtain rfl := Nat.eq_of_beq_eq_true hb187
                exact cloneX_ok (C := cx X 187 fun _ _ _ _ _ => none) isExt187
            · rw [hb136, bsel_true] at h; cases h
              obtain rfl := Nat.eq_of_beq_eq_true hb136
              exact set_ok (C := cx X 136 fun _ _ _ _ _ => none) isExt136
          · rw [hb135, bsel_true] at h; cases h
            obtain rfl := Nat.eq_of_beq_eq_true hb135
            exact elem_ok (C := cx X 135 fun _ _ _ _ _ => none) isExt135
        · rw [hb130, bsel_true] at h; cases h
          obtain rfl := Nat.eq_of_beq_eq_true hb130
          exact typeOf_ok (C := cx X 130 fun _ _ _ _ _ => none) isExt130
      · rw [hb93, bsel_true] at h; cases h
        obtain rfl := Nat.eq_of_beq_eq_true hb93
        exact isNil_ok (C := cx X 93 fun _ _ _ _ _ => none) isExt93
    · rw [hb92, bsel_true] at h; cases h
      obtain rfl := Nat.eq_of_beq_eq_true hb92
      exact type_ok (C := cx X 92 fun _ _ _ _ _ => none) isExt92
  · rw [hb91, bsel_true] at h; cases h
    obtain rfl := Nat.eq_of_beq_eq_true hb91
    exact valueOf_ok (C := cx X 91 fun _ _ _ _ _ => none) isExt91
end
end AnswerKnown
end Go.Proofs.YtnkhdbbjmmjkoaaGreatDoor
