/- The law ServiceKnown: the program as the walk knows it; its functions without a body. No condition. -/
import Derived.Test.YtfiiemjbbmdlnaaGreatDoorProg
import Derived.Test.YtfiiemjbbmdlnaaGreatDoorASlaw
import Derived.Test.YtfiiemjbbmdlnaaGreatDoorASlend
import Derived.Test.YtfiiemjbbmdlnaaGreatDoorASms
import Derived.Test.YtfiiemjbbmdlnaaGreatDoorASext2
import Derived.Test.YtfiiemjbbmdlnaaGreatDoorASst
import Derived.Test.YtfiiemjbbmdlnaaGreatDoorHX
import Derived.Test.YtfiiemjbbmdlnaaGreatDoorASsu
import Derived.Test.YtfiiemjbbmdlnaaGreatDoorHX
import Derived.Test.YtfiiemjbbmdlnaaGreatDoorASha
import Derived.Test.YtfiiemjbbmdlnaaGreatDoorK14
import Derived.Test.YtfiiemjbbmdlnaaGreatDoorASnw
namespace Go.Proofs.YtfiiemjbbmdlnaaGreatDoor
open Go.AS
namespace ServiceKnown
noncomputable section

def extF (f : FuncId) : Option (Go.AS.Id → Nat → List AV → Hp → Option Res) :=
  (bsel (Nat.beq f 77) (some (valueOfX Tryz.prog))
  (bsel (Nat.beq f 78) (some (typeX Tryz.prog))
  (bsel (Nat.beq f 79) (some (isNilX Tryz.prog))
  (bsel (Nat.beq f 128) (some (typeOfX Tryz.prog))
  (bsel (Nat.beq f 132) (some (elemX Tryz.prog))
  (bsel (Nat.beq f 133) (some (setX Tryz.prog))
  (bsel (Nat.beq f 222) (some (cloneX))
  (bsel (Nat.beq f 295) (some (compareX))
  (bsel (Nat.beq f 296) (some (pureX Tryz.prog (Extern.BytealgIndexByte.indexByte)))
  (bsel (Nat.beq f 397) (some (pureX Tryz.prog (Extern.ReflectliteType.abiMethod fun t => do pure (.int .u8 (← Extern.Rtype.kind t)))))
  (bsel (Nat.beq f 413) (some (pureX Tryz.prog (Extern.ReflectliteType.relation "AssignableTo" Extern.ReflectliteType.assignableTo)))
  (bsel (Nat.beq f 414) (some (pureX Tryz.prog (Extern.ReflectliteType.method fun t => do Extern.Rtype.noPackHeld "Comparable" t; pure (.bool (← typeInfo t).comparable))))
  (bsel (Nat.beq f 415) (some (pureX Tryz.prog (Extern.ReflectliteType.method Extern.ReflectliteType.elem)))
  (bsel (Nat.beq f 416) (some (pureX Tryz.prog (Extern.ReflectliteType.relation "Implements" Extern.ReflectliteType.implements_))) (none)))))))))))))))
def X : PX := { P := Tryz.prog, gl := fun g => bsel (Nat.beq g 0) (some (.ref (.lit (.iface 245 (.agg #[.pointer (some ⟨7, 24, none⟩)]))))) none, ext := extF, own := fun _ _ => true, m := 100000 }
theorem isExt77 : IsExt Tryz.prog 77 Tryz.f77 (fun args => Extern.ReflectliteValue.unpack (args.getD 0 (.tuple #[]))) := ⟨Tryz.func77, by kernel_rfl, by kernel_rfl, by kernel_rfl, by kernel_rfl⟩
theorem isExt78 : IsExt Tryz.prog 78 Tryz.f78 (Extern.ReflectliteValue.methodAny (Extern.ReflectliteValue.valueError "reflectlite.Value.Type" 0) fun t _ _ _ => Extern.ReflectliteType.toType t) := ⟨Tryz.func78, by kernel_rfl, by kernel_rfl, by kernel_rfl, by kernel_rfl⟩
theorem isExt79 : IsExt Tryz.prog 79 Tryz.f79 (Extern.ReflectliteValue.method (Extern.ReflectliteValue.valueError "reflectlite.Value.IsNil" 0) Extern.ReflectliteValue.isNil) := ⟨Tryz.func79, by kernel_rfl, by kernel_rfl, by kernel_rfl, by kernel_rfl⟩
theorem isExt128 : IsExt Tryz.prog 128 Tryz.f128 (Extern.ReflectliteType.typeOf) := ⟨Tryz.func128, by kernel_rfl, by kernel_rfl, by kernel_rfl, by kernel_rfl⟩
theorem isExt132 : IsExt Tryz.prog 132 Tryz.f132 (Extern.ReflectliteValue.method (Extern.ReflectliteValue.valueError "reflectlite.Value.Elem" 0) Extern.ReflectliteValue.elem) := ⟨Tryz.func132, by kernel_rfl, by kernel_rfl, by kernel_rfl, by kernel_rfl⟩
theorem isExt133 : IsExt Tryz.prog 133 Tryz.f133 (Extern.ReflectliteValue.set) := ⟨Tryz.func133, by kernel_rfl, by kernel_rfl, by kernel_rfl, by kernel_rfl⟩
theorem isExt222 : IsExt Tryz.prog 222 Tryz.f222 (Extern.MapsClone.clone) := ⟨Tryz.func222, by kernel_rfl, by kernel_rfl, by kernel_rfl, by kernel_rfl⟩
theorem isExt295 : IsExt Tryz.prog 295 Tryz.f295 (Extern.BytealgCompare.compare) := ⟨Tryz.func295, by kernel_rfl, by kernel_rfl, by kernel_rfl, by kernel_rfl⟩
theorem isExt296 : IsExt Tryz.prog 296 Tryz.f296 (Extern.BytealgIndexByte.indexByte) := ⟨Tryz.func296, by kernel_rfl, by kernel_rfl, by kernel_rfl, by kernel_rfl⟩
theorem isExt397 : IsExt Tryz.prog 397 Tryz.f397 (Extern.ReflectliteType.abiMethod fun t => do pure (.int .u8 (← Extern.Rtype.kind t))) := ⟨Tryz.func397, by kernel_rfl, by kernel_rfl, by kernel_rfl, by kernel_rfl⟩
theorem isExt413 : IsExt Tryz.prog 413 Tryz.f413 (Extern.ReflectliteType.relation "AssignableTo" Extern.ReflectliteType.assignableTo) := ⟨Tryz.func413, by kernel_rfl, by kernel_rfl, by kernel_rfl, by kernel_rfl⟩
theorem isExt414 : IsExt Tryz.prog 414 Tryz.f414 (Extern.ReflectliteType.method fun t => do Extern.Rtype.noPackHeld "Comparable" t; pure (.bool (← typeInfo t).comparable)) := ⟨Tryz.func414, by kernel_rfl, by kernel_rfl, by kernel_rfl, by kernel_rfl⟩
theorem isExt415 : IsExt Tryz.prog 415 Tryz.f415 (Extern.ReflectliteType.method Extern.ReflectliteType.elem) := ⟨Tryz.func415, by kernel_rfl, by kernel_rfl, by kernel_rfl, by kernel_rfl⟩
theorem isExt416 : IsExt Tryz.prog 416 Tryz.f416 (Extern.ReflectliteType.relation "Implements" Extern.ReflectliteType.implements_) := ⟨Tryz.func416, by kernel_rfl, by kernel_rfl, by kernel_rfl, by kernel_rfl⟩
theorem sound : X.Sound := by
  refine ⟨by kernel_rfl, fun g x h => (by
    have h : bsel (Nat.beq g 0) (some (.ref (.lit (.iface 245 (.agg #[.pointer (some ⟨7, 24, none⟩)]))))) none = some x := h
    cases hb : Nat.beq g 0
    · rw [hb, bsel_false] at h; cases h
    · rw [hb, bsel_true] at h; cases h; intro M; rfl), fun f g h => ?_⟩
  have h : extF f = some g := h
  unfold extF at h
  cases hb77 : Nat.beq f 77
  · rw [hb77, bsel_false] at h
    cases hb78 : Nat.beq f 78
    · rw [hb78, bsel_false] at h
      cases hb79 : Nat.beq f 79
      · rw [hb79, bsel_false] at h
        cases hb128 : Nat.beq f 128
        · rw [hb128, bsel_false] at h
          cases hb132 : Nat.beq f 132
          · rw [hb132, bsel_false] at h
            cases hb133 : Nat.beq f 133
            · rw [hb133, bsel_false] at h
              cases hb222 : Nat.beq f 222
              · rw [hb222, bsel_false] at h
                cases hb295 : Nat.beq f 295
                · rw [hb295, bsel_false] at h
                  cases hb296 : Nat.beq f 296
                  · rw [hb296, bsel_false] at h
                    cases hb397 : Nat.beq f 397
                    · rw [hb397, bsel_false] at h
                      cases hb413 : Nat.beq f 413
                      · rw [hb413, bsel_false] at h
                        cases hb414 : Nat.beq f 414
                        · rw [hb414, bsel_false] at h
                          cases hb415 : Nat.beq f 415
                          · rw [hb415, bsel_false] at h
                            cases hb416 : Nat.beq f 416
                            · rw [hb416, bsel_false] at h
                              cases h
                            · rw [hb416, bsel_true] at h; cases h
                              obtain rfl := Nat.eq_of_beq_eq_true hb416
                              exact pureX_ok (C := cx X 416 fun _ _ _ _ _ => none) isExt416
                          · rw [hb415, bsel_true] at h; cases h
                            obtain rfl := Nat.eq_of_beq_eq_true hb415
                            exact pureX_ok (C := cx X 415 fun _ _ _ _ _ => none) isExt415
                        · rw [hb414, bsel_true] at h; cases h
                          obtain rfl := Nat.eq_of_beq_eq_true hb414
                          exact pureX_ok (C := cx X 414 fun _ _ _ _ _ => none) isExt414
                      · rw [hb413, bsel_true] at h; cases h
                        obtain rfl := Nat.eq_of_beq_eq_true hb413
                        exact pureX_ok (C := cx X 413 fun _ _ _ _ _ => none) isExt413
                    · rw [hb397, bsel_true] at h; cases h
                      obtain rfl := Nat.eq_of_beq_eq_true hb397
                      exact pureX_ok (C := cx X 397 fun _ _ _ _ _ => none) isExt397
                  · rw [hb296, bsel_true] at h; cases h
                    obtain rfl := Nat.eq_of_beq_eq_true hb296
                    exact pureX_ok (C := cx X 296 fun _ _ _ _ _ => none) isExt296
                · rw [hb295, bsel_true] at h; cases h
                  obtain rfl := Nat.eq_of_beq_eq_true hb295
                  exact compareX_ok (C := cx X 295 fun _ _ _ _ _ => none) isExt295
              · rw [hb222, bsel_true] at h; cases h
                obtain rfl := Nat.eq_of_beq_eq_true hb222
                exact cloneX_ok (C := cx X 222 fun _ _ _ _ _ => none) isExt222
            · rw [hb133, bsel_true] at h; cases h
              obtain rfl := Nat.eq_of_beq_eq_true hb133
              exact set_ok (C := cx X 133 fun _ _ _ _ _ => none) isExt133
          · rw [hb132, bsel_true] at h; cases h
            obtain rfl := Nat.eq_of_beq_eq_true hb132
            exact elem_ok (C := cx X 132 fun _ _ _ _ _ => none) isExt132
        · rw [hb128, bsel_true] at h; cases h
          obtain rfl := Nat.eq_of_beq_eq_true hb128
          exact typeOf_ok (C := cx X 128 fun _ _ _ _ _ => none) isExt128
      · rw [hb79, bsel_true] at h; cases h
        obtain rfl := Nat.eq_of_beq_eq_true hb79
        exact isNil_ok (C := cx X 79 fun _ _ _ _ _ => none) isExt79
    · rw [hb78, bsel_true] at h; cases h
      obtain rfl := Nat.eq_of_beq_eq_true hb78
      exact type_ok (C := cx X 78 fun _ _ _ _ _ => none) isExt78
  · rw [hb77, bsel_true] at h; cases h
    obtain rfl := Nat.eq_of_beq_eq_true hb77
    exact valueOf_ok (C := cx X 77 fun _ _ _ _ _ => none) isExt77
def i (n : Int) : AV := .lit (.int .i64 n)
def bs (l : List Nat) : List AV := l.map fun n => .lit (.int .u8 (Int.ofNat n))
def st (l : List UInt8) : AV := .lit (.string ⟨l.toArray⟩)
def va (l : List Nat) : Value := .agg (l.map fun n => Value.int .u8 (Int.ofNat n)).toArray
def nS : AV := .lit (.slice none 0 0)
def nI : AV := .lit .nilIface
def nP : AV := .lit (.pointer none)
def y0 : List AV := bs [1,0,0,1,7,136,135,120,31,2,4,171,0,0,0,0,0,0,0,0,0,0,0,0,0,0,0,0,0,0,0,0,0,0,0,0,0,0,0,0,0,0,0,0,171,0,7,0,0,0,0,0,0,0,0,0,0,0,0,0,0,0,0,0,0,0,0,0,0,0,0,0,0,0,0,1,1,171,0,0,0,0,0,0,0,0,0,0,0,0,0,0,0,0,0,0,0,0,0,0,0,0,0,0,0,0,0,0,0,160,0,14,0,0,0,0,0,0,0,0,0,0,0,0,0,0,0,0,0,0,0,0,0,0,0,0,0,0,0,0,2,1,171,0,7,0,0,0,0,0,0,0,0,0,0,0,0,0,0,0,0,0,0,0,0,0,0,0,0,0,0,0,0,1,18,0,21,0,0,0,0,0,0,0,0,0,0,0,0,0,0,0,0,0,0,0,0,0,0,0,0,0,0,0,0,3,1,160,0,14,0,0,0,0,0,0,0,0,0,0,0,0,0,0,0,0,0,0,0,0,0,0,0,0,0,0,0,0,2,1,18,0,21,0,0,0,0,0,0,0,0,0,0,0,0,0,0,0,0,0,0,0,0,0,0,0,0,0,0,0,0,3,2,0,0,0,65,42,222,47,86,2,18,0,21,0,0,0,0,0,0,0,0,0,0,0,0,0,0,0,0,0,0,0,0,0,0,0,0,0,0,0,0,3,160,0,14,0,0,0,0,0,0,0,0,0,0,0,0,0,0,0,0,0,0,0,0,0,0,0,0,0,0,0,0,2]
def y1 : List AV := bs [2,4,171,0,0,0,0,0,0,0,0,0,0,0,0,0,0,0,0,0,0,0,0,0,0,0,0,0,0,0,0,0,0,0,0,171,0,7,0,0,0,0,0,0,0,0,0,0,0,0,0,0,0,0,0,0,0,0,0,0,0,0,0,0,0,0,1,1,171,0,0,0,0,0,0,0,0,0,0,0,0,0,0,0,0,0,0,0,0,0,0,0,0,0,0,0,0,0,0,0,160,0,14,0,0,0,0,0,0,0,0,0,0,0,0,0,0,0,0,0,0,0,0,0,0,0,0,0,0,0,0,2,1,171,0,7,0,0,0,0,0,0,0,0,0,0,0,0,0,0,0,0,0,0,0,0,0,0,0,0,0,0,0,0,1,18,0,21,0,0,0,0,0,0,0,0,0,0,0,0,0,0,0,0,0,0,0,0,0,0,0,0,0,0,0,0,3,1,160,0,14,0,0,0,0,0,0,0,0,0,0,0,0,0,0,0,0,0,0,0,0,0,0,0,0,0,0,0,0,2,1,18,0,21,0,0,0,0,0,0,0,0,0,0,0,0,0,0,0,0,0,0,0,0,0,0,0,0,0,0,0,0,3]
def y2 : List AV := bs [171,0,0,0,0,0,0,0,0,0,0,0,0,0,0,0,0,0,0,0,0,0,0,0,0,0,0,0,0,0,0,0]
def y3 : List AV := bs [171,0,7,0,0,0,0,0,0,0,0,0,0,0,0,0,0,0,0,0,0,0,0,0,0,0,0,0,0,0,0,1]
def y4 : List AV := bs [1,0,0,1,7,136,135,120,31,2,4,171,0,0,0,0,0,0,0,0,0,0,0,0,0,0,0,0,0,0,0,0,0,0,0,0,0,0,0,0,0,0,0,0,171,0,7,0,0,0,0,0,0,0,0,0,0,0,0,0,0,0,0,0,0,0,0,0,0,0,0,0,0,0,0,1,1,171,0,0,0,0,0,0,0,0,0,0,0,0,0,0,0,0,0,0,0,0,0,0,0,0,0,0,0,0,0,0,0,160,0,14,0,0,0,0,0,0,0,0,0,0,0,0,0,0,0,0,0,0,0,0,0,0,0,0,0,0,0,0,2,1,171,0,7,0,0,0,0,0,0,0,0,0,0,0,0,0,0,0,0,0,0,0,0,0,0,0,0,0,0,0,0,1,18,0,21,0,0,0,0,0,0,0,0,0,0,0,0,0,0,0,0,0,0,0,0,0,0,0,0,0,0,0,0,3,1,160,0,14,0,0,0,0,0,0,0,0,0,0,0,0,0,0,0,0,0,0,0,0,0,0,0,0,0,0,0,0,2,1,18,0,21,0,0,0,0,0,0,0,0,0,0,0,0,0,0,0,0,0,0,0,0,0,0,0,0,0,0,0,0,3]
def y5 : List AV := bs [160,0,14,0,0,0,0,0,0,0,0,0,0,0,0,0,0,0,0,0,0,0,0,0,0,0,0,0,0,0,0,2]
def y6 : List AV := bs [1,0,0,0,38,224,58,31,230,171,0,0,0,0,0,0,0,0,0,0,0,0,0,0,0,0,0,0,0,0,0,0,0,0,0,0,0,0,0,0,0,128,128,128,128,128,32,1,0,0,0,38,209,161,228,158,171,0,7,0,0,0,0,0,0,0,0,0,0,0,0,0,0,0,0,0,0,0,0,0,0,0,0,0,0,0,0,1,129,128,128,128,128,32,2,0,0,0,16,50,15,228,156,1,0,0,0,0,0,0,2,0,0,0,0,0,0,0,0,2,0,0,0,16,155,89,233,121,3,0,0,0,0,0,0,0,0,0,0,0,0,0,0,0,2,0,0,0,16,102,160,17,12,4,0,0,0,0,0,0,0,0,0,0,0,0,0,0,0,2,0,0,0,16,200,200,128,157,5,0,0,0,0,0,0,0,0,0,0,0,0,0,0,0,2,0,0,0,16,61,209,168,43,0,0,0,0,0,0,0,0,0,0,0,6,0,0,0,0,2,0,0,0,16,175,148,109,51,0,0,0,0,0,0,0,0,0,0,7,0,0,0,0,0]
def y7 : List AV := bs [18,0,21,0,0,0,0,0,0,0,0,0,0,0,0,0,0,0,0,0,0,0,0,0,0,0,0,0,0,0,0,3]
def y8 : List AV := bs [2,6,171,0,0,0,0,0,0,0,0,0,0,0,0,0,0,0,0,0,0,0,0,0,0,0,0,0,0,0,0,0,0,0,0,171,0,7,0,0,0,0,0,0,0,0,0,0,0,0,0,0,0,0,0,0,0,0,0,0,0,0,0,0,0,0,1,1,171,0,0,0,0,0,0,0,0,0,0,0,0,0,0,0,0,0,0,0,0,0,0,0,0,0,0,0,0,0,0,0,160,0,14,0,0,0,0,0,0,0,0,0,0,0,0,0,0,0,0,0,0,0,0,0,0,0,0,0,0,0,0,2,1,171,0,7,0,0,0,0,0,0,0,0,0,0,0,0,0,0,0,0,0,0,0,0,0,0,0,0,0,0,0,0,1,18,0,21,0,0,0,0,0,0,0,0,0,0,0,0,0,0,0,0,0,0,0,0,0,0,0,0,0,0,0,0,3,1,160,0,14,0,0,0,0,0,0,0,0,0,0,0,0,0,0,0,0,0,0,0,0,0,0,0,0,0,0,0,0,2,254,0,28,0,0,0,0,0,0,0,0,0,0,0,0,0,0,0,0,0,0,0,0,0,0,0,0,0,0,0,0,4,1,18,0,21,0,0,0,0,0,0,0,0,0,0,0,0,0,0,0,0,0,0,0,0,0,0,0,0,0,0,0,0,3,171,0,35,0,0,0,0,0,0,0,0,0,0,0,0,0,0,0,0,0,0,0,0,0,0,0,0,0,0,0,0,5,0,1,171,0,35,0,0,0,0,0,0,0,0,0,0,0,0,0,0,0,0,0,0,0,0,0,0,0,0,0,0,0,0,5]
def y9 : List AV := bs [2,18,0,21,0,0,0,0,0,0,0,0,0,0,0,0,0,0,0,0,0,0,0,0,0,0,0,0,0,0,0,0,3,160,0,14,0,0,0,0,0,0,0,0,0,0,0,0,0,0,0,0,0,0,0,0,0,0,0,0,0,0,0,0,2]
def y10 : List AV := bs [2,0,0,0,65,42,222,47,86,2,18,0,21,0,0,0,0,0,0,0,0,0,0,0,0,0,0,0,0,0,0,0,0,0,0,0,0,0,0,0,0,3,160,0,14,0,0,0,0,0,0,0,0,0,0,0,0,0,0,0,0,0,0,0,0,0,0,0,0,0,0,0,0,2]
def y11 : List AV := bs [171,0,0,0,0,0,0,0,0,0,0,0,0,0,0,0,0,0,0,0,0,0,0,0,0,0,0,0,0,0,0,0,128,128,128,128,128,32]
def y12 : List AV := bs [171,0,7,0,0,0,0,0,0,0,0,0,0,0,0,0,0,0,0,0,0,0,0,0,0,0,0,0,0,0,0,1,129,128,128,128,128,32]
def y13 : List AV := bs [171,0,35,0,0,0,0,0,0,0,0,0,0,0,0,0,0,0,0,0,0,0,0,0,0,0,0,0,0,0,0,5]
def y14 : List AV := bs [1,0,0,0,38,224,58,31,230,171,0,0,0,0,0,0,0,0,0,0,0,0,0,0,0,0,0,0,0,0,0,0,0,0,0,0,0,0,0,0,0,128,128,128,128,128,32]
def y15 : List AV := bs [254,0,28,0,0,0,0,0,0,0,0,0,0,0,0,0,0,0,0,0,0,0,0,0,0,0,0,0,0,0,0,4]
def y16 : List AV := bs [1,0,0,0,38,224,58,31,230,171,0,0,0,0,0,0,0,0,0,0,0,0,0,0,0,0,0,0,0,0,0,0,0,0,0,0,0,0,0,0,0,128,128,128,128,128,32,1,0,0,0,38,209,161,228,158,171,0,7,0,0,0,0,0,0,0,0,0,0,0,0,0,0,0,0,0,0,0,0,0,0,0,0,0,0,0,0,1,129,128,128,128,128,32,2,0,0,0,16,50,15,228,156,1,0,0,0,0,0,0,2,0,0,0,0,0,0,0,0,2,0,0,0,16,155,89,233,121,3,0,0,0,0,0,0,0,0,0,0,0,0,0,0,0,2,0,0,0,16,102,160,17,12,4,0,0,0,0,0,0,0,0,0,0,0,0,0,0,0,2,0,0,0,16,200,200,128,157,5,0,0,0,0,0,0,0,0,0,0,0,0,0,0,0,2,0,0,0,16,61,209,168,43,0,0,0,0,0,0,0,0,0,0,0,6,0,0,0,0]
def y17 : List AV := bs [1,0,0,0,38,209,161,228,158,171,0,7,0,0,0,0,0,0,0,0,0,0,0,0,0,0,0,0,0,0,0,0,0,0,0,0,0,0,0,0,1,129,128,128,128,128,32]
def y18 : List AV := bs [1,0,0,0,38,224,58,31,230,171,0,0,0,0,0,0,0,0,0,0,0,0,0,0,0,0,0,0,0,0,0,0,0,0,0,0,0,0,0,0,0,128,128,128,128,128,32,1,0,0,0,38,209,161,228,158,171,0,7,0,0,0,0,0,0,0,0,0,0,0,0,0,0,0,0,0,0,0,0,0,0,0,0,0,0,0,0,1,129,128,128,128,128,32,2,0,0,0,16,50,15,228,156,1,0,0,0,0,0,0,2,0,0,0,0,0,0,0,0,2,0,0,0,16,155,89,233,121,3,0,0,0,0,0,0,0,0,0,0,0,0,0,0,0,2,0,0,0,16,102,160,17,12,4,0,0,0,0,0,0,0,0,0,0,0,0,0,0,0,2,0,0,0,16,200,200,128,157,5,0,0,0,0,0,0,0,0,0,0,0,0,0,0,0]
def y19 : List AV := bs [1,0,0,0,38,224,58,31,230,171,0,0,0,0,0,0,0,0,0,0,0,0,0,0,0,0,0,0,0,0,0,0,0,0,0,0,0,0,0,0,0,128,128,128,128,128,32,1,0,0,0,38,209,161,228,158,171,0,7,0,0,0,0,0,0,0,0,0,0,0,0,0,0,0,0,0,0,0,0,0,0,0,0,0,0,0,0,1,129,128,128,128,128,32,2,0,0,0,16,50,15,228,156,1,0,0,0,0,0,0,2,0,0,0,0,0,0,0,0,2,0,0,0,16,155,89,233,121,3,0,0,0,0,0,0,0,0,0,0,0,0,0,0,0,2,0,0,0,16,102,160,17,12,4,0,0,0,0,0,0,0,0,0,0,0,0,0,0,0]
def y20 : List AV := bs [1,0,0,0,38,224,58,31,230,171,0,0,0,0,0,0,0,0,0,0,0,0,0,0,0,0,0,0,0,0,0,0,0,0,0,0,0,0,0,0,0,128,128,128,128,128,32,1,0,0,0,38,209,161,228,158,171,0,7,0,0,0,0,0,0,0,0,0,0,0,0,0,0,0,0,0,0,0,0,0,0,0,0,0,0,0,0,1,129,128,128,128,128,32,2,0,0,0,16,50,15,228,156,1,0,0,0,0,0,0,2,0,0,0,0,0,0,0,0,2,0,0,0,16,155,89,233,121,3,0,0,0,0,0,0,0,0,0,0,0,0,0,0,0]
def y21 : List AV := bs [1,0,0,0,38,224,58,31,230,171,0,0,0,0,0,0,0,0,0,0,0,0,0,0,0,0,0,0,0,0,0,0,0,0,0,0,0,0,0,0,0,128,128,128,128,128,32,1,0,0,0,38,209,161,228,158,171,0,7,0,0,0,0,0,0,0,0,0,0,0,0,0,0,0,0,0,0,0,0,0,0,0,0,0,0,0,0,1,129,128,128,128,128,32,2,0,0,0,16,50,15,228,156,1,0,0,0,0,0,0,2,0,0,0,0,0,0,0,0]
def y22 : List AV := bs [1,2,171,0,0,0,0,0,0,0,0,0,0,0,0,0,0,0,0,0,0,0,0,0,0,0,0,0,0,0,0,0,0,0,0,171,0,7,0,0,0,0,0,0,0,0,0,0,0,0,0,0,0,0,0,0,0,0,0,0,0,0,0,0,0,0,1,1,171,0,0,0,0,0,0,0,0,0,0,0,0,0,0,0,0,0,0,0,0,0,0,0,0,0,0,0,0,0,0,0,1,171,0,7,0,0,0,0,0,0,0,0,0,0,0,0,0,0,0,0,0,0,0,0,0,0,0,0,0,0,0,0,1]
def y23 : List AV := bs [1,0,0,0,0,0,0,2,0,0,0,0,0,0,0,0]
def y24 : List AV := bs [3,0,0,0,0,0,0,0,0,0,0,0,0,0,0,0]
def y25 : List AV := bs [1,0,0,0,38,224,58,31,230,171,0,0,0,0,0,0,0,0,0,0,0,0,0,0,0,0,0,0,0,0,0,0,0,0,0,0,0,0,0,0,0,128,128,128,128,128,32,1,0,0,0,38,209,161,228,158,171,0,7,0,0,0,0,0,0,0,0,0,0,0,0,0,0,0,0,0,0,0,0,0,0,0,0,0,0,0,0,1,129,128,128,128,128,32]
def y26 : List AV := bs [4,0,0,0,0,0,0,0,0,0,0,0,0,0,0,0]
def y27 : List AV := bs [2,0,0,0,16,50,15,228,156,1,0,0,0,0,0,0,2,0,0,0,0,0,0,0,0]
def y28 : List AV := bs [5,0,0,0,0,0,0,0,0,0,0,0,0,0,0,0]
def y29 : List AV := bs [2,0,0,0,16,155,89,233,121,3,0,0,0,0,0,0,0,0,0,0,0,0,0,0,0]
def y30 : List AV := bs [0,0,0,0,0,0,0,0,0,0,0,6,0,0,0,0]
def y31 : List AV := bs [0,0,0,0,0,0,0,0,0,0,7,0,0,0,0,0]
def y32 : List AV := bs [2,0,0,0,16,102,160,17,12,4,0,0,0,0,0,0,0,0,0,0,0,0,0,0,0]
def y33 : List AV := bs [1,0,0,0,7,151,235,192,28,1,8,2,218,2,244,1]
def y34 : List AV := bs [2,0,0,0,16,200,200,128,157,5,0,0,0,0,0,0,0,0,0,0,0,0,0,0,0]
def y35 : List AV := bs [0,0,0,0,0,0,0,0,0,0,0,0,0,0,0,0,0,0,0,0,0,0,0,0,0,0,0,0,0,0,0,0]
def y36 : List AV := bs [2,0,0,0,16,61,209,168,43,0,0,0,0,0,0,0,0,0,0,0,6,0,0,0,0]
def y37 : List AV := bs [2,0,0,0,16,175,148,109,51,0,0,0,0,0,0,0,0,0,0,7,0,0,0,0,0]
def z0 : Value := va [0,0,0,0,0,0,0,0,0,0,0,0,0,0,0,0,0,0,0,0,0,0,0,0,0,0,0,0,0,0,0,0]
def z1 : Value := va [171,0,0,0,0,0,0,0,0,0,0,0,0,0,0,0,0,0,0,0,0,0,0,0,0,0,0,0,0,0,0,0]
def z2 : Value := va [171,0,7,0,0,0,0,0,0,0,0,0,0,0,0,0,0,0,0,0,0,0,0,0,0,0,0,0,0,0,0,1]
def z3 : Value := va [160,0,14,0,0,0,0,0,0,0,0,0,0,0,0,0,0,0,0,0,0,0,0,0,0,0,0,0,0,0,0,2]
def z4 : Value := va [18,0,21,0,0,0,0,0,0,0,0,0,0,0,0,0,0,0,0,0,0,0,0,0,0,0,0,0,0,0,0,3]
def z5 : Value := va [254,0,28,0,0,0,0,0,0,0,0,0,0,0,0,0,0,0,0,0,0,0,0,0,0,0,0,0,0,0,0,4]
def z6 : Value := va [171,0,35,0,0,0,0,0,0,0,0,0,0,0,0,0,0,0,0,0,0,0,0,0,0,0,0,0,0,0,0,5]
theorem text_ok {C : Cx} (hCP : C.P = Tryz.prog) : CtOk C 320 (.det (textX 32 fun l => hexP (fun k => l.getD k 0) 32)) := by
  refine textX_ok (by rw [hCP]; exact enters_of Tryz.func320 (by kernel_rfl) rfl) fun cells l w h1 h2 h3 => ?_
  rw [hCP]
  have hsz : cells.size = 32 := by rw [← Array.length_toList, h1, List.length_map, h2]
  refine hexText cells (fun k => l.getD k 0) hsz (fun k hk => ?_) (fun k => ?_) w
  · have hkl : k < l.length := by omega
    rw [← Array.getElem?_toList, h1, List.getElem?_map, List.getElem?_eq_getElem hkl]
    simp [List.getD, List.getElem?_eq_getElem hkl]
  · by_cases hk : k < l.length
    · simp only [List.getD, List.getElem?_eq_getElem hk, Option.getD_some]; exact h3 _ (List.getElem_mem hk)
    · simp [List.getD, List.getElem?_eq_none (Nat.le_of_not_lt hk)]
theorem crc_ok {C : Cx} (hCP : C.P = Tryz.prog) : CtOk C 288 (.det (sumX fun l => .int .u32 (4294967295 ^^^ crcL l 4294967295 : Nat))) := by
  refine sumX_ok (by rw [hCP]; exact enters_of Tryz.func288 (by kernel_rfl) rfl) (fun a c w => ?_) fun a l c w h1 h2 h3 => ?_
  · rw [hCP]; exact crcSum0 a c w
  · rw [hCP]; exact crcSum l h1 h2 a c w h3
theorem hash_ok {C : Cx} (hCP : C.P = Tryz.prog) : CtOk C 100 (.det hashX) := hashX_ok (te := 44) (by rw [hCP]; exact enters_of Tryz.func100 (by kernel_rfl) rfl) (by rw [hCP]; exact hashOk)
def extXh (f : FuncId) : Option (Go.AS.Id → Nat → List AV → Hp → Option Res) :=
  (bsel (Nat.beq f 320) (some (textX 32 fun l => hexP (fun k => l.getD k 0) 32))
  (bsel (Nat.beq f 288) (some (sumX fun l => .int .u32 (4294967295 ^^^ crcL l 4294967295 : Nat))) (extF f)))
def Xh : PX := { P := Tryz.prog, gl := fun g => bsel (Nat.beq g 0) (some (.ref (.lit (.iface 245 (.agg #[.pointer (some ⟨7, 24, none⟩)]))))) none, ext := extXh, own := fun _ _ => true, m := 100000 }
theorem sXh : Xh.Sound := by
  refine ⟨sound.mix, sound.gl, fun f g h => ?_⟩
  have h : extXh f = some g := h
  unfold extXh at h
  cases hb320 : Nat.beq f 320
  · rw [hb320, bsel_false] at h
    cases hb288 : Nat.beq f 288
    · rw [hb288, bsel_false] at h
      exact sound.ext f g h
    · rw [hb288, bsel_true] at h; cases h
      obtain rfl := Nat.eq_of_beq_eq_true hb288
      exact crc_ok (C := cx Xh 288 fun _ _ _ _ _ => none) rfl
  · rw [hb320, bsel_true] at h; cases h
    obtain rfl := Nat.eq_of_beq_eq_true hb320
    exact text_ok (C := cx Xh 320 fun _ _ _ _ _ => none) rfl
def codeOf (fn : Func) : Code := fn.body.getD .skip
def nd152 : NdT := fun _ => none
theorem nd152_ok : ∀ g h, nd152 g = some h → NdOk (cx Xh 152 (S Xh 40)) g h := fun g h hg => by
  have hg : none = some h := hg
  cases hg
def bo152 := bodE 32 (bodyN Xh 152 (S Xh 40) nd152 Tryz.f152 (codeOf Tryz.f152))
theorem bod152 : BodOk Xh 152 bo152 := bodE_ok (bodyN_bod (sXh.walks 40 152) nd152_ok Tryz.func152 (by kernel_rfl) (by kernel_rfl)) 32
def extXl152 (f : FuncId) : Option (Go.AS.Id → Nat → List AV → Hp → Option Res) :=
  (bsel (Nat.beq f 152) (some (fun p _ xs σ => ndF bo152 p xs σ)) (extXh f))
def Xl152 : PX := { P := Tryz.prog, gl := fun g => bsel (Nat.beq g 0) (some (.ref (.lit (.iface 245 (.agg #[.pointer (some ⟨7, 24, none⟩)]))))) none, ext := extXl152, own := fun _ _ => true, m := 100000 }
theorem sXl152 : Xl152.Sound := by
  refine ⟨sound.mix, sound.gl, fun f g h => ?_⟩
  have h : extXl152 f = some g := h
  unfold extXl152 at h
  cases hb152 : Nat.beq f 152
  · rw [hb152, bsel_false] at h
    exact sXh.ext f g h
  · rw [hb152, bsel_true] at h; cases h
    obtain rfl := Nat.eq_of_beq_eq_true hb152
    exact ndF_bod (X := Xh) (C := cx Xl152 152 fun _ _ _ _ _ => none) rfl rfl sound.gl bod152
def nd262 : NdT := fun _ => none
theorem nd262_ok : ∀ g h, nd262 g = some h → NdOk (cx Xl152 262 (S Xl152 40)) g h := fun g h hg => by
  have hg : none = some h := hg
  cases hg
def bo262 := bodE 5 (bodyN Xl152 262 (S Xl152 40) nd262 Tryz.f262 (codeOf Tryz.f262))
theorem bod262 : BodOk Xl152 262 bo262 := bodE_ok (bodyN_bod (sXl152.walks 40 262) nd262_ok Tryz.func262 (by kernel_rfl) (by kernel_rfl)) 5
def extXl262 (f : FuncId) : Option (Go.AS.Id → Nat → List AV → Hp → Option Res) :=
  (bsel (Nat.beq f 262) (some (fun p _ xs σ => ndF bo262 p xs σ)) (extXl152 f))
def Xl262 : PX := { P := Tryz.prog, gl := fun g => bsel (Nat.beq g 0) (some (.ref (.lit (.iface 245 (.agg #[.pointer (some ⟨7, 24, none⟩)]))))) none, ext := extXl262, own := fun _ _ => true, m := 100000 }
theorem sXl262 : Xl262.Sound := by
  refine ⟨sound.mix, sound.gl, fun f g h => ?_⟩
  have h : extXl262 f = some g := h
  unfold extXl262 at h
  cases hb262 : Nat.beq f 262
  · rw [hb262, bsel_false] at h
    exact sXl152.ext f g h
  · rw [hb262, bsel_true] at h; cases h
    obtain rfl := Nat.eq_of_beq_eq_true hb262
    exact ndF_bod (X := Xl152) (C := cx Xl262 262 fun _ _ _ _ _ => none) rfl rfl sound.gl bod262
def bo232 := bodyR Xl262 232 (S Xl262 40) Tryz.f232 (codeOf Tryz.f232)
theorem bod232 : BodOk Xl262 232 bo232 := bodyR_bod (sXl262.walks 40 232) Tryz.func232 (by kernel_rfl) (by kernel_rfl)
def nd156 : NdT := fun g => (bsel (Nat.beq g 232) (some (ndG bo232)) none)
theorem nd156_ok : ∀ g h, nd156 g = some h → NdOk (cx Xl262 156 (S Xl262 40)) g h := fun g h hg => by
  have hg : (bsel (Nat.beq g 232) (some (ndG bo232)) none) = some h := hg
  cases hb232 : Nat.beq g 232
  · rw [hb232, bsel_false] at hg
    cases hg
  · rw [hb232, bsel_true] at hg; cases hg
    obtain rfl := Nat.eq_of_beq_eq_true hb232
    exact ndG_ok rfl rfl sound.gl bod232
def bo156 := bodyN Xl262 156 (S Xl262 40) nd156 Tryz.f156 (codeOf Tryz.f156)
theorem bod156 : BodOk Xl262 156 bo156 := bodyN_bod (sXl262.walks 40 156) nd156_ok Tryz.func156 (by kernel_rfl) (by kernel_rfl)
def nd100 : NdT := fun g => (bsel (Nat.beq g 232) (some (ndG bo232)) (bsel (Nat.beq g 156) (some (ndG bo156)) none))
theorem nd100_ok : ∀ g h, nd100 g = some h → NdOk (cx Xl262 100 (S Xl262 40)) g h := fun g h hg => by
  have hg : (bsel (Nat.beq g 232) (some (ndG bo232)) (bsel (Nat.beq g 156) (some (ndG bo156)) none)) = some h := hg
  cases hb232 : Nat.beq g 232
  · rw [hb232, bsel_false] at hg
    cases hb156 : Nat.beq g 156
    · rw [hb156, bsel_false] at hg
      cases hg
    · rw [hb156, bsel_true] at hg; cases hg
      obtain rfl := Nat.eq_of_beq_eq_true hb156
      exact ndG_ok rfl rfl sound.gl bod156
  · rw [hb232, bsel_true] at hg; cases hg
    obtain rfl := Nat.eq_of_beq_eq_true hb232
    exact ndG_ok rfl rfl sound.gl bod232
def bo100 := bodyN Xl262 100 (S Xl262 40) nd100 Tryz.f100 (codeOf Tryz.f100)
theorem bod100 : BodOk Xl262 100 bo100 := bodyN_bod (sXl262.walks 40 100) nd100_ok Tryz.func100 (by kernel_rfl) (by kernel_rfl)
def extXl100 (f : FuncId) : Option (Go.AS.Id → Nat → List AV → Hp → Option Res) :=
  (bsel (Nat.beq f 100) (some (orX hashX (fun p _ xs σ => ndF bo100 p xs σ))) (extXl262 f))
def Xl100 : PX := { P := Tryz.prog, gl := fun g => bsel (Nat.beq g 0) (some (.ref (.lit (.iface 245 (.agg #[.pointer (some ⟨7, 24, none⟩)]))))) none, ext := extXl100, own := fun _ _ => true, m := 100000 }
theorem sXl100 : Xl100.Sound := by
  refine ⟨sound.mix, sound.gl, fun f g h => ?_⟩
  have h : extXl100 f = some g := h
  unfold extXl100 at h
  cases hb100 : Nat.beq f 100
  · rw [hb100, bsel_false] at h
    exact sXl262.ext f g h
  · rw [hb100, bsel_true] at h; cases h
    obtain rfl := Nat.eq_of_beq_eq_true hb100
    exact orX_ok (hash_ok (C := cx Xl100 100 fun _ _ _ _ _ => none) rfl) (ndF_bod (X := Xl262) (C := cx Xl100 100 fun _ _ _ _ _ => none) rfl rfl sound.gl bod100)
def nd189 : NdT := fun g => (bsel (Nat.beq g 232) (some (ndG bo232)) (bsel (Nat.beq g 156) (some (ndG bo156)) none))
theorem nd189_ok : ∀ g h, nd189 g = some h → NdOk (cx Xl100 189 (S Xl100 40)) g h := fun g h hg => by
  have hg : (bsel (Nat.beq g 232) (some (ndG bo232)) (bsel (Nat.beq g 156) (some (ndG bo156)) none)) = some h := hg
  cases hb232 : Nat.beq g 232
  · rw [hb232, bsel_false] at hg
    cases hb156 : Nat.beq g 156
    · rw [hb156, bsel_false] at hg
      cases hg
    · rw [hb156, bsel_true] at hg; cases hg
      obtain rfl := Nat.eq_of_beq_eq_true hb156
      exact ndG_ok rfl rfl sound.gl bod156
  · rw [hb232, bsel_true] at hg; cases hg
    obtain rfl := Nat.eq_of_beq_eq_true hb232
    exact ndG_ok rfl rfl sound.gl bod232
def bo189 := bodyN Xl100 189 (S Xl100 40) nd189 Tryz.f189 (codeOf Tryz.f189)
theorem bod189 : BodOk Xl100 189 bo189 := bodyN_bod (sXl100.walks 40 189) nd189_ok Tryz.func189 (by kernel_rfl) (by kernel_rfl)
def extXl189 (f : FuncId) : Option (Go.AS.Id → Nat → List AV → Hp → Option Res) :=
  (bsel (Nat.beq f 189) (some (fun p _ xs σ => ndF bo189 p xs σ)) (extXl100 f))
def Xl189 : PX := { P := Tryz.prog, gl := fun g => bsel (Nat.beq g 0) (some (.ref (.lit (.iface 245 (.agg #[.pointer (some ⟨7, 24, none⟩)]))))) none, ext := extXl189, own := fun _ _ => true, m := 100000 }
theorem sXl189 : Xl189.Sound := by
  refine ⟨sound.mix, sound.gl, fun f g h => ?_⟩
  have h : extXl189 f = some g := h
  unfold extXl189 at h
  cases hb189 : Nat.beq f 189
  · rw [hb189, bsel_false] at h
    exact sXl100.ext f g h
  · rw [hb189, bsel_true] at h; cases h
    obtain rfl := Nat.eq_of_beq_eq_true hb189
    exact ndF_bod (X := Xl100) (C := cx Xl189 189 fun _ _ _ _ _ => none) rfl rfl sound.gl bod189
def nd282 : NdT := fun g => (bsel (Nat.beq g 232) (some (ndG bo232)) (bsel (Nat.beq g 156) (some (ndG bo156)) none))
theorem nd282_ok : ∀ g h, nd282 g = some h → NdOk (cx Xl189 282 (S Xl189 40)) g h := fun g h hg => by
  have hg : (bsel (Nat.beq g 232) (some (ndG bo232)) (bsel (Nat.beq g 156) (some (ndG bo156)) none)) = some h := hg
  cases hb232 : Nat.beq g 232
  · rw [hb232, bsel_false] at hg
    cases hb156 : Nat.beq g 156
    · rw [hb156, bsel_false] at hg
      cases hg
    · rw [hb156, bsel_true] at hg; cases hg
      obtain rfl := Nat.eq_of_beq_eq_true hb156
      exact ndG_ok rfl rfl sound.gl bod156
  · rw [hb232, bsel_true] at hg; cases hg
    obtain rfl := Nat.eq_of_beq_eq_true hb232
    exact ndG_ok rfl rfl sound.gl bod232
def bo282 := bodyN Xl189 282 (S Xl189 40) nd282 Tryz.f282 (codeOf Tryz.f282)
theorem bod282 : BodOk Xl189 282 bo282 := bodyN_bod (sXl189.walks 40 282) nd282_ok Tryz.func282 (by kernel_rfl) (by kernel_rfl)
def extXl282 (f : FuncId) : Option (Go.AS.Id → Nat → List AV → Hp → Option Res) :=
  (bsel (Nat.beq f 282) (some (fun p _ xs σ => ndF bo282 p xs σ)) (extXl189 f))
def Xl282 : PX := { P := Tryz.prog, gl := fun g => bsel (Nat.beq g 0) (some (.ref (.lit (.iface 245 (.agg #[.pointer (some ⟨7, 24, none⟩)]))))) none, ext := extXl282, own := fun _ _ => true, m := 100000 }
theorem sXl282 : Xl282.Sound := by
  refine ⟨sound.mix, sound.gl, fun f g h => ?_⟩
  have h : extXl282 f = some g := h
  unfold extXl282 at h
  cases hb282 : Nat.beq f 282
  · rw [hb282, bsel_false] at h
    exact sXl189.ext f g h
  · rw [hb282, bsel_true] at h; cases h
    obtain rfl := Nat.eq_of_beq_eq_true hb282
    exact ndF_bod (X := Xl189) (C := cx Xl282 282 fun _ _ _ _ _ => none) rfl rfl sound.gl bod282
def nd120 : NdT := fun g => (bsel (Nat.beq g 232) (some (ndG bo232)) (bsel (Nat.beq g 156) (some (ndG bo156)) none))
theorem nd120_ok : ∀ g h, nd120 g = some h → NdOk (cx Xl282 120 (S Xl282 40)) g h := fun g h hg => by
  have hg : (bsel (Nat.beq g 232) (some (ndG bo232)) (bsel (Nat.beq g 156) (some (ndG bo156)) none)) = some h := hg
  cases hb232 : Nat.beq g 232
  · rw [hb232, bsel_false] at hg
    cases hb156 : Nat.beq g 156
    · rw [hb156, bsel_false] at hg
      cases hg
    · rw [hb156, bsel_true] at hg; cases hg
      obtain rfl := Nat.eq_of_beq_eq_true hb156
      exact ndG_ok rfl rfl sound.gl bod156
  · rw [hb232, bsel_true] at hg; cases hg
    obtain rfl := Nat.eq_of_beq_eq_true hb232
    exact ndG_ok rfl rfl sound.gl bod232
def bo120 := bodyN Xl282 120 (S Xl282 40) nd120 Tryz.f120 (codeOf Tryz.f120)
theorem bod120 : BodOk Xl282 120 bo120 := bodyN_bod (sXl282.walks 40 120) nd120_ok Tryz.func120 (by kernel_rfl) (by kernel_rfl)
def extXl120 (f : FuncId) : Option (Go.AS.Id → Nat → List AV → Hp → Option Res) :=
  (bsel (Nat.beq f 120) (some (fun p _ xs σ => ndF bo120 p xs σ)) (extXl282 f))
def Xl120 : PX := { P := Tryz.prog, gl := fun g => bsel (Nat.beq g 0) (some (.ref (.lit (.iface 245 (.agg #[.pointer (some ⟨7, 24, none⟩)]))))) none, ext := extXl120, own := fun _ _ => true, m := 100000 }
theorem sXl120 : Xl120.Sound := by
  refine ⟨sound.mix, sound.gl, fun f g h => ?_⟩
  have h : extXl120 f = some g := h
  unfold extXl120 at h
  cases hb120 : Nat.beq f 120
  · rw [hb120, bsel_false] at h
    exact sXl282.ext f g h
  · rw [hb120, bsel_true] at h; cases h
    obtain rfl := Nat.eq_of_beq_eq_true hb120
    exact ndF_bod (X := Xl282) (C := cx Xl120 120 fun _ _ _ _ _ => none) rfl rfl sound.gl bod120
def nd121 : NdT := fun g => (bsel (Nat.beq g 232) (some (ndG bo232)) (bsel (Nat.beq g 156) (some (ndG bo156)) none))
theorem nd121_ok : ∀ g h, nd121 g = some h → NdOk (cx Xl120 121 (S Xl120 40)) g h := fun g h hg => by
  have hg : (bsel (Nat.beq g 232) (some (ndG bo232)) (bsel (Nat.beq g 156) (some (ndG bo156)) none)) = some h := hg
  cases hb232 : Nat.beq g 232
  · rw [hb232, bsel_false] at hg
    cases hb156 : Nat.beq g 156
    · rw [hb156, bsel_false] at hg
      cases hg
    · rw [hb156, bsel_true] at hg; cases hg
      obtain rfl := Nat.eq_of_beq_eq_true hb156
      exact ndG_ok rfl rfl sound.gl bod156
  · rw [hb232, bsel_true] at hg; cases hg
    obtain rfl := Nat.eq_of_beq_eq_true hb232
    exact ndG_ok rfl rfl sound.gl bod232
def bo121 := bodyN Xl120 121 (S Xl120 40) nd121 Tryz.f121 (codeOf Tryz.f121)
theorem bod121 : BodOk Xl120 121 bo121 := bodyN_bod (sXl120.walks 40 121) nd121_ok Tryz.func121 (by kernel_rfl) (by kernel_rfl)
def extXl121 (f : FuncId) : Option (Go.AS.Id → Nat → List AV → Hp → Option Res) :=
  (bsel (Nat.beq f 121) (some (fun p _ xs σ => ndF bo121 p xs σ)) (extXl120 f))
def Xl121 : PX := { P := Tryz.prog, gl := fun g => bsel (Nat.beq g 0) (some (.ref (.lit (.iface 245 (.agg #[.pointer (some ⟨7, 24, none⟩)]))))) none, ext := extXl121, own := fun _ _ => true, m := 100000 }
theorem sXl121 : Xl121.Sound := by
  refine ⟨sound.mix, sound.gl, fun f g h => ?_⟩
  have h : extXl121 f = some g := h
  unfold extXl121 at h
  cases hb121 : Nat.beq f 121
  · rw [hb121, bsel_false] at h
    exact sXl120.ext f g h
  · rw [hb121, bsel_true] at h; cases h
    obtain rfl := Nat.eq_of_beq_eq_true hb121
    exact ndF_bod (X := Xl120) (C := cx Xl121 121 fun _ _ _ _ _ => none) rfl rfl sound.gl bod121
end
end ServiceKnown
end Go.Proofs.YtfiiemjbbmdlnaaGreatDoor
