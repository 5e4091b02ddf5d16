/- The law ScriptKnown: the program as the walk knows it; its functions without a body. No condition. -/
import Derived.Test.YtidfefgnggombaaGreatDoorProg
import Derived.Test.YtidfefgnggombaaGreatDoorASlaw
import Derived.Test.YtidfefgnggombaaGreatDoorASlend
import Derived.Test.YtidfefgnggombaaGreatDoorASms
import Derived.Test.YtidfefgnggombaaGreatDoorASext2
import Derived.Test.YtidfefgnggombaaGreatDoorASst
import Derived.Test.YtidfefgnggombaaGreatDoorHX
import Derived.Test.YtidfefgnggombaaGreatDoorASsu
import Derived.Test.YtidfefgnggombaaGreatDoorHX
import Derived.Test.YtidfefgnggombaaGreatDoorASbl
import Derived.Test.YtidfefgnggombaaGreatDoorASsp
import Derived.Test.YtidfefgnggombaaGreatDoorBL
import Derived.Test.YtidfefgnggombaaGreatDoorASnw
namespace Go.Proofs.YtidfefgnggombaaGreatDoor
open Go.AS
namespace ScriptKnown
noncomputable section

def extF (f : FuncId) : Option (Go.AS.Id → Nat → List AV → Hp → Option Res) :=
  (bsel (Nat.beq f 31) (some (valueOfX Tryz.prog))
  (bsel (Nat.beq f 32) (some (typeX Tryz.prog))
  (bsel (Nat.beq f 33) (some (isNilX Tryz.prog))
  (bsel (Nat.beq f 60) (some (typeOfX Tryz.prog))
  (bsel (Nat.beq f 61) (some (elemX Tryz.prog))
  (bsel (Nat.beq f 62) (some (setX Tryz.prog))
  (bsel (Nat.beq f 67) (some (pureX Tryz.prog (Extern.BytealgCount.count)))
  (bsel (Nat.beq f 153) (some (pureX Tryz.prog (Extern.BytealgIndexByte.indexByte)))
  (bsel (Nat.beq f 198) (some (cloneX))
  (bsel (Nat.beq f 386) (some (compareX))
  (bsel (Nat.beq f 494) (some (pureX Tryz.prog (Extern.ReflectliteType.abiMethod fun t => do pure (.int .u8 (← Extern.Rtype.kind t)))))
  (bsel (Nat.beq f 506) (some (pureX Tryz.prog (Extern.ReflectliteType.relation "AssignableTo" Extern.ReflectliteType.assignableTo)))
  (bsel (Nat.beq f 507) (some (pureX Tryz.prog (Extern.ReflectliteType.method fun t => do Extern.Rtype.noPackHeld "Comparable" t; pure (.bool (← typeInfo t).comparable))))
  (bsel (Nat.beq f 508) (some (pureX Tryz.prog (Extern.ReflectliteType.method Extern.ReflectliteType.elem)))
  (bsel (Nat.beq f 509) (some (pureX Tryz.prog (Extern.ReflectliteType.relation "Implements" Extern.ReflectliteType.implements_))) (none))))))))))))))))
def X : PX := { P := Tryz.prog, gl := fun g => bsel (Nat.beq g 0) (some (.ref (.lit (.iface 143 (.agg #[.pointer (some ⟨9, 27, none⟩)]))))) none, ext := extF, own := fun _ _ => true, m := 100000 }
theorem isExt31 : IsExt Tryz.prog 31 Tryz.f31 (fun args => Extern.ReflectliteValue.unpack (args.getD 0 (.tuple #[]))) := ⟨Tryz.func31, by kernel_rfl, by kernel_rfl, by kernel_rfl, by kernel_rfl⟩
theorem isExt32 : IsExt Tryz.prog 32 Tryz.f32 (Extern.ReflectliteValue.methodAny (Extern.ReflectliteValue.valueError "reflectlite.Value.Type" 0) fun t _ _ _ => Extern.ReflectliteType.toType t) := ⟨Tryz.func32, by kernel_rfl, by kernel_rfl, by kernel_rfl, by kernel_rfl⟩
theorem isExt33 : IsExt Tryz.prog 33 Tryz.f33 (Extern.ReflectliteValue.method (Extern.ReflectliteValue.valueError "reflectlite.Value.IsNil" 0) Extern.ReflectliteValue.isNil) := ⟨Tryz.func33, by kernel_rfl, by kernel_rfl, by kernel_rfl, by kernel_rfl⟩
theorem isExt60 : IsExt Tryz.prog 60 Tryz.f60 (Extern.ReflectliteType.typeOf) := ⟨Tryz.func60, by kernel_rfl, by kernel_rfl, by kernel_rfl, by kernel_rfl⟩
theorem isExt61 : IsExt Tryz.prog 61 Tryz.f61 (Extern.ReflectliteValue.method (Extern.ReflectliteValue.valueError "reflectlite.Value.Elem" 0) Extern.ReflectliteValue.elem) := ⟨Tryz.func61, by kernel_rfl, by kernel_rfl, by kernel_rfl, by kernel_rfl⟩
theorem isExt62 : IsExt Tryz.prog 62 Tryz.f62 (Extern.ReflectliteValue.set) := ⟨Tryz.func62, by kernel_rfl, by kernel_rfl, by kernel_rfl, by kernel_rfl⟩
theorem isExt67 : IsExt Tryz.prog 67 Tryz.f67 (Extern.BytealgCount.count) := ⟨Tryz.func67, by kernel_rfl, by kernel_rfl, by kernel_rfl, by kernel_rfl⟩
theorem isExt153 : IsExt Tryz.prog 153 Tryz.f153 (Extern.BytealgIndexByte.indexByte) := ⟨Tryz.func153, by kernel_rfl, by kernel_rfl, by kernel_rfl, by kernel_rfl⟩
theorem isExt198 : IsExt Tryz.prog 198 Tryz.f198 (Extern.MapsClone.clone) := ⟨Tryz.func198, by kernel_rfl, by kernel_rfl, by kernel_rfl, by kernel_rfl⟩
theorem isExt386 : IsExt Tryz.prog 386 Tryz.f386 (Extern.BytealgCompare.compare) := ⟨Tryz.func386, by kernel_rfl, by kernel_rfl, by kernel_rfl, by kernel_rfl⟩
theorem isExt494 : IsExt Tryz.prog 494 Tryz.f494 (Extern.ReflectliteType.abiMethod fun t => do pure (.int .u8 (← Extern.Rtype.kind t))) := ⟨Tryz.func494, by kernel_rfl, by kernel_rfl, by kernel_rfl, by kernel_rfl⟩
theorem isExt506 : IsExt Tryz.prog 506 Tryz.f506 (Extern.ReflectliteType.relation "AssignableTo" Extern.ReflectliteType.assignableTo) := ⟨Tryz.func506, by kernel_rfl, by kernel_rfl, by kernel_rfl, by kernel_rfl⟩
theorem isExt507 : IsExt Tryz.prog 507 Tryz.f507 (Extern.ReflectliteType.method fun t => do Extern.Rtype.noPackHeld "Comparable" t; pure (.bool (← typeInfo t).comparable)) := ⟨Tryz.func507, by kernel_rfl, by kernel_rfl, by kernel_rfl, by kernel_rfl⟩
theorem isExt508 : IsExt Tryz.prog 508 Tryz.f508 (Extern.ReflectliteType.method Extern.ReflectliteType.elem) := ⟨Tryz.func508, by kernel_rfl, by kernel_rfl, by kernel_rfl, by kernel_rfl⟩
theorem isExt509 : IsExt Tryz.prog 509 Tryz.f509 (Extern.ReflectliteType.relation "Implements" Extern.ReflectliteType.implements_) := ⟨Tryz.func509, by kernel_rfl, by kernel_rfl, by kernel_rfl, by kernel_rfl⟩
theorem sound : X.Sound := by
  refine ⟨by kernel_rfl, fun g x h => (by
    have h : bsel (Nat.beq g 0) (some (.ref (.lit (.iface 143 (.agg #[.pointer (some ⟨9, 27, none⟩)]))))) none = some x := h
    cases hb : Nat.beq g 0
    · rw [hb, bsel_false] at h; cases h
    · rw [hb, bsel_true] at h; cases h; intro M; rfl), fun f g h => ?_⟩
  have h : extF f = some g := h
  unfold extF at h
  cases hb31 : Nat.beq f 31
  · rw [hb31, bsel_false] at h
    cases hb32 : Nat.beq f 32
    · rw [hb32, bsel_false] at h
      cases hb33 : Nat.beq f 33
      · rw [hb33, bsel_false] at h
        cases hb60 : Nat.beq f 60
        · rw [hb60, bsel_false] at h
          cases hb61 : Nat.beq f 61
          · rw [hb61, bsel_false] at h
            cases hb62 : Nat.beq f 62
            · rw [hb62, bsel_false] at h
              cases hb67 : Nat.beq f 67
              · rw [hb67, bsel_false] at h
                cases hb153 : Nat.beq f 153
                · rw [hb153, bsel_false] at h
                  cases hb198 : Nat.beq f 198
                  · rw [hb198, bsel_false] at h
                    cases hb386 : Nat.beq f 386
                    · rw [hb386, bsel_false] at h
                      cases hb494 : Nat.beq f 494
                      · rw [hb494, bsel_false] at h
                        cases hb506 : Nat.beq f 506
                        · rw [hb506, bsel_false] at h
                          cases hb507 : Nat.beq f 507
                          · rw [hb507, bsel_false] at h
                            cases hb508 : Nat.beq f 508
                            · rw [hb508, bsel_false] at h
                              cases hb509 : Nat.beq f 509
                              · rw [hb509, bsel_false] at h
                                cases h
                              · rw [hb509, bsel_true] at h; cases h
                                obtain rfl := Nat.eq_of_beq_eq_true hb509
                                exact pureX_ok (C := cx X 509 fun _ _ _ _ _ => none) isExt509
                            · rw [hb508, bsel_true] at h; cases h
                              obtain rfl := Nat.eq_of_beq_eq_true hb508
                              exact pureX_ok (C := cx X 508 fun _ _ _ _ _ => none) isExt508
                          · rw [hb507, bsel_true] at h; cases h
                            obtain rfl := Nat.eq_of_beq_eq_true hb507
                            exact pureX_ok (C := cx X 507 fun _ _ _ _ _ => none) isExt507
                        · rw [hb506, bsel_true] at h; cases h
                          obtain rfl := Nat.eq_of_beq_eq_true hb506
                          exact pureX_ok (C := cx X 506 fun _ _ _ _ _ => none) isExt506
                      · rw [hb494, bsel_true] at h; cases h
                        obtain rfl := Nat.eq_of_beq_eq_true hb494
                        exact pureX_ok (C := cx X 494 fun _ _ _ _ _ => none) isExt494
                    · rw [hb386, bsel_true] at h; cases h
                      obtain rfl := Nat.eq_of_beq_eq_true hb386
                      exact compareX_ok (C := cx X 386 fun _ _ _ _ _ => none) isExt386
                  · rw [hb198, bsel_true] at h; cases h
                    obtain rfl := Nat.eq_of_beq_eq_true hb198
                    exact cloneX_ok (C := cx X 198 fun _ _ _ _ _ => none) isExt198
                · rw [hb153, bsel_true] at h; cases h
                  obtain rfl := Nat.eq_of_beq_eq_true hb153
                  exact pureX_ok (C := cx X 153 fun _ _ _ _ _ => none) isExt153
              · rw [hb67, bsel_true] at h; cases h
                obtain rfl := Nat.eq_of_beq_eq_true hb67
                exact pureX_ok (C := cx X 67 fun _ _ _ _ _ => none) isExt67
            · rw [hb62, bsel_true] at h; cases h
              obtain rfl := Nat.eq_of_beq_eq_true hb62
              exact set_ok (C := cx X 62 fun _ _ _ _ _ => none) isExt62
          · rw [hb61, bsel_true] at h; cases h
            obtain rfl := Nat.eq_of_beq_eq_true hb61
            exact elem_ok (C := cx X 61 fun _ _ _ _ _ => none) isExt61
        · rw [hb60, bsel_true] at h; cases h
          obtain rfl := Nat.eq_of_beq_eq_true hb60
          exact typeOf_ok (C := cx X 60 fun _ _ _ _ _ => none) isExt60
      · rw [hb33, bsel_true] at h; cases h
        obtain rfl := Nat.eq_of_beq_eq_true hb33
        exact isNil_ok (C := cx X 33 fun _ _ _ _ _ => none) isExt33
    · rw [hb32, bsel_true] at h; cases h
      obtain rfl := Nat.eq_of_beq_eq_true hb32
      exact type_ok (C := cx X 32 fun _ _ _ _ _ => none) isExt32
  · rw [hb31, bsel_true] at h; cases h
    obtain rfl := Nat.eq_of_beq_eq_true hb31
    exact valueOf_ok (C := cx X 31 fun _ _ _ _ _ => none) isExt31
def i (n : Int) : AV := .lit (.int .i64 n)
def bs (l : List Nat) : List AV := l.map fun n => .lit (.int .u8 (Int.ofNat n))
def st (l : List UInt8) : AV := .lit (.string ⟨l.toArray⟩)
def va (l : List Nat) : Value := .agg (l.map fun n => Value.int .u8 (Int.ofNat n)).toArray
def nS : AV := .lit (.slice none 0 0)
def nI : AV := .lit .nilIface
def nP : AV := .lit (.pointer none)
def y0 : List AV := bs [171,0,0,0,0,0,0,0,0,0,0,0,0,0,0,0,0,0,0,0,0,0,0,0,0,0,0,0,0,0,0,0]
def y1 : List AV := bs [171,0,7,0,0,0,0,0,0,0,0,0,0,0,0,0,0,0,0,0,0,0,0,0,0,0,0,0,0,0,0,1]
def y2 : List AV := bs [1,2,171,0,0,0,0,0,0,0,0,0,0,0,0,0,0,0,0,0,0,0,0,0,0,0,0,0,0,0,0,0,0,0,0,171,0,7,0,0,0,0,0,0,0,0,0,0,0,0,0,0,0,0,0,0,0,0,0,0,0,0,0,0,0,0,1,1,171,0,0,0,0,0,0,0,0,0,0,0,0,0,0,0,0,0,0,0,0,0,0,0,0,0,0,0,0,0,0,0,1,171,0,7,0,0,0,0,0,0,0,0,0,0,0,0,0,0,0,0,0,0,0,0,0,0,0,0,0,0,0,0,1]
def y3 : List AV := bs [2,1,0,0,1,3,0,171,0,7,0,0,0,0,0,0,0,0,0,0,0,0,0,0,0,0,0,0,0,0,0,0,0,0,0,0,0,0,1]
def z0 : Value := va [0,0,0,0,0,0,0,0,0,0,0,0,0,0,0,0,0,0,0,0,0,0,0,0,0,0,0,0,0,0,0,0]
def z1 : Value := va [171,0,7,0,0,0,0,0,0,0,0,0,0,0,0,0,0,0,0,0,0,0,0,0,0,0,0,0,0,0,0,1]
def z2 : Value := va [171,0,0,0,0,0,0,0,0,0,0,0,0,0,0,0,0,0,0,0,0,0,0,0,0,0,0,0,0,0,0,0]
theorem text_ok {C : Cx} (hCP : C.P = Tryz.prog) : CtOk C 20 (.det (textX 32 fun l => hexP (fun k => l.getD k 0) 32)) := by
  refine textX_ok (by rw [hCP]; exact enters_of Tryz.func20 (by kernel_rfl) rfl) fun cells l w h1 h2 h3 => ?_
  rw [hCP]
  have hsz : cells.size = 32 := by rw [← Array.length_toList, h1, List.length_map, h2]
  refine hexText cells (fun k => l.getD k 0) hsz (fun k hk => ?_) (fun k => ?_) w
  · have hkl : k < l.length := by omega
    rw [← Array.getElem?_toList, h1, List.getElem?_map, List.getElem?_eq_getElem hkl]
    simp [List.getD, List.getElem?_eq_getElem hkl]
  · by_cases hk : k < l.length
    · simp only [List.getD, List.getElem?_eq_getElem hk, Option.getD_some]; exact h3 _ (List.getElem_mem hk)
    · simp [List.getD, List.getElem?_eq_none (Nat.le_of_not_lt hk)]
theorem crc_ok {C : Cx} (hCP : C.P = Tryz.prog) : CtOk C 237 (.det (sumX fun l => .int .u32 (4294967295 ^^^ crcL l 4294967295 : Nat))) := by
  refine sumX_ok (by rw [hCP]; exact enters_of Tryz.func237 (by kernel_rfl) rfl) (fun a c w => ?_) fun a l c w h1 h2 h3 => ?_
  · rw [hCP]; exact crcSum0 a c w
  · rw [hCP]; exact crcSum l h1 h2 a c w h3
theorem ws_ok {C : Cx} (hCP : C.P = Tryz.prog) : CtOk C 15 (.det (wsX 60 5)) := wsX_ok (by rw [hCP]; exact enters_of Tryz.func15 (by kernel_rfl) rfl) (by rw [hCP]; exact wsOk)
theorem st_ok {C : Cx} (hCP : C.P = Tryz.prog) : CtOk C 17 (.det (stX 60 5)) := stX_ok (by rw [hCP]; exact enters_of Tryz.func17 (by kernel_rfl) rfl) (by rw [hCP]; exact stOk)
theorem join_ok {C : Cx} (hCP : C.P = Tryz.prog) : CtOk C 21 (.det joinX) := joinX_ok (by rw [hCP]; exact enters_of Tryz.func21 (by kernel_rfl) rfl) (fun a c sep w => by rw [hCP]; exact Tryz.strings_Join_none a c sep w) (fun bk o c xs sep w h1 h2 h3 h4 h5 => by rw [hCP]; exact Tryz.strings_Join bk o c xs sep w h1 h2 h3 h4 h5)
theorem split_ok {C : Cx} (hCP : C.P = Tryz.prog) : CtOk C 11 (.det splitX) := splitX_ok (te := 9) (by rw [hCP]; exact enters_of Tryz.func11 (by kernel_rfl) rfl) (fun s c w hs => by rw [hCP]; exact splitOne s c w hs)
def extXh (f : FuncId) : Option (Go.AS.Id → Nat → List AV → Hp → Option Res) :=
  (bsel (Nat.beq f 20) (some (textX 32 fun l => hexP (fun k => l.getD k 0) 32))
  (bsel (Nat.beq f 237) (some (sumX fun l => .int .u32 (4294967295 ^^^ crcL l 4294967295 : Nat)))
  (bsel (Nat.beq f 15) (some (wsX 60 5))
  (bsel (Nat.beq f 17) (some (stX 60 5))
  (bsel (Nat.beq f 21) (some (joinX))
  (bsel (Nat.beq f 11) (some (splitX)) (extF f)))))))
def Xh : PX := { P := Tryz.prog, gl := fun g => bsel (Nat.beq g 0) (some (.ref (.lit (.iface 143 (.agg #[.pointer (some ⟨9, 27, none⟩)]))))) none, ext := extXh, own := fun _ _ => true, m := 100000 }
theorem sXh : Xh.Sound := by
  refine ⟨sound.mix, sound.gl, fun f g h => ?_⟩
  have h : extXh f = some g := h
  unfold extXh at h
  cases hb20 : Nat.beq f 20
  · rw [hb20, bsel_false] at h
    cases hb237 : Nat.beq f 237
    · rw [hb237, bsel_false] at h
      cases hb15 : Nat.beq f 15
      · rw [hb15, bsel_false] at h
        cases hb17 : Nat.beq f 17
        · rw [hb17, bsel_false] at h
          cases hb21 : Nat.beq f 21
          · rw [hb21, bsel_false] at h
            cases hb11 : Nat.beq f 11
            · rw [hb11, bsel_false] at h
              exact sound.ext f g h
            · rw [hb11, bsel_true] at h; cases h
              obtain rfl := Nat.eq_of_beq_eq_true hb11
              exact split_ok (C := cx Xh 11 fun _ _ _ _ _ => none) rfl
          · rw [hb21, bsel_true] at h; cases h
            obtain rfl := Nat.eq_of_beq_eq_true hb21
            exact join_ok (C := cx Xh 21 fun _ _ _ _ _ => none) rfl
        · rw [hb17, bsel_true] at h; cases h
          obtain rfl := Nat.eq_of_beq_eq_true hb17
          exact st_ok (C := cx Xh 17 fun _ _ _ _ _ => none) rfl
      · rw [hb15, bsel_true] at h; cases h
        obtain rfl := Nat.eq_of_beq_eq_true hb15
        exact ws_ok (C := cx Xh 15 fun _ _ _ _ _ => none) rfl
    · rw [hb237, bsel_true] at h; cases h
      obtain rfl := Nat.eq_of_beq_eq_true hb237
      exact crc_ok (C := cx Xh 237 fun _ _ _ _ _ => none) rfl
  · rw [hb20, bsel_true] at h; cases h
    obtain rfl := Nat.eq_of_beq_eq_true hb20
    exact text_ok (C := cx Xh 20 fun _ _ _ _ _ => none) rfl
def codeOf (fn : Func) : Code := fn.body.getD .skip
def nd227 : NdT := fun _ => none
theorem nd227_ok : ∀ g h, nd227 g = some h → NdOk (cx Xh 227 (S Xh 40)) g h := fun g h hg => by
  have hg : none = some h := hg
  cases hg
def bo227 := bodE 32 (bodyN Xh 227 (S Xh 40) nd227 Tryz.f227 (codeOf Tryz.f227))
theorem bod227 : BodOk Xh 227 bo227 := bodE_ok (bodyN_bod (sXh.walks 40 227) nd227_ok Tryz.func227 (by kernel_rfl) (by kernel_rfl)) 32
def extXl227 (f : FuncId) : Option (Go.AS.Id → Nat → List AV → Hp → Option Res) :=
  (bsel (Nat.beq f 227) (some (fun p _ xs σ => ndF bo227 p xs σ)) (extXh f))
def Xl227 : PX := { P := Tryz.prog, gl := fun g => bsel (Nat.beq g 0) (some (.ref (.lit (.iface 143 (.agg #[.pointer (some ⟨9, 27, none⟩)]))))) none, ext := extXl227, own := fun _ _ => true, m := 100000 }
theorem sXl227 : Xl227.Sound := by
  refine ⟨sound.mix, sound.gl, fun f g h => ?_⟩
  have h : extXl227 f = some g := h
  unfold extXl227 at h
  cases hb227 : Nat.beq f 227
  · rw [hb227, bsel_false] at h
    exact sXh.ext f g h
  · rw [hb227, bsel_true] at h; cases h
    obtain rfl := Nat.eq_of_beq_eq_true hb227
    exact ndF_bod (X := Xh) (C := cx Xl227 227 fun _ _ _ _ _ => none) rfl rfl sound.gl bod227
def nd337 : NdT := fun _ => none
theorem nd337_ok : ∀ g h, nd337 g = some h → NdOk (cx Xl227 337 (S Xl227 40)) g h := fun g h hg => by
  have hg : none = some h := hg
  cases hg
def bo337 := bodE 5 (bodyN Xl227 337 (S Xl227 40) nd337 Tryz.f337 (codeOf Tryz.f337))
theorem bod337 : BodOk Xl227 337 bo337 := bodE_ok (bodyN_bod (sXl227.walks 40 337) nd337_ok Tryz.func337 (by kernel_rfl) (by kernel_rfl)) 5
def extXl337 (f : FuncId) : Option (Go.AS.Id → Nat → List AV → Hp → Option Res) :=
  (bsel (Nat.beq f 337) (some (fun p _ xs σ => ndF bo337 p xs σ)) (extXl227 f))
def Xl337 : PX := { P := Tryz.prog, gl := fun g => bsel (Nat.beq g 0) (some (.ref (.lit (.iface 143 (.agg #[.pointer (some ⟨9, 27, none⟩)]))))) none, ext := extXl337, own := fun _ _ => true, m := 100000 }
theorem sXl337 : Xl337.Sound := by
  refine ⟨sound.mix, sound.gl, fun f g h => ?_⟩
  have h : extXl337 f = some g := h
  unfold extXl337 at h
  cases hb337 : Nat.beq f 337
  · rw [hb337, bsel_false] at h
    exact sXl227.ext f g h
  · rw [hb337, bsel_true] at h; cases h
    obtain rfl := Nat.eq_of_beq_eq_true hb337
    exact ndF_bod (X := Xl227) (C := cx Xl337 337 fun _ _ _ _ _ => none) rfl rfl sound.gl bod337
def bo333 := bodyR Xl337 333 (S Xl337 40) Tryz.f333 (codeOf Tryz.f333)
theorem bod333 : BodOk Xl337 333 bo333 := bodyR_bod (sXl337.walks 40 333) Tryz.func333 (by kernel_rfl) (by kernel_rfl)
def nd258 : NdT := fun g => (bsel (Nat.beq g 333) (some (ndG bo333)) none)
theorem nd258_ok : ∀ g h, nd258 g = some h → NdOk (cx Xl337 258 (S Xl337 40)) g h := fun g h hg => by
  have hg : (bsel (Nat.beq g 333) (some (ndG bo333)) none) = some h := hg
  cases hb333 : Nat.beq g 333
  · rw [hb333, bsel_false] at hg
    cases hg
  · rw [hb333, bsel_true] at hg; cases hg
    obtain rfl := Nat.eq_of_beq_eq_true hb333
    exact ndG_ok rfl rfl sound.gl bod333
def bo258 := bodyN Xl337 258 (S Xl337 40) nd258 Tryz.f258 (codeOf Tryz.f258)
theorem bod258 : BodOk Xl337 258 bo258 := bodyN_bod (sXl337.walks 40 258) nd258_ok Tryz.func258 (by kernel_rfl) (by kernel_rfl)
def nd181 : NdT := fun g => (bsel (Nat.beq g 333) (some (ndG bo333)) (bsel (Nat.beq g 258) (some (ndG bo258)) none))
theorem nd181_ok : ∀ g h, nd181 g = some h → NdOk (cx Xl337 181 (S Xl337 40)) g h := fun g h hg => by
  have hg : (bsel (Nat.beq g 333) (some (ndG bo333)) (bsel (Nat.beq g 258) (some (ndG bo258)) none)) = some h := hg
  cases hb333 : Nat.beq g 333
  · rw [hb333, bsel_false] at hg
    cases hb258 : Nat.beq g 258
    · rw [hb258, bsel_false] at hg
      cases hg
    · rw [hb258, bsel_true] at hg; cases hg
      obtain rfl := Nat.eq_of_beq_eq_true hb258
      exact ndG_ok rfl rfl sound.gl bod258
  · rw [hb333, bsel_true] at hg; cases hg
    obtain rfl := Nat.eq_of_beq_eq_true hb333
    exact ndG_ok rfl rfl sound.gl bod333
def bo181 := bodyN Xl337 181 (S Xl337 40) nd181 Tryz.f181 (codeOf Tryz.f181)
theorem bod181 : BodOk Xl337 181 bo181 := bodyN_bod (sXl337.walks 40 181) nd181_ok Tryz.func181 (by kernel_rfl) (by kernel_rfl)
def extXl181 (f : FuncId) : Option (Go.AS.Id → Nat → List AV → Hp → Option Res) :=
  (bsel (Nat.beq f 181) (some (fun p _ xs σ => ndF bo181 p xs σ)) (extXl337 f))
def Xl181 : PX := { P := Tryz.prog, gl := fun g => bsel (Nat.beq g 0) (some (.ref (.lit (.iface 143 (.agg #[.pointer (some ⟨9, 27, none⟩)]))))) none, ext := extXl181, own := fun _ _ => true, m := 100000 }
theorem sXl181 : Xl181.Sound := by
  refine ⟨sound.mix, sound.gl, fun f g h => ?_⟩
  have h : extXl181 f = some g := h
  unfold extXl181 at h
  cases hb181 : Nat.beq f 181
  · rw [hb181, bsel_false] at h
    exact sXl337.ext f g h
  · rw [hb181, bsel_true] at h; cases h
    obtain rfl := Nat.eq_of_beq_eq_true hb181
    exact ndF_bod (X := Xl337) (C := cx Xl181 181 fun _ _ _ _ _ => none) rfl rfl sound.gl bod181
def nd248 : NdT := fun g => (bsel (Nat.beq g 333) (some (ndG bo333)) (bsel (Nat.beq g 258) (some (ndG bo258)) none))
theorem nd248_ok : ∀ g h, nd248 g = some h → NdOk (cx Xl181 248 (S Xl181 40)) g h := fun g h hg => by
  have hg : (bsel (Nat.beq g 333) (some (ndG bo333)) (bsel (Nat.beq g 258) (some (ndG bo258)) none)) = some h := hg
  cases hb333 : Nat.beq g 333
  · rw [hb333, bsel_false] at hg
    cases hb258 : Nat.beq g 258
    · rw [hb258, bsel_false] at hg
      cases hg
    · rw [hb258, bsel_true] at hg; cases hg
      obtain rfl := Nat.eq_of_beq_eq_true hb258
      exact ndG_ok rfl rfl sound.gl bod258
  · rw [hb333, bsel_true] at hg; cases hg
    obtain rfl := Nat.eq_of_beq_eq_true hb333
    exact ndG_ok rfl rfl sound.gl bod333
def bo248 := bodyN Xl181 248 (S Xl181 40) nd248 Tryz.f248 (codeOf Tryz.f248)
theorem bod248 : BodOk Xl181 248 bo248 := bodyN_bod (sXl181.walks 40 248) nd248_ok Tryz.func248 (by kernel_rfl) (by kernel_rfl)
def extXl248 (f : FuncId) : Option (Go.AS.Id → Nat → List AV → Hp → Option Res) :=
  (bsel (Nat.beq f 248) (some (fun p _ xs σ => ndF bo248 p xs σ)) (extXl181 f))
def Xl248 : PX := { P := Tryz.prog, gl := fun g => bsel (Nat.beq g 0) (some (.ref (.lit (.iface 143 (.agg #[.pointer (some ⟨9, 27, none⟩)]))))) none, ext := extXl248, own := fun _ _ => true, m := 100000 }
theorem sXl248 : Xl248.Sound := by
  refine ⟨sound.mix, sound.gl, fun f g h => ?_⟩
  have h : extXl248 f = some g := h
  unfold extXl248 at h
  cases hb248 : Nat.beq f 248
  · rw [hb248, bsel_false] at h
    exact sXl181.ext f g h
  · rw [hb248, bsel_true] at h; cases h
    obtain rfl := Nat.eq_of_beq_eq_true hb248
    exact ndF_bod (X := Xl181) (C := cx Xl248 248 fun _ _ _ _ _ => none) rfl rfl sound.gl bod248
def nd335 : NdT := fun g => (bsel (Nat.beq g 333) (some (ndG bo333)) (bsel (Nat.beq g 258) (some (ndG bo258)) none))
theorem nd335_ok : ∀ g h, nd335 g = some h → NdOk (cx Xl248 335 (S Xl248 40)) g h := fun g h hg => by
  have hg : (bsel (Nat.beq g 333) (some (ndG bo333)) (bsel (Nat.beq g 258) (some (ndG bo258)) none)) = some h := hg
  cases hb333 : Nat.beq g 333
  · rw [hb333, bsel_false] at hg
    cases hb258 : Nat.beq g 258
    · rw [hb258, bsel_false] at hg
      cases hg
    · rw [hb258, bsel_true] at hg; cases hg
      obtain rfl := Nat.eq_of_beq_eq_true hb258
      exact ndG_ok rfl rfl sound.gl bod258
  · rw [hb333, bsel_true] at hg; cases hg
    obtain rfl := Nat.eq_of_beq_eq_true hb333
    exact ndG_ok rfl rfl sound.gl bod333
def bo335 := bodyN Xl248 335 (S Xl248 40) nd335 Tryz.f335 (codeOf Tryz.f335)
theorem bod335 : BodOk Xl248 335 bo335 := bodyN_bod (sXl248.walks 40 335) nd335_ok Tryz.func335 (by kernel_rfl) (by kernel_rfl)
def extXl335 (f : FuncId) : Option (Go.AS.Id → Nat → List AV → Hp → Option Res) :=
  (bsel (Nat.beq f 335) (some (fun p _ xs σ => ndF bo335 p xs σ)) (extXl248 f))
def Xl335 : PX := { P := Tryz.prog, gl := fun g => bsel (Nat.beq g 0) (some (.ref (.lit (.iface 143 (.agg #[.pointer (some ⟨9, 27, none⟩)]))))) none, ext := extXl335, own := fun _ _ => true, m := 100000 }
theorem sXl335 : Xl335.Sound := by
  refine ⟨sound.mix, sound.gl, fun f g h => ?_⟩
  have h : extXl335 f = some g := h
  unfold extXl335 at h
  cases hb335 : Nat.beq f 335
  · rw [hb335, bsel_false] at h
    exact sXl248.ext f g h
  · rw [hb335, bsel_true] at h; cases h
    obtain rfl := Nat.eq_of_beq_eq_true hb335
    exact ndF_bod (X := Xl248) (C := cx Xl335 335 fun _ _ _ _ _ => none) rfl rfl sound.gl bod335
def nd178 : NdT := fun g => (bsel (Nat.beq g 333) (some (ndG bo333)) (bsel (Nat.beq g 258) (some (ndG bo258)) none))
theorem nd178_ok : ∀ g h, nd178 g = some h → NdOk (cx Xl335 178 (S Xl335 40)) g h := fun g h hg => by
  have hg : (bsel (Nat.beq g 333) (some (ndG bo333)) (bsel (Nat.beq g 258) (some (ndG bo258)) none)) = some h := hg
  cases hb333 : Nat.beq g 333
  · rw [hb333, bsel_false] at hg
    cases hb258 : Nat.beq g 258
    · rw [hb258, bsel_false] at hg
      cases hg
    · rw [hb258, bsel_true] at hg; cases hg
      obtain rfl := Nat.eq_of_beq_eq_true hb258
      exact ndG_ok rfl rfl sound.gl bod258
  · rw [hb333, bsel_true] at hg; cases hg
    obtain rfl := Nat.eq_of_beq_eq_true hb333
    exact ndG_ok rfl rfl sound.gl bod333
def bo178 := bodyN Xl335 178 (S Xl335 40) nd178 Tryz.f178 (codeOf Tryz.f178)
theorem bod178 : BodOk Xl335 178 bo178 := bodyN_bod (sXl335.walks 40 178) nd178_ok Tryz.func178 (by kernel_rfl) (by kernel_rfl)
def extXl178 (f : FuncId) : Option (Go.AS.Id → Nat → List AV → Hp → Option Res) :=
  (bsel (Nat.beq f 178) (some (fun p _ xs σ => ndF bo178 p xs σ)) (extXl335 f))
def Xl178 : PX := { P := Tryz.prog, gl := fun g => bsel (Nat.beq g 0) (some (.ref (.lit (.iface 143 (.agg #[.pointer (some ⟨9, 27, none⟩)]))))) none, ext := extXl178, own := fun _ _ => true, m := 100000 }
theorem sXl178 : Xl178.Sound := by
  refine ⟨sound.mix, sound.gl, fun f g h => ?_⟩
  have h : extXl178 f = some g := h
  unfold extXl178 at h
  cases hb178 : Nat.beq f 178
  · rw [hb178, bsel_false] at h
    exact sXl335.ext f g h
  · rw [hb178, bsel_true] at h; cases h
    obtain rfl := Nat.eq_of_beq_eq_true hb178
    exact ndF_bod (X := Xl335) (C := cx Xl178 178 fun _ _ _ _ _ => none) rfl rfl sound.gl bod178
def nd179 : NdT := fun g => (bsel (Nat.beq g 333) (some (ndG bo333)) (bsel (Nat.beq g 258) (some (ndG bo258)) none))
theorem nd179_ok : ∀ g h, nd179 g = some h → NdOk (cx Xl178 179 (S Xl178 40)) g h := fun g h hg => by
  have hg : (bsel (Nat.beq g 333) (some (ndG bo333)) (bsel (Nat.beq g 258) (some (ndG bo258)) none)) = some h := hg
  cases hb333 : Nat.beq g 333
  · rw [hb333, bsel_false] at hg
    cases hb258 : Nat.beq g 258
    · rw [hb258, bsel_false] at hg
      cases hg
    · rw [hb258, bsel_true] at hg; cases hg
      obtain rfl := Nat.eq_of_beq_eq_true hb258
      exact ndG_ok rfl rfl sound.gl bod258
  · rw [hb333, bsel_true] at hg; cases hg
    obtain rfl := Nat.eq_of_beq_eq_true hb333
    exact ndG_ok rfl rfl sound.gl bod333
def bo179 := bodyN Xl178 179 (S Xl178 40) nd179 Tryz.f179 (codeOf Tryz.f179)
theorem bod179 : BodOk Xl178 179 bo179 := bodyN_bod (sXl178.walks 40 179) nd179_ok Tryz.func179 (by kernel_rfl) (by kernel_rfl)
def extXl179 (f : FuncId) : Option (Go.AS.Id → Nat → List AV → Hp → Option Res) :=
  (bsel (Nat.beq f 179) (some (fun p _ xs σ => ndF bo179 p xs σ)) (extXl178 f))
def Xl179 : PX := { P := Tryz.prog, gl := fun g => bsel (Nat.beq g 0) (some (.ref (.lit (.iface 143 (.agg #[.pointer (some ⟨9, 27, none⟩)]))))) none, ext := extXl179, own := fun _ _ => true, m := 100000 }
theorem sXl179 : Xl179.Sound := by
  refine ⟨sound.mix, sound.gl, fun f g h => ?_⟩
  have h : extXl179 f = some g := h
  unfold extXl179 at h
  cases hb179 : Nat.beq f 179
  · rw [hb179, bsel_false] at h
    exact sXl178.ext f g h
  · rw [hb179, bsel_true] at h; cases h
    obtain rfl := Nat.eq_of_beq_eq_true hb179
    exact ndF_bod (X := Xl178) (C := cx Xl179 179 fun _ _ _ _ _ => none) rfl rfl sound.gl bod179
end
end ScriptKnown
end Go.Proofs.YtidfefgnggombaaGreatDoor
