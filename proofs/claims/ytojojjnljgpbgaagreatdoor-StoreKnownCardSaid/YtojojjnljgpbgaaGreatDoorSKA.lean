/- The law StoreKnown: the program as the walk knows it; its functions without a body. No condition. -/
import Derived.Test.YtojojjnljgpbgaaGreatDoorProg
import Derived.Test.YtojojjnljgpbgaaGreatDoorASlaw
import Derived.Test.YtojojjnljgpbgaaGreatDoorASlend
import Derived.Test.YtojojjnljgpbgaaGreatDoorASms
import Derived.Test.YtojojjnljgpbgaaGreatDoorASext2
import Derived.Test.YtojojjnljgpbgaaGreatDoorASst
import Derived.Test.YtojojjnljgpbgaaGreatDoorHX
import Derived.Test.YtojojjnljgpbgaaGreatDoorASsu
import Derived.Test.YtojojjnljgpbgaaGreatDoorHX
import Derived.Test.YtojojjnljgpbgaaGreatDoorASnw
namespace Go.Proofs.YtojojjnljgpbgaaGreatDoor
open Go.AS
namespace StoreKnown
noncomputable section

def extF (f : FuncId) : Option (Go.AS.Id → Nat → List AV → Hp → Option Res) :=
  (bsel (Nat.beq f 55) (some (valueOfX Tryz.prog))
  (bsel (Nat.beq f 56) (some (typeX Tryz.prog))
  (bsel (Nat.beq f 57) (some (isNilX Tryz.prog))
  (bsel (Nat.beq f 80) (some (typeOfX Tryz.prog))
  (bsel (Nat.beq f 93) (some (elemX Tryz.prog))
  (bsel (Nat.beq f 94) (some (setX Tryz.prog))
  (bsel (Nat.beq f 146) (some (cloneX))
  (bsel (Nat.beq f 178) (some (compareX))
  (bsel (Nat.beq f 217) (some (pureX Tryz.prog (Extern.ReflectliteType.abiMethod fun t => do pure (.int .u8 (← Extern.Rtype.kind t)))))
  (bsel (Nat.beq f 229) (some (pureX Tryz.prog (Extern.ReflectliteType.relation "AssignableTo" Extern.ReflectliteType.assignableTo)))
  (bsel (Nat.beq f 230) (some (pureX Tryz.prog (Extern.ReflectliteType.method fun t => do Extern.Rtype.noPackHeld "Comparable" t; pure (.bool (← typeInfo t).comparable))))
  (bsel (Nat.beq f 231) (some (pureX Tryz.prog (Extern.ReflectliteType.method Extern.ReflectliteType.elem)))
  (bsel (Nat.beq f 232) (some (pureX Tryz.prog (Extern.ReflectliteType.relation "Implements" Extern.ReflectliteType.implements_))) (none))))))))))))))
def X : PX := { P := Tryz.prog, gl := fun g => bsel (Nat.beq g 0) (some (.ref (.lit (.iface 173 (.agg #[.pointer (some ⟨2, 24, none⟩)]))))) none, ext := extF, own := fun _ _ => true, m := 100000 }
theorem isExt55 : IsExt Tryz.prog 55 Tryz.f55 (fun args => Extern.ReflectliteValue.unpack (args.getD 0 (.tuple #[]))) := ⟨Tryz.func55, by kernel_rfl, by kernel_rfl, by kernel_rfl, by kernel_rfl⟩
theorem isExt56 : IsExt Tryz.prog 56 Tryz.f56 (Extern.ReflectliteValue.methodAny (Extern.ReflectliteValue.valueError "reflectlite.Value.Type" 0) fun t _ _ _ => Extern.ReflectliteType.toType t) := ⟨Tryz.func56, by kernel_rfl, by kernel_rfl, by kernel_rfl, by kernel_rfl⟩
theorem isExt57 : IsExt Tryz.prog 57 Tryz.f57 (Extern.ReflectliteValue.method (Extern.ReflectliteValue.valueError "reflectlite.Value.IsNil" 0) Extern.ReflectliteValue.isNil) := ⟨Tryz.func57, by kernel_rfl, by kernel_rfl, by kernel_rfl, by kernel_rfl⟩
theorem isExt80 : IsExt Tryz.prog 80 Tryz.f80 (Extern.ReflectliteType.typeOf) := ⟨Tryz.func80, by kernel_rfl, by kernel_rfl, by kernel_rfl, by kernel_rfl⟩
theorem isExt93 : IsExt Tryz.prog 93 Tryz.f93 (Extern.ReflectliteValue.method (Extern.ReflectliteValue.valueError "reflectlite.Value.Elem" 0) Extern.ReflectliteValue.elem) := ⟨Tryz.func93, by kernel_rfl, by kernel_rfl, by kernel_rfl, by kernel_rfl⟩
theorem isExt94 : IsExt Tryz.prog 94 Tryz.f94 (Extern.ReflectliteValue.set) := ⟨Tryz.func94, by kernel_rfl, by kernel_rfl, by kernel_rfl, by kernel_rfl⟩
theorem isExt146 : IsExt Tryz.prog 146 Tryz.f146 (Extern.MapsClone.clone) := ⟨Tryz.func146, by kernel_rfl, by kernel_rfl, by kernel_rfl, by kernel_rfl⟩
theorem isExt178 : IsExt Tryz.prog 178 Tryz.f178 (Extern.BytealgCompare.compare) := ⟨Tryz.func178, by kernel_rfl, by kernel_rfl, by kernel_rfl, by kernel_rfl⟩
theorem isExt217 : IsExt Tryz.prog 217 Tryz.f217 (Extern.ReflectliteType.abiMethod fun t => do pure (.int .u8 (← Extern.Rtype.kind t))) := ⟨Tryz.func217, by kernel_rfl, by kernel_rfl, by kernel_rfl, by kernel_rfl⟩
theorem isExt229 : IsExt Tryz.prog 229 Tryz.f229 (Extern.ReflectliteType.relation "AssignableTo" Extern.ReflectliteType.assignableTo) := ⟨Tryz.func229, by kernel_rfl, by kernel_rfl, by kernel_rfl, by kernel_rfl⟩
theorem isExt230 : IsExt Tryz.prog 230 Tryz.f230 (Extern.ReflectliteType.method fun t => do Extern.Rtype.noPackHeld "Comparable" t; pure (.bool (← typeInfo t).comparable)) := ⟨Tryz.func230, by kernel_rfl, by kernel_rfl, by kernel_rfl, by kernel_rfl⟩
theorem isExt231 : IsExt Tryz.prog 231 Tryz.f231 (Extern.ReflectliteType.method Extern.ReflectliteType.elem) := ⟨Tryz.func231, by kernel_rfl, by kernel_rfl, by kernel_rfl, by kernel_rfl⟩
theorem isExt232 : IsExt Tryz.prog 232 Tryz.f232 (Extern.ReflectliteType.relation "Implements" Extern.ReflectliteType.implements_) := ⟨Tryz.func232, by kernel_rfl, by kernel_rfl, by kernel_rfl, by kernel_rfl⟩
theorem sound : X.Sound := by
  refine ⟨by kernel_rfl, fun g x h => (by
    have h : bsel (Nat.beq g 0) (some (.ref (.lit (.iface 173 (.agg #[.pointer (some ⟨2, 24, none⟩)]))))) none = some x := h
    cases hb : Nat.beq g 0
    · rw [hb, bsel_false] at h; cases h
    · rw [hb, bsel_true] at h; cases h; intro M; rfl), fun f g h => ?_⟩
  have h : extF f = some g := h
  unfold extF at h
  cases hb55 : Nat.beq f 55
  · rw [hb55, bsel_false] at h
    cases hb56 : Nat.beq f 56
    · rw [hb56, bsel_false] at h
      cases hb57 : Nat.beq f 57
      · rw [hb57, bsel_false] at h
        cases hb80 : Nat.beq f 80
        · rw [hb80, bsel_false] at h
          cases hb93 : Nat.beq f 93
          · rw [hb93, bsel_false] at h
            cases hb94 : Nat.beq f 94
            · rw [hb94, bsel_false] at h
              cases hb146 : Nat.beq f 146
              · rw [hb146, bsel_false] at h
                cases hb178 : Nat.beq f 178
                · rw [hb178, bsel_false] at h
                  cases hb217 : Nat.beq f 217
                  · rw [hb217, bsel_false] at h
                    cases hb229 : Nat.beq f 229
                    · rw [hb229, bsel_false] at h
                      cases hb230 : Nat.beq f 230
                      · rw [hb230, bsel_false] at h
                        cases hb231 : Nat.beq f 231
                        · rw [hb231, bsel_false] at h
                          cases hb232 : Nat.beq f 232
                          · rw [hb232, bsel_false] at h
                            cases h
                          · rw [hb232, bsel_true] at h; cases h
                            obtain rfl := Nat.eq_of_beq_eq_true hb232
                            exact pureX_ok (C := cx X 232 fun _ _ _ _ _ => none) isExt232
                        · rw [hb231, bsel_true] at h; cases h
                          obtain rfl := Nat.eq_of_beq_eq_true hb231
                          exact pureX_ok (C := cx X 231 fun _ _ _ _ _ => none) isExt231
                      · rw [hb230, bsel_true] at h; cases h
                        obtain rfl := Nat.eq_of_beq_eq_true hb230
                        exact pureX_ok (C := cx X 230 fun _ _ _ _ _ => none) isExt230
                    · rw [hb229, bsel_true] at h; cases h
                      obtain rfl := Nat.eq_of_beq_eq_true hb229
                      exact pureX_ok (C := cx X 229 fun _ _ _ _ _ => none) isExt229
                  · rw [hb217, bsel_true] at h; cases h
                    obtain rfl := Nat.eq_of_beq_eq_true hb217
                    exact pureX_ok (C := cx X 217 fun _ _ _ _ _ => none) isExt217
                · rw [hb178, bsel_true] at h; cases h
                  obtain rfl := Nat.eq_of_beq_eq_true hb178
                  exact compareX_ok (C := cx X 178 fun _ _ _ _ _ => none) isExt178
              · rw [hb146, bsel_true] at h; cases h
                obtain rfl := Nat.eq_of_beq_eq_true hb146
                exact cloneX_ok (C := cx X 146 fun _ _ _ _ _ => none) isExt146
            · rw [hb94, bsel_true] at h; cases h
              obtain rfl := Nat.eq_of_beq_eq_true hb94
              exact set_ok (C := cx X 94 fun _ _ _ _ _ => none) isExt94
          · rw [hb93, bsel_true] at h; cases h
            obtain rfl := Nat.eq_of_beq_eq_true hb93
            exact elem_ok (C := cx X 93 fun _ _ _ _ _ => none) isExt93
        · rw [hb80, bsel_true] at h; cases h
          obtain rfl := Nat.eq_of_beq_eq_true hb80
          exact typeOf_ok (C := cx X 80 fun _ _ _ _ _ => none) isExt80
      · rw [hb57, bsel_true] at h; cases h
        obtain rfl := Nat.eq_of_beq_eq_true hb57
        exact isNil_ok (C := cx X 57 fun _ _ _ _ _ => none) isExt57
    · rw [hb56, bsel_true] at h; cases h
      obtain rfl := Nat.eq_of_beq_eq_true hb56
      exact type_ok (C := cx X 56 fun _ _ _ _ _ => none) isExt56
  · rw [hb55, bsel_true] at h; cases h
    obtain rfl := Nat.eq_of_beq_eq_true hb55
    exact valueOf_ok (C := cx X 55 fun _ _ _ _ _ => none) isExt55
theorem text_ok {C : Cx} (hCP : C.P = Tryz.prog) : CtOk C 181 (.det (textX 32 fun l => hexP (fun k => l.getD k 0) 32)) := by
  refine textX_ok (by rw [hCP]; exact enters_of Tryz.func181 (by kernel_rfl) rfl) fun cells l w h1 h2 h3 => ?_
  rw [hCP]
  have hsz : cells.size = 32 := by rw [← Array.length_toList, h1, List.length_map, h2]
  refine hexText cells (fun k => l.getD k 0) hsz (fun k hk => ?_) (fun k => ?_) w
  · have hkl : k < l.length := by omega
    rw [← Array.getElem?_toList, h1, List.getElem?_map, List.getElem?_eq_getElem hkl]
    simp [List.getD, List.getElem?_eq_getElem hkl]
  · by_cases hk : k < l.length
    · simp only [List.getD, List.getElem?_eq_getElem hk, Option.getD_some]; exact h3 _ (List.getElem_mem hk)
    · simp [List.getD, List.getElem?_eq_none (Nat.le_of_not_lt hk)]
theorem crc_ok {C : Cx} (hCP : C.P = Tryz.prog) : CtOk C 169 (.det (sumX fun l => .int .u32 (4294967295 ^^^ crcL l 4294967295 : Nat))) := by
  refine sumX_ok (by rw [hCP]; exact enters_of Tryz.func169 (by kernel_rfl) rfl) (fun a c w => ?_) fun a l c w h1 h2 h3 => ?_
  · rw [hCP]; exact crcSum0 a c w
  · rw [hCP]; exact crcSum l h1 h2 a c w h3
def extXh (f : FuncId) : Option (Go.AS.Id → Nat → List AV → Hp → Option Res) :=
  (bsel (Nat.beq f 181) (some (textX 32 fun l => hexP (fun k => l.getD k 0) 32))
  (bsel (Nat.beq f 169) (some (sumX fun l => .int .u32 (4294967295 ^^^ crcL l 4294967295 : Nat))) (extF f)))
def Xh : PX := { P := Tryz.prog, gl := fun g => bsel (Nat.beq g 0) (some (.ref (.lit (.iface 173 (.agg #[.pointer (some ⟨2, 24, none⟩)]))))) none, ext := extXh, own := fun _ _ => true, m := 100000 }
theorem sXh : Xh.Sound := by
  refine ⟨sound.mix, sound.gl, fun f g h => ?_⟩
  have h : extXh f = some g := h
  unfold extXh at h
  cases hb181 : Nat.beq f 181
  · rw [hb181, bsel_false] at h
    cases hb169 : Nat.beq f 169
    · rw [hb169, bsel_false] at h
      exact sound.ext f g h
    · rw [hb169, bsel_true] at h; cases h
      obtain rfl := Nat.eq_of_beq_eq_true hb169
      exact crc_ok (C := cx Xh 169 fun _ _ _ _ _ => none) rfl
  · rw [hb181, bsel_true] at h; cases h
    obtain rfl := Nat.eq_of_beq_eq_true hb181
    exact text_ok (C := cx Xh 181 fun _ _ _ _ _ => none) rfl
def codeOf (fn : Func) : Code := fn.body.getD .skip
def nd112 : NdT := fun _ => none
theorem nd112_ok : ∀ g h, nd112 g = some h → NdOk (cx Xh 112 (S Xh 40)) g h := fun g h hg => by
  have hg : none = some h := hg
  cases hg
def bo112 := bodE 32 (bodyN Xh 112 (S Xh 40) nd112 Tryz.f112 (codeOf Tryz.f112))
theorem bod112 : BodOk Xh 112 bo112 := bodE_ok (bodyN_bod (sXh.walks 40 112) nd112_ok Tryz.func112 (by kernel_rfl) (by kernel_rfl)) 32
def extXl112 (f : FuncId) : Option (Go.AS.Id → Nat → List AV → Hp → Option Res) :=
  (bsel (Nat.beq f 112) (some (fun p _ xs σ => ndF bo112 p xs σ)) (extXh f))
def Xl112 : PX := { P := Tryz.prog, gl := fun g => bsel (Nat.beq g 0) (some (.ref (.lit (.iface 173 (.agg #[.pointer (some ⟨2, 24, none⟩)]))))) none, ext := extXl112, own := fun _ _ => true, m := 100000 }
theorem sXl112 : Xl112.Sound := by
  refine ⟨sound.mix, sound.gl, fun f g h => ?_⟩
  have h : extXl112 f = some g := h
  unfold extXl112 at h
  cases hb112 : Nat.beq f 112
  · rw [hb112, bsel_false] at h
    exact sXh.ext f g h
  · rw [hb112, bsel_true] at h; cases h
    obtain rfl := Nat.eq_of_beq_eq_true hb112
    exact ndF_bod (X := Xh) (C := cx Xl112 112 fun _ _ _ _ _ => none) rfl rfl sound.gl bod112
def bo156 := bodyR Xl112 156 (S Xl112 40) Tryz.f156 (codeOf Tryz.f156)
theorem bod156 : BodOk Xl112 156 bo156 := bodyR_bod (sXl112.walks 40 156) Tryz.func156 (by kernel_rfl) (by kernel_rfl)
def nd115 : NdT := fun g => (bsel (Nat.beq g 156) (some (ndG bo156)) none)
theorem nd115_ok : ∀ g h, nd115 g = some h → NdOk (cx Xl112 115 (S Xl112 40)) g h := fun g h hg => by
  have hg : (bsel (Nat.beq g 156) (some (ndG bo156)) none) = some h := hg
  cases hb156 : Nat.beq g 156
  · rw [hb156, bsel_false] at hg
    cases hg
  · rw [hb156, bsel_true] at hg; cases hg
    obtain rfl := Nat.eq_of_beq_eq_true hb156
    exact ndG_ok rfl rfl sound.gl bod156
def bo115 := bodyN Xl112 115 (S Xl112 40) nd115 Tryz.f115 (codeOf Tryz.f115)
theorem bod115 : BodOk Xl112 115 bo115 := bodyN_bod (sXl112.walks 40 115) nd115_ok Tryz.func115 (by kernel_rfl) (by kernel_rfl)
def nd72 : NdT := fun g => (bsel (Nat.beq g 156) (some (ndG bo156)) (bsel (Nat.beq g 115) (some (ndG bo115)) none))
theorem nd72_ok : ∀ g h, nd72 g = some h → NdOk (cx Xl112 72 (S Xl112 40)) g h := fun g h hg => by
  have hg : (bsel (Nat.beq g 156) (some (ndG bo156)) (bsel (Nat.beq g 115) (some (ndG bo115)) none)) = some h := hg
  cases hb156 : Nat.beq g 156
  · rw [hb156, bsel_false] at hg
    cases hb115 : Nat.beq g 115
    · rw [hb115, bsel_false] at hg
      cases hg
    · rw [hb115, bsel_true] at hg; cases hg
      obtain rfl := Nat.eq_of_beq_eq_true hb115
      exact ndG_ok rfl rfl sound.gl bod115
  · rw [hb156, bsel_true] at hg; cases hg
    obtain rfl := Nat.eq_of_beq_eq_true hb156
    exact ndG_ok rfl rfl sound.gl bod156
def bo72 := bodyN Xl112 72 (S Xl112 40) nd72 Tryz.f72 (codeOf Tryz.f72)
theorem bod72 : BodOk Xl112 72 bo72 := bodyN_bod (sXl112.walks 40 72) nd72_ok Tryz.func72 (by kernel_rfl) (by kernel_rfl)
def extXl72 (f : FuncId) : Option (Go.AS.Id → Nat → List AV → Hp → Option Res) :=
  (bsel (Nat.beq f 72) (some (fun p _ xs σ => ndF bo72 p xs σ)) (extXl112 f))
def Xl72 : PX := { P := Tryz.prog, gl := fun g => bsel (Nat.beq g 0) (some (.ref (.lit (.iface 173 (.agg #[.pointer (some ⟨2, 24, none⟩)]))))) none, ext := extXl72, own := fun _ _ => true, m := 100000 }
theorem sXl72 : Xl72.Sound := by
  refine ⟨sound.mix, sound.gl, fun f g h => ?_⟩
  have h : extXl72 f = some g := h
  unfold extXl72 at h
  cases hb72 : Nat.beq f 72
  · rw [hb72, bsel_false] at h
    exact sXl112.ext f g h
  · rw [hb72, bsel_true] at h; cases h
    obtain rfl := Nat.eq_of_beq_eq_true hb72
    exact ndF_bod (X := Xl112) (C := cx Xl72 72 fun _ _ _ _ _ => none) rfl rfl sound.gl bod72
def nd127 : NdT := fun g => (bsel (Nat.beq g 156) (some (ndG bo156)) (bsel (Nat.beq g 115) (some (ndG bo115)) none))
theorem nd127_ok : ∀ g h, nd127 g = some h → NdOk (cx Xl72 127 (S Xl72 40)) g h := fun g h hg => by
  have hg : (bsel (Nat.beq g 156) (some (ndG bo156)) (bsel (Nat.beq g 115) (some (ndG bo115)) none)) = some h := hg
  cases hb156 : Nat.beq g 156
  · rw [hb156, bsel_false] at hg
    cases hb115 : Nat.beq g 115
    · rw [hb115, bsel_false] at hg
      cases hg
    · rw [hb115, bsel_true] at hg; cases hg
      obtain rfl := Nat.eq_of_beq_eq_true hb115
      exact ndG_ok rfl rfl sound.gl bod115
  · rw [hb156, bsel_true] at hg; cases hg
    obtain rfl := Nat.eq_of_beq_eq_true hb156
    exact ndG_ok rfl rfl sound.gl bod156
def bo127 := bodyN Xl72 127 (S Xl72 40) nd127 Tryz.f127 (codeOf Tryz.f127)
theorem bod127 : BodOk Xl72 127 bo127 := bodyN_bod (sXl72.walks 40 127) nd127_ok Tryz.func127 (by kernel_rfl) (by kernel_rfl)
def extXl127 (f : FuncId) : Option (Go.AS.Id → Nat → List AV → Hp → Option Res) :=
  (bsel (Nat.beq f 127) (some (fun p _ xs σ => ndF bo127 p xs σ)) (extXl72 f))
def Xl127 : PX := { P := Tryz.prog, gl := fun g => bsel (Nat.beq g 0) (some (.ref (.lit (.iface 173 (.agg #[.pointer (some ⟨2, 24, none⟩)]))))) none, ext := extXl127, own := fun _ _ => true, m := 100000 }
theorem sXl127 : Xl127.Sound := by
  refine ⟨sound.mix, sound.gl, fun f g h => ?_⟩
  have h : extXl127 f = some g := h
  unfold extXl127 at h
  cases hb127 : Nat.beq f 127
  · rw [hb127, bsel_false] at h
    exact sXl72.ext f g h
  · rw [hb127, bsel_true] at h; cases h
    obtain rfl := Nat.eq_of_beq_eq_true hb127
    exact ndF_bod (X := Xl72) (C := cx Xl127 127 fun _ _ _ _ _ => none) rfl rfl sound.gl bod127
def nd160 : NdT := fun g => (bsel (Nat.beq g 156) (some (ndG bo156)) (bsel (Nat.beq g 115) (some (ndG bo115)) none))
theorem nd160_ok : ∀ g h, nd160 g = some h → NdOk (cx Xl127 160 (S Xl127 40)) g h := fun g h hg => by
  have hg : (bsel (Nat.beq g 156) (some (ndG bo156)) (bsel (Nat.beq g 115) (some (ndG bo115)) none)) = some h := hg
  cases hb156 : Nat.beq g 156
  · rw [hb156, bsel_false] at hg
    cases hb115 : Nat.beq g 115
    · rw [hb115, bsel_false] at hg
      cases hg
    · rw [hb115, bsel_true] at hg; cases hg
      obtain rfl := Nat.eq_of_beq_eq_true hb115
      exact ndG_ok rfl rfl sound.gl bod115
  · rw [hb156, bsel_true] at hg; cases hg
    obtain rfl := Nat.eq_of_beq_eq_true hb156
    exact ndG_ok rfl rfl sound.gl bod156
def bo160 := bodyN Xl127 160 (S Xl127 40) nd160 Tryz.f160 (codeOf Tryz.f160)
theorem bod160 : BodOk Xl127 160 bo160 := bodyN_bod (sXl127.walks 40 160) nd160_ok Tryz.func160 (by kernel_rfl) (by kernel_rfl)
def extXl160 (f : FuncId) : Option (Go.AS.Id → Nat → List AV → Hp → Option Res) :=
  (bsel (Nat.beq f 160) (some (fun p _ xs σ => ndF bo160 p xs σ)) (extXl127 f))
def Xl160 : PX := { P := Tryz.prog, gl := fun g => bsel (Nat.beq g 0) (some (.ref (.lit (.iface 173 (.agg #[.pointer (some ⟨2, 24, none⟩)]))))) none, ext := extXl160, own := fun _ _ => true, m := 100000 }
theorem sXl160 : Xl160.Sound := by
  refine ⟨sound.mix, sound.gl, fun f g h => ?_⟩
  have h : extXl160 f = some g := h
  unfold extXl160 at h
  cases hb160 : Nat.beq f 160
  · rw [hb160, bsel_false] at h
    exact sXl127.ext f g h
  · rw [hb160, bsel_true] at h; cases h
    obtain rfl := Nat.eq_of_beq_eq_true hb160
    exact ndF_bod (X := Xl127) (C := cx Xl160 160 fun _ _ _ _ _ => none) rfl rfl sound.gl bod160
def nd85 : NdT := fun g => (bsel (Nat.beq g 156) (some (ndG bo156)) (bsel (Nat.beq g 115) (some (ndG bo115)) none))
theorem nd85_ok : ∀ g h, nd85 g = some h → NdOk (cx Xl160 85 (S Xl160 40)) g h := fun g h hg => by
  have hg : (bsel (Nat.beq g 156) (some (ndG bo156)) (bsel (Nat.beq g 115) (some (ndG bo115)) none)) = some h := hg
  cases hb156 : Nat.beq g 156
  · rw [hb156, bsel_false] at hg
    cases hb115 : Nat.beq g 115
    · rw [hb115, bsel_false] at hg
      cases hg
    · rw [hb115, bsel_true] at hg; cases hg
      obtain rfl := Nat.eq_of_beq_eq_true hb115
      exact ndG_ok rfl rfl sound.gl bod115
  · rw [hb156, bsel_true] at hg; cases hg
    obtain rfl := Nat.eq_of_beq_eq_true hb156
    exact ndG_ok rfl rfl sound.gl bod156
def bo85 := bodyN Xl160 85 (S Xl160 40) nd85 Tryz.f85 (codeOf Tryz.f85)
theorem bod85 : BodOk Xl160 85 bo85 := bodyN_bod (sXl160.walks 40 85) nd85_ok Tryz.func85 (by kernel_rfl) (by kernel_rfl)
def extXl85 (f : FuncId) : Option (Go.AS.Id → Nat → List AV → Hp → Option Res) :=
  (bsel (Nat.beq f 85) (some (fun p _ xs σ => ndF bo85 p xs σ)) (extXl160 f))
def Xl85 : PX := { P := Tryz.prog, gl := fun g => bsel (Nat.beq g 0) (some (.ref (.lit (.iface 173 (.agg #[.pointer (some ⟨2, 24, none⟩)]))))) none, ext := extXl85, own := fun _ _ => true, m := 100000 }
theorem sXl85 : Xl85.Sound := by
  refine ⟨sound.mix, sound.gl, fun f g h => ?_⟩
  have h : extXl85 f = some g := h
  unfold extXl85 at h
  cases hb85 : Nat.beq f 85
  · rw [hb85, bsel_false] at h
    exact sXl160.ext f g h
  · rw [hb85, bsel_true] at h; cases h
    obtain rfl := Nat.eq_of_beq_eq_true hb85
    exact ndF_bod (X := Xl160) (C := cx Xl85 85 fun _ _ _ _ _ => none) rfl rfl sound.gl bod85
def nd86 : NdT := fun g => (bsel (Nat.beq g 156) (some (ndG bo156)) (bsel (Nat.beq g 115) (some (ndG bo115)) none))
theorem nd86_ok : ∀ g h, nd86 g = some h → NdOk (cx Xl85 86 (S Xl85 40)) g h := fun g h hg => by
  have hg : (bsel (Nat.beq g 156) (some (ndG bo156)) (bsel (Nat.beq g 115) (some (ndG bo115)) none)) = some h := hg
  cases hb156 : Nat.beq g 156
  · rw [hb156, bsel_false] at hg
    cases hb115 : Nat.beq g 115
    · rw [hb115, bsel_false] at hg
      cases hg
    · rw [hb115, bsel_true] at hg; cases hg
      obtain rfl := Nat.eq_of_beq_eq_true hb115
      exact ndG_ok rfl rfl sound.gl bod115
  · rw [hb156, bsel_true] at hg; cases hg
    obtain rfl := Nat.eq_of_beq_eq_true hb156
    exact ndG_ok rfl rfl sound.gl bod156
def bo86 := bodyN Xl85 86 (S Xl85 40) nd86 Tryz.f86 (codeOf Tryz.f86)
theorem bod86 : BodOk Xl85 86 bo86 := bodyN_bod (sXl85.walks 40 86) nd86_ok Tryz.func86 (by kernel_rfl) (by kernel_rfl)
def extXl86 (f : FuncId) : Option (Go.AS.Id → Nat → List AV → Hp → Option Res) :=
  (bsel (Nat.beq f 86) (some (fun p _ xs σ => ndF bo86 p xs σ)) (extXl85 f))
def Xl86 : PX := { P := Tryz.prog, gl := fun g => bsel (Nat.beq g 0) (some (.ref (.lit (.iface 173 (.agg #[.pointer (some ⟨2, 24, none⟩)]))))) none, ext := extXl86, own := fun _ _ => true, m := 100000 }
theorem sXl86 : Xl86.Sound := by
  refine ⟨sound.mix, sound.gl, fun f g h => ?_⟩
  have h : extXl86 f = some g := h
  unfold extXl86 at h
  cases hb86 : Nat.beq f 86
  · rw [hb86, bsel_false] at h
    exact sXl85.ext f g h
  · rw [hb86, bsel_true] at h; cases h
    obtain rfl := Nat.eq_of_beq_eq_true hb86
    exact ndF_bod (X := Xl85) (C := cx Xl86 86 fun _ _ _ _ _ => none) rfl rfl sound.gl bod86
end
end StoreKnown
end Go.Proofs.YtojojjnljgpbgaaGreatDoor
