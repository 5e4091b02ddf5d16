/- The law Known27: the program as the walk knows it; its functions without a body. No condition. -/
import Derived.Test.YtnenknghinpliaaGreatDoorProg
import Derived.Test.YtnenknghinpliaaGreatDoorASlaw
import Derived.Test.YtnenknghinpliaaGreatDoorASlend
import Derived.Test.YtnenknghinpliaaGreatDoorASms
import Derived.Test.YtnenknghinpliaaGreatDoorASext2
import Derived.Test.YtnenknghinpliaaGreatDoorASst
import Derived.Test.YtnenknghinpliaaGreatDoorHX
import Derived.Test.YtnenknghinpliaaGreatDoorASsu
import Derived.Test.YtnenknghinpliaaGreatDoorHX
import Derived.Test.YtnenknghinpliaaGreatDoorASbl
import Derived.Test.YtnenknghinpliaaGreatDoorASsp
import Derived.Test.YtnenknghinpliaaGreatDoorBL
import Derived.Test.YtnenknghinpliaaGreatDoorASnw
namespace Go.Proofs.YtnenknghinpliaaGreatDoor
open Go.AS
namespace Known27
noncomputable section

def extF (f : FuncId) : Option (Go.AS.Id → Nat → List AV → Hp → Option Res) :=
  (bsel (Nat.beq f 69) (some (pureX Tryz.prog (Extern.BytealgCount.count)))
  (bsel (Nat.beq f 96) (some (valueOfX Tryz.prog))
  (bsel (Nat.beq f 97) (some (typeX Tryz.prog))
  (bsel (Nat.beq f 98) (some (isNilX Tryz.prog))
  (bsel (Nat.beq f 110) (some (typeOfX Tryz.prog))
  (bsel (Nat.beq f 152) (some (elemX Tryz.prog))
  (bsel (Nat.beq f 153) (some (setX Tryz.prog))
  (bsel (Nat.beq f 154) (some (pureX Tryz.prog (Extern.BytealgIndexByte.indexByte)))
  (bsel (Nat.beq f 199) (some (cloneX))
  (bsel (Nat.beq f 385) (some (compareX))
  (bsel (Nat.beq f 493) (some (pureX Tryz.prog (Extern.ReflectliteType.abiMethod fun t => do pure (.int .u8 (← Extern.Rtype.kind t)))))
  (bsel (Nat.beq f 509) (some (pureX Tryz.prog (Extern.ReflectliteType.relation "AssignableTo" Extern.ReflectliteType.assignableTo)))
  (bsel (Nat.beq f 510) (some (pureX Tryz.prog (Extern.ReflectliteType.method fun t => do Extern.Rtype.noPackHeld "Comparable" t; pure (.bool (← typeInfo t).comparable))))
  (bsel (Nat.beq f 511) (some (pureX Tryz.prog (Extern.ReflectliteType.method Extern.ReflectliteType.elem)))
  (bsel (Nat.beq f 512) (some (pureX Tryz.prog (Extern.ReflectliteType.relation "Implements" Extern.ReflectliteType.implements_))) (none))))))))))))))))
def X : PX := { P := Tryz.prog, gl := fun g => bsel (Nat.beq g 2) (some (.ref (.lit (.iface 264 (.agg #[.pointer (some ⟨9, 38, none⟩)]))))) none, ext := extF, own := fun _ _ => true, m := 100000 }
theorem isExt69 : IsExt Tryz.prog 69 Tryz.f69 (Extern.BytealgCount.count) := ⟨Tryz.func69, by kernel_rfl, by kernel_rfl, by kernel_rfl, by kernel_rfl⟩
theorem isExt96 : IsExt Tryz.prog 96 Tryz.f96 (fun args => Extern.ReflectliteValue.unpack (args.getD 0 (.tuple #[]))) := ⟨Tryz.func96, by kernel_rfl, by kernel_rfl, by kernel_rfl, by kernel_rfl⟩
theorem isExt97 : IsExt Tryz.prog 97 Tryz.f97 (Extern.ReflectliteValue.methodAny (Extern.ReflectliteValue.valueError "reflectlite.Value.Type" 0) fun t _ _ _ => Extern.ReflectliteType.toType t) := ⟨Tryz.func97, by kernel_rfl, by kernel_rfl, by kernel_rfl, by kernel_rfl⟩
theorem isExt98 : IsExt Tryz.prog 98 Tryz.f98 (Extern.ReflectliteValue.method (Extern.ReflectliteValue.valueError "reflectlite.Value.IsNil" 0) Extern.ReflectliteValue.isNil) := ⟨Tryz.func98, by kernel_rfl, by kernel_rfl, by kernel_rfl, by kernel_rfl⟩
theorem isExt110 : IsExt Tryz.prog 110 Tryz.f110 (Extern.ReflectliteType.typeOf) := ⟨Tryz.func110, by kernel_rfl, by kernel_rfl, by kernel_rfl, by kernel_rfl⟩
theorem isExt152 : IsExt Tryz.prog 152 Tryz.f152 (Extern.ReflectliteValue.method (Extern.ReflectliteValue.valueError "reflectlite.Value.Elem" 0) Extern.ReflectliteValue.elem) := ⟨Tryz.func152, by kernel_rfl, by kernel_rfl, by kernel_rfl, by kernel_rfl⟩
theorem isExt153 : IsExt Tryz.prog 153 Tryz.f153 (Extern.ReflectliteValue.set) := ⟨Tryz.func153, by kernel_rfl, by kernel_rfl, by kernel_rfl, by kernel_rfl⟩
theorem isExt154 : IsExt Tryz.prog 154 Tryz.f154 (Extern.BytealgIndexByte.indexByte) := ⟨Tryz.func154, by kernel_rfl, by kernel_rfl, by kernel_rfl, by kernel_rfl⟩
theorem isExt199 : IsExt Tryz.prog 199 Tryz.f199 (Extern.MapsClone.clone) := ⟨Tryz.func199, by kernel_rfl, by kernel_rfl, by kernel_rfl, by kernel_rfl⟩
theorem isExt385 : IsExt Tryz.prog 385 Tryz.f385 (Extern.BytealgCompare.compare) := ⟨Tryz.func385, by kernel_rfl, by kernel_rfl, by kernel_rfl, by kernel_rfl⟩
theorem isExt493 : IsExt Tryz.prog 493 Tryz.f493 (Extern.ReflectliteType.abiMethod fun t => do pure (.int .u8 (← Extern.Rtype.kind t))) := ⟨Tryz.func493, by kernel_rfl, by kernel_rfl, by kernel_rfl, by kernel_rfl⟩
theorem isExt509 : IsExt Tryz.prog 509 Tryz.f509 (Extern.ReflectliteType.relation "AssignableTo" Extern.ReflectliteType.assignableTo) := ⟨Tryz.func509, by kernel_rfl, by kernel_rfl, by kernel_rfl, by kernel_rfl⟩
theorem isExt510 : IsExt Tryz.prog 510 Tryz.f510 (Extern.ReflectliteType.method fun t => do Extern.Rtype.noPackHeld "Comparable" t; pure (.bool (← typeInfo t).comparable)) := ⟨Tryz.func510, by kernel_rfl, by kernel_rfl, by kernel_rfl, by kernel_rfl⟩
theorem isExt511 : IsExt Tryz.prog 511 Tryz.f511 (Extern.ReflectliteType.method Extern.ReflectliteType.elem) := ⟨Tryz.func511, by kernel_rfl, by kernel_rfl, by kernel_rfl, by kernel_rfl⟩
theorem isExt512 : IsExt Tryz.prog 512 Tryz.f512 (Extern.ReflectliteType.relation "Implements" Extern.ReflectliteType.implements_) := ⟨Tryz.func512, by kernel_rfl, by kernel_rfl, by kernel_rfl, by kernel_rfl⟩
theorem sound : X.Sound := by
  refine ⟨by kernel_rfl, fun g x h => (by
    have h : bsel (Nat.beq g 2) (some (.ref (.lit (.iface 264 (.agg #[.pointer (some ⟨9, 38, none⟩)]))))) none = some x := h
    cases hb : Nat.beq g 2
    · rw [hb, bsel_false] at h; cases h
    · rw [hb, bsel_true] at h; cases h; intro M; rfl), fun f g h => ?_⟩
  have h : extF f = some g := h
  unfold extF at h
  cases hb69 : Nat.beq f 69
  · rw [hb69, bsel_false] at h
    cases hb96 : Nat.beq f 96
    · rw [hb96, bsel_false] at h
      cases hb97 : Nat.beq f 97
      · rw [hb97, bsel_false] at h
        cases hb98 : Nat.beq f 98
        · rw [hb98, bsel_false] at h
          cases hb110 : Nat.beq f 110
          · rw [hb110, bsel_false] at h
            cases hb152 : Nat.beq f 152
            · rw [hb152, bsel_false] at h
              cases hb153 : Nat.beq f 153
              · rw [hb153, bsel_false] at h
                cases hb154 : Nat.beq f 154
                · rw [hb154, bsel_false] at h
                  cases hb199 : Nat.beq f 199
                  · rw [hb199, bsel_false] at h
                    cases hb385 : Nat.beq f 385
                    · rw [hb385, bsel_false] at h
                      cases hb493 : Nat.beq f 493
                      · rw [hb493, bsel_false] at h
                        cases hb509 : Nat.beq f 509
                        · rw [hb509, bsel_false] at h
                          cases hb510 : Nat.beq f 510
                          · rw [hb510, bsel_false] at h
                            cases hb511 : Nat.beq f 511
                            · rw [hb511, bsel_false] at h
                              cases hb512 : Nat.beq f 512
                              · rw [hb512, bsel_false] at h
                                cases h
                              · rw [hb512, bsel_true] at h; cases h
                                obtain rfl := Nat.eq_of_beq_eq_true hb512
                                exact pureX_ok (C := cx X 512 fun _ _ _ _ _ => none) isExt512
                            · rw [hb511, bsel_true] at h; cases h
                              obtain rfl := Nat.eq_of_beq_eq_true hb511
                              exact pureX_ok (C := cx X 511 fun _ _ _ _ _ => none) isExt511
                          · rw [hb510, bsel_true] at h; cases h
                            obtain rfl := Nat.eq_of_beq_eq_true hb510
                            exact pureX_ok (C := cx X 510 fun _ _ _ _ _ => none) isExt510
                        · rw [hb509, bsel_true] at h; cases h
                          obtain rfl := Nat.eq_of_beq_eq_true hb509
                          exact pureX_ok (C := cx X 509 fun _ _ _ _ _ => none) isExt509
                      · rw [hb493, bsel_true] at h; cases h
                        obtain rfl := Nat.eq_of_beq_eq_true hb493
                        exact pureX_ok (C := cx X 493 fun _ _ _ _ _ => none) isExt493
                    · rw [hb385, bsel_true] at h; cases h
                      obtain rfl := Nat.eq_of_beq_eq_true hb385
                      exact compareX_ok (C := cx X 385 fun _ _ _ _ _ => none) isExt385
                  · rw [hb199, bsel_true] at h; cases h
                    obtain rfl := Nat.eq_of_beq_eq_true hb199
                    exact cloneX_ok (C := cx X 199 fun _ _ _ _ _ => none) isExt199
                · rw [hb154, bsel_true] at h; cases h
                  obtain rfl := Nat.eq_of_beq_eq_true hb154
                  exact pureX_ok (C := cx X 154 fun _ _ _ _ _ => none) isExt154
              · rw [hb153, bsel_true] at h; cases h
                obtain rfl := Nat.eq_of_beq_eq_true hb153
                exact set_ok (C := cx X 153 fun _ _ _ _ _ => none) isExt153
            · rw [hb152, bsel_true] at h; cases h
              obtain rfl := Nat.eq_of_beq_eq_true hb152
              exact elem_ok (C := cx X 152 fun _ _ _ _ _ => none) isExt152
          · rw [hb110, bsel_true] at h; cases h
            obtain rfl := Nat.eq_of_beq_eq_true hb110
            exact typeOf_ok (C := cx X 110 fun _ _ _ _ _ => none) isExt110
        · rw [hb98, bsel_true] at h; cases h
          obtain rfl := Nat.eq_of_beq_eq_true hb98
          exact isNil_ok (C := cx X 98 fun _ _ _ _ _ => none) isExt98
      · rw [hb97, bsel_true] at h; cases h
        obtain rfl := Nat.eq_of_beq_eq_true hb97
        exact type_ok (C := cx X 97 fun _ _ _ _ _ => none) isExt97
    · rw [hb96, bsel_true] at h; cases h
      obtain rfl := Nat.eq_of_beq_eq_true hb96
      exact valueOf_ok (C := cx X 96 fun _ _ _ _ _ => none) isExt96
  · rw [hb69, bsel_true] at h; cases h
    obtain rfl := Nat.eq_of_beq_eq_true hb69
    exact pureX_ok (C := cx X 69 fun _ _ _ _ _ => none) isExt69
def i (n : Int) : AV := .lit (.int .i64 n)
def bs (l : List Nat) : List AV := l.map fun n => .lit (.int .u8 (Int.ofNat n))
def st (l : List UInt8) : AV := .lit (.string ⟨l.toArray⟩)
def va (l : List Nat) : Value := .agg (l.map fun n => Value.int .u8 (Int.ofNat n)).toArray
def nS : AV := .lit (.slice none 0 0)
def nI : AV := .lit .nilIface
def nP : AV := .lit (.pointer none)
theorem text_ok {C : Cx} (hCP : C.P = Tryz.prog) : CtOk C 10 (.det (textX 32 fun l => hexP (fun k => l.getD k 0) 32)) := by
  refine textX_ok (by rw [hCP]; exact enters_of Tryz.func10 (by kernel_rfl) rfl) fun cells l w h1 h2 h3 => ?_
  rw [hCP]
  have hsz : cells.size = 32 := by rw [← Array.length_toList, h1, List.length_map, h2]
  refine hexText cells (fun k => l.getD k 0) hsz (fun k hk => ?_) (fun k => ?_) w
  · have hkl : k < l.length := by omega
    rw [← Array.getElem?_toList, h1, List.getElem?_map, List.getElem?_eq_getElem hkl]
    simp [List.getD, List.getElem?_eq_getElem hkl]
  · by_cases hk : k < l.length
    · simp only [List.getD, List.getElem?_eq_getElem hk, Option.getD_some]; exact h3 _ (List.getElem_mem hk)
    · simp [List.getD, List.getElem?_eq_none (Nat.le_of_not_lt hk)]
theorem crc_ok {C : Cx} (hCP : C.P = Tryz.prog) : CtOk C 236 (.det (sumX fun l => .int .u32 (4294967295 ^^^ crcL l 4294967295 : Nat))) := by
  refine sumX_ok (by rw [hCP]; exact enters_of Tryz.func236 (by kernel_rfl) rfl) (fun a c w => ?_) fun a l c w h1 h2 h3 => ?_
  · rw [hCP]; exact crcSum0 a c w
  · rw [hCP]; exact crcSum l h1 h2 a c w h3
theorem ws_ok {C : Cx} (hCP : C.P = Tryz.prog) : CtOk C 17 (.det (wsX 43 5)) := wsX_ok (by rw [hCP]; exact enters_of Tryz.func17 (by kernel_rfl) rfl) (by rw [hCP]; exact wsOk)
theorem st_ok {C : Cx} (hCP : C.P = Tryz.prog) : CtOk C 15 (.det (stX 43 5)) := stX_ok (by rw [hCP]; exact enters_of Tryz.func15 (by kernel_rfl) rfl) (by rw [hCP]; exact stOk)
theorem join_ok {C : Cx} (hCP : C.P = Tryz.prog) : CtOk C 11 (.det joinX) := joinX_ok (by rw [hCP]; exact enters_of Tryz.func11 (by kernel_rfl) rfl) (fun a c sep w => by rw [hCP]; exact Tryz.strings_Join_none a c sep w) (fun bk o c xs sep w h1 h2 h3 h4 h5 => by rw [hCP]; exact Tryz.strings_Join bk o c xs sep w h1 h2 h3 h4 h5)
theorem split_ok {C : Cx} (hCP : C.P = Tryz.prog) : CtOk C 18 (.det splitX) := splitX_ok (te := 9) (by rw [hCP]; exact enters_of Tryz.func18 (by kernel_rfl) rfl) (fun s c w hs => by rw [hCP]; exact splitOne s c w hs)
def extXh (f : FuncId) : Option (Go.AS.Id → Nat → List AV → Hp → Option Res) :=
  (bsel (Nat.beq f 10) (some (textX 32 fun l => hexP (fun k => l.getD k 0) 32))
  (bsel (Nat.beq f 236) (some (sumX fun l => .int .u32 (4294967295 ^^^ crcL l 4294967295 : Nat)))
  (bsel (Nat.beq f 17) (some (wsX 43 5))
  (bsel (Nat.beq f 15) (some (stX 43 5))
  (bsel (Nat.beq f 11) (some (joinX))
  (bsel (Nat.beq f 18) (some (splitX)) (extF f)))))))
def Xh : PX := { P := Tryz.prog, gl := fun g => bsel (Nat.beq g 2) (some (.ref (.lit (.iface 264 (.agg #[.pointer (some ⟨9, 38, none⟩)]))))) none, ext := extXh, own := fun _ _ => true, m := 100000 }
theorem sXh : Xh.Sound := by
  refine ⟨sound.mix, sound.gl, fun f g h => ?_⟩
  have h : extXh f = some g := h
  unfold extXh at h
  cases hb10 : Nat.beq f 10
  · rw [hb10, bsel_false] at h
    cases hb236 : Nat.beq f 236
    · rw [hb236, bsel_false] at h
      cases hb17 : Nat.beq f 17
      · rw [hb17, bsel_false] at h
        cases hb15 : Nat.beq f 15
        · rw [hb15, bsel_false] at h
          cases hb11 : Nat.beq f 11
          · rw [hb11, bsel_false] at h
            cases hb18 : Nat.beq f 18
            · rw [hb18, bsel_false] at h
              exact sound.ext f g h
            · rw [hb18, bsel_true] at h; cases h
              obtain rfl := Nat.eq_of_beq_eq_true hb18
              exact split_ok (C := cx Xh 18 fun _ _ _ _ _ => none) rfl
          · rw [hb11, bsel_true] at h; cases h
            obtain rfl := Nat.eq_of_beq_eq_true hb11
            exact join_ok (C := cx Xh 11 fun _ _ _ _ _ => none) rfl
        · rw [hb15, bsel_true] at h; cases h
          obtain rfl := Nat.eq_of_beq_eq_true hb15
          exact st_ok (C := cx Xh 15 fun _ _ _ _ _ => none) rfl
      · rw [hb17, bsel_true] at h; cases h
        obtain rfl := Nat.eq_of_beq_eq_true hb17
        exact ws_ok (C := cx Xh 17 fun _ _ _ _ _ => none) rfl
    · rw [hb236, bsel_true] at h; cases h
      obtain rfl := Nat.eq_of_beq_eq_true hb236
      exact crc_ok (C := cx Xh 236 fun _ _ _ _ _ => none) rfl
  · rw [hb10, bsel_true] at h; cases h
    obtain rfl := Nat.eq_of_beq_eq_true hb10
    exact text_ok (C := cx Xh 10 fun _ _ _ _ _ => none) rfl
def codeOf (fn : Func) : Code := fn.body.getD .skip
def nd228 : NdT := fun _ => none
theorem nd228_ok : ∀ g h, nd228 g = some h → NdOk (cx Xh 228 (S Xh 40)) g h := fun g h hg => by
  have hg : none = some h := hg
  cases hg
def bo228 := bodE 32 (bodyN Xh 228 (S Xh 40) nd228 Tryz.f228 (codeOf Tryz.f228))
theorem bod228 : BodOk Xh 228 bo228 := bodE_ok (bodyN_bod (sXh.walks 40 228) nd228_ok Tryz.func228 (by kernel_rfl) (by kernel_rfl)) 32
def extXl228 (f : FuncId) : Option (Go.AS.Id → Nat → List AV → Hp → Option Res) :=
  (bsel (Nat.beq f 228) (some (fun p _ xs σ => ndF bo228 p xs σ)) (extXh f))
def Xl228 : PX := { P := Tryz.prog, gl := fun g => bsel (Nat.beq g 2) (some (.ref (.lit (.iface 264 (.agg #[.pointer (some ⟨9, 38, none⟩)]))))) none, ext := extXl228, own := fun _ _ => true, m := 100000 }
theorem sXl228 : Xl228.Sound := by
  refine ⟨sound.mix, sound.gl, fun f g h => ?_⟩
  have h : extXl228 f = some g := h
  unfold extXl228 at h
  cases hb228 : Nat.beq f 228
  · rw [hb228, bsel_false] at h
    exact sXh.ext f g h
  · rw [hb228, bsel_true] at h; cases h
    obtain rfl := Nat.eq_of_beq_eq_true hb228
    exact ndF_bod (X := Xh) (C := cx Xl228 228 fun _ _ _ _ _ => none) rfl rfl sound.gl bod228
def nd336 : NdT := fun _ => none
theorem nd336_ok : ∀ g h, nd336 g = some h → NdOk (cx Xl228 336 (S Xl228 40)) g h := fun g h hg => by
  have hg : none = some h := hg
  cases hg
def bo336 := bodE 5 (bodyN Xl228 336 (S Xl228 40) nd336 Tryz.f336 (codeOf Tryz.f336))
theorem bod336 : BodOk Xl228 336 bo336 := bodE_ok (bodyN_bod (sXl228.walks 40 336) nd336_ok Tryz.func336 (by kernel_rfl) (by kernel_rfl)) 5
def extXl336 (f : FuncId) : Option (Go.AS.Id → Nat → List AV → Hp → Option Res) :=
  (bsel (Nat.beq f 336) (some (fun p _ xs σ => ndF bo336 p xs σ)) (extXl228 f))
def Xl336 : PX := { P := Tryz.prog, gl := fun g => bsel (Nat.beq g 2) (some (.ref (.lit (.iface 264 (.agg #[.pointer (some ⟨9, 38, none⟩)]))))) none, ext := extXl336, own := fun _ _ => true, m := 100000 }
theorem sXl336 : Xl336.Sound := by
  refine ⟨sound.mix, sound.gl, fun f g h => ?_⟩
  have h : extXl336 f = some g := h
  unfold extXl336 at h
  cases hb336 : Nat.beq f 336
  · rw [hb336, bsel_false] at h
    exact sXl228.ext f g h
  · rw [hb336, bsel_true] at h; cases h
    obtain rfl := Nat.eq_of_beq_eq_true hb336
    exact ndF_bod (X := Xl228) (C := cx Xl336 336 fun _ _ _ _ _ => none) rfl rfl sound.gl bod336
def bo332 := bodyR Xl336 332 (S Xl336 40) Tryz.f332 (codeOf Tryz.f332)
theorem bod332 : BodOk Xl336 332 bo332 := bodyR_bod (sXl336.walks 40 332) Tryz.func332 (by kernel_rfl) (by kernel_rfl)
def nd257 : NdT := fun g => (bsel (Nat.beq g 332) (some (ndG bo332)) none)
theorem nd257_ok : ∀ g h, nd257 g = some h → NdOk (cx Xl336 257 (S Xl336 40)) g h := fun g h hg => by
  have hg : (bsel (Nat.beq g 332) (some (ndG bo332)) none) = some h := hg
  cases hb332 : Nat.beq g 332
  · rw [hb332, bsel_false] at hg
    cases hg
  · rw [hb332, bsel_true] at hg; cases hg
    obtain rfl := Nat.eq_of_beq_eq_true hb332
    exact ndG_ok rfl rfl sound.gl bod332
def bo257 := bodyN Xl336 257 (S Xl336 40) nd257 Tryz.f257 (codeOf Tryz.f257)
theorem bod257 : BodOk Xl336 257 bo257 := bodyN_bod (sXl336.walks 40 257) nd257_ok Tryz.func257 (by kernel_rfl) (by kernel_rfl)
def nd182 : NdT := fun g => (bsel (Nat.beq g 332) (some (ndG bo332)) (bsel (Nat.beq g 257) (some (ndG bo257)) none))
theorem nd182_ok : ∀ g h, nd182 g = some h → NdOk (cx Xl336 182 (S Xl336 40)) g h := fun g h hg => by
  have hg : (bsel (Nat.beq g 332) (some (ndG bo332)) (bsel (Nat.beq g 257) (some (ndG bo257)) none)) = some h := hg
  cases hb332 : Nat.beq g 332
  · rw [hb332, bsel_false] at hg
    cases hb257 : Nat.beq g 257
    · rw [hb257, bsel_false] at hg
      cases hg
    · rw [hb257, bsel_true] at hg; cases hg
      obtain rfl := Nat.eq_of_beq_eq_true hb257
      exact ndG_ok rfl rfl sound.gl bod257
  · rw [hb332, bsel_true] at hg; cases hg
    obtain rfl := Nat.eq_of_beq_eq_true hb332
    exact ndG_ok rfl rfl sound.gl bod332
def bo182 := bodyN Xl336 182 (S Xl336 40) nd182 Tryz.f182 (codeOf Tryz.f182)
theorem bod182 : BodOk Xl336 182 bo182 := bodyN_bod (sXl336.walks 40 182) nd182_ok Tryz.func182 (by kernel_rfl) (by kernel_rfl)
def extXl182 (f : FuncId) : Option (Go.AS.Id → Nat → List AV → Hp → Option Res) :=
  (bsel (Nat.beq f 182) (some (fun p _ xs σ => ndF bo182 p xs σ)) (extXl336 f))
def Xl182 : PX := { P := Tryz.prog, gl := fun g => bsel (Nat.beq g 2) (some (.ref (.lit (.iface 264 (.agg #[.pointer (some ⟨9, 38, none⟩)]))))) none, ext := extXl182, own := fun _ _ => true, m := 100000 }
theorem sXl182 : Xl182.Sound := by
  refine ⟨sound.mix, sound.gl, fun f g h => ?_⟩
  have h : extXl182 f = some g := h
  unfold extXl182 at h
  cases hb182 : Nat.beq f 182
  · rw [hb182, bsel_false] at h
    exact sXl336.ext f g h
  · rw [hb182, bsel_true] at h; cases h
    obtain rfl := Nat.eq_of_beq_eq_true hb182
    exact ndF_bod (X := Xl336) (C := cx Xl182 182 fun _ _ _ _ _ => none) rfl rfl sound.gl bod182
def nd247 : NdT := fun g => (bsel (Nat.beq g 332) (some (ndG bo332)) (bsel (Nat.beq g 257) (some (ndG bo257)) none))
theorem nd247_ok : ∀ g h, nd247 g = some h → NdOk (cx Xl182 247 (S Xl182 40)) g h := fun g h hg => by
  have hg : (bsel (Nat.beq g 332) (some (ndG bo332)) (bsel (Nat.beq g 257) (some (ndG bo257)) none)) = some h := hg
  cases hb332 : Nat.beq g 332
  · rw [hb332, bsel_false] at hg
    cases hb257 : Nat.beq g 257
    · rw [hb257, bsel_false] at hg
      cases hg
    · rw [hb257, bsel_true] at hg; cases hg
      obtain rfl := Nat.eq_of_beq_eq_true hb257
      exact ndG_ok rfl rfl sound.gl bod257
  · rw [hb332, bsel_true] at hg; cases hg
    obtain rfl := Nat.eq_of_beq_eq_true hb332
    exact ndG_ok rfl rfl sound.gl bod332
def bo247 := bodyN Xl182 247 (S Xl182 40) nd247 Tryz.f247 (codeOf Tryz.f247)
theorem bod247 : BodOk Xl182 247 bo247 := bodyN_bod (sXl182.walks 40 247) nd247_ok Tryz.func247 (by kernel_rfl) (by kernel_rfl)
def extXl247 (f : FuncId) : Option (Go.AS.Id → Nat → List AV → Hp → Option Res) :=
  (bsel (Nat.beq f 247) (some (fun p _ xs σ => ndF bo247 p xs σ)) (extXl182 f))
def Xl247 : PX := { P := Tryz.prog, gl := fun g => bsel (Nat.beq g 2) (some (.ref (.lit (.iface 264 (.agg #[.pointer (some ⟨9, 38, none⟩)]))))) none, ext := extXl247, own := fun _ _ => true, m := 100000 }
theorem sXl247 : Xl247.Sound := by
  refine ⟨sound.mix, sound.gl, fun f g h => ?_⟩
  have h : extXl247 f = some g := h
  unfold extXl247 at h
  cases hb247 : Nat.beq f 247
  · rw [hb247, bsel_false] at h
    exact sXl182.ext f g h
  · rw [hb247, bsel_true] at h; cases h
    obtain rfl := Nat.eq_of_beq_eq_true hb247
    exact ndF_bod (X := Xl182) (C := cx Xl247 247 fun _ _ _ _ _ => none) rfl rfl sound.gl bod247
def nd334 : NdT := fun g => (bsel (Nat.beq g 332) (some (ndG bo332)) (bsel (Nat.beq g 257) (some (ndG bo257)) none))
theorem nd334_ok : ∀ g h, nd334 g = some h → NdOk (cx Xl247 334 (S Xl247 40)) g h := fun g h hg => by
  have hg : (bsel (Nat.beq g 332) (some (ndG bo332)) (bsel (Nat.beq g 257) (some (ndG bo257)) none)) = some h := hg
  cases hb332 : Nat.beq g 332
  · rw [hb332, bsel_false] at hg
    cases hb257 : Nat.beq g 257
    · rw [hb257, bsel_false] at hg
      cases hg
    · rw [hb257, bsel_true] at hg; cases hg
      obtain rfl := Nat.eq_of_beq_eq_true hb257
      exact ndG_ok rfl rfl sound.gl bod257
  · rw [hb332, bsel_true] at hg; cases hg
    obtain rfl := Nat.eq_of_beq_eq_true hb332
    exact ndG_ok rfl rfl sound.gl bod332
def bo334 := bodyN Xl247 334 (S Xl247 40) nd334 Tryz.f334 (codeOf Tryz.f334)
theorem bod334 : BodOk Xl247 334 bo334 := bodyN_bod (sXl247.walks 40 334) nd334_ok Tryz.func334 (by kernel_rfl) (by kernel_rfl)
def extXl334 (f : FuncId) : Option (Go.AS.Id → Nat → List AV → Hp → Option Res) :=
  (bsel (Nat.beq f 334) (some (fun p _ xs σ => ndF bo334 p xs σ)) (extXl247 f))
def Xl334 : PX := { P := Tryz.prog, gl := fun g => bsel (Nat.beq g 2) (some (.ref (.lit (.iface 264 (.agg #[.pointer (some ⟨9, 38, none⟩)]))))) none, ext := extXl334, own := fun _ _ => true, m := 100000 }
theorem sXl334 : Xl334.Sound := by
  refine ⟨sound.mix, sound.gl, fun f g h => ?_⟩
  have h : extXl334 f = some g := h
  unfold extXl334 at h
  cases hb334 : Nat.beq f 334
  · rw [hb334, bsel_false] at h
    exact sXl247.ext f g h
  · rw [hb334, bsel_true] at h; cases h
    obtain rfl := Nat.eq_of_beq_eq_true hb334
    exact ndF_bod (X := Xl247) (C := cx Xl334 334 fun _ _ _ _ _ => none) rfl rfl sound.gl bod334
def nd179 : NdT := fun g => (bsel (Nat.beq g 332) (some (ndG bo332)) (bsel (Nat.beq g 257) (some (ndG bo257)) none))
theorem nd179_ok : ∀ g h, nd179 g = some h → NdOk (cx Xl334 179 (S Xl334 40)) g h := fun g h hg => by
  have hg : (bsel (Nat.beq g 332) (some (ndG bo332)) (bsel (Nat.beq g 257) (some (ndG bo257)) none)) = some h := hg
  cases hb332 : Nat.beq g 332
  · rw [hb332, bsel_false] at hg
    cases hb257 : Nat.beq g 257
    · rw [hb257, bsel_false] at hg
      cases hg
    · rw [hb257, bsel_true] at hg; cases hg
      obtain rfl := Nat.eq_of_beq_eq_true hb257
      exact ndG_ok rfl rfl sound.gl bod257
  · rw [hb332, bsel_true] at hg; cases hg
    obtain rfl := Nat.eq_of_beq_eq_true hb332
    exact ndG_ok rfl rfl sound.gl bod332
def bo179 := bodyN Xl334 179 (S Xl334 40) nd179 Tryz.f179 (codeOf Tryz.f179)
theorem bod179 : BodOk Xl334 179 bo179 := bodyN_bod (sXl334.walks 40 179) nd179_ok Tryz.func179 (by kernel_rfl) (by kernel_rfl)
def extXl179 (f : FuncId) : Option (Go.AS.Id → Nat → List AV → Hp → Option Res) :=
  (bsel (Nat.beq f 179) (some (fun p _ xs σ => ndF bo179 p xs σ)) (extXl334 f))
def Xl179 : PX := { P := Tryz.prog, gl := fun g => bsel (Nat.beq g 2) (some (.ref (.lit (.iface 264 (.agg #[.pointer (some ⟨9, 38, none⟩)]))))) none, ext := extXl179, own := fun _ _ => true, m := 100000 }
theorem sXl179 : Xl179.Sound := by
  refine ⟨sound.mix, sound.gl, fun f g h => ?_⟩
  have h : extXl179 f = some g := h
  unfold extXl179 at h
  cases hb179 : Nat.beq f 179
  · rw [hb179, bsel_false] at h
    exact sXl334.ext f g h
  · rw [hb179, bsel_true] at h; cases h
    obtain rfl := Nat.eq_of_beq_eq_true hb179
    exact ndF_bod (X := Xl334) (C := cx Xl179 179 fun _ _ _ _ _ => none) rfl rfl sound.gl bod179
def nd180 : NdT := fun g => (bsel (Nat.beq g 332) (some (ndG bo332)) (bsel (Nat.beq g 257) (some (ndG bo257)) none))
theorem nd180_ok : ∀ g h, nd180 g = some h → NdOk (cx Xl179 180 (S Xl179 40)) g h := fun g h hg => by
  have hg : (bsel (Nat.beq g 332) (some (ndG bo332)) (bsel (Nat.beq g 257) (some (ndG bo257)) none)) = some h := hg
  cases hb332 : Nat.beq g 332
  · rw [hb332, bsel_false] at hg
    cases hb257 : Nat.beq g 257
    · rw [hb257, bsel_false] at hg
      cases hg
    · rw [hb257, bsel_true] at hg; cases hg
      obtain rfl := Nat.eq_of_beq_eq_true hb257
      exact ndG_ok rfl rfl sound.gl bod257
  · rw [hb332, bsel_true] at hg; cases hg
    obtain rfl := Nat.eq_of_beq_eq_true hb332
    exact ndG_ok rfl rfl sound.gl bod332
def bo180 := bodyN Xl179 180 (S Xl179 40) nd180 Tryz.f180 (codeOf Tryz.f180)
theorem bod180 : BodOk Xl179 180 bo180 := bodyN_bod (sXl179.walks 40 180) nd180_ok Tryz.func180 (by kernel_rfl) (by kernel_rfl)
def extXl180 (f : FuncId) : Option (Go.AS.Id → Nat → List AV → Hp → Option Res) :=
  (bsel (Nat.beq f 180) (some (fun p _ xs σ => ndF bo180 p xs σ)) (extXl179 f))
def Xl180 : PX := { P := Tryz.prog, gl := fun g => bsel (Nat.beq g 2) (some (.ref (.lit (.iface 264 (.agg #[.pointer (some ⟨9, 38, none⟩)]))))) none, ext := extXl180, own := fun _ _ => true, m := 100000 }
theorem sXl180 : Xl180.Sound := by
  refine ⟨sound.mix, sound.gl, fun f g h => ?_⟩
  have h : extXl180 f = some g := h
  unfold extXl180 at h
  cases hb180 : Nat.beq f 180
  · rw [hb180, bsel_false] at h
    exact sXl179.ext f g h
  · rw [hb180, bsel_true] at h; cases h
    obtain rfl := Nat.eq_of_beq_eq_true hb180
    exact ndF_bod (X := Xl179) (C := cx Xl180 180 fun _ _ _ _ _ => none) rfl rfl sound.gl bod180
end
end Known27
end Go.Proofs.YtnenknghinpliaaGreatDoor
