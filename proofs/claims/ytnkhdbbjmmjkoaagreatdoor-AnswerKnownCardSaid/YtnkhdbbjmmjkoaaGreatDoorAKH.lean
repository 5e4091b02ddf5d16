/- The law AnswerKnown: functions of the program proved otherwise than by the walk alone. No condition. -/
import Derived.Test.YtnkhdbbjmmjkoaaGreatDoorAKA
import Derived.Test.YtnkhdbbjmmjkoaaGreatDoorASst
import Derived.Test.YtnkhdbbjmmjkoaaGreatDoorHX
import Derived.Test.YtnkhdbbjmmjkoaaGreatDoorASrj
namespace Go.Proofs.YtnkhdbbjmmjkoaaGreatDoor
open Go.AS
namespace AnswerKnown
noncomputable section

theorem text_ok {C : Cx} (hCP : C.P = Tryz.prog) : CtOk C 226 (.det (textX 32 fun l => hexP (fun k => l.getD k 0) 32)) := by
  refine textX_ok (by rw [hCP]; exact enters_of Tryz.func226 (by kernel_rfl) rfl) fun cells l w h1 h2 h3 => ?_
  rw [hCP]
  have hsz : cells.size = 32 := by rw [← Array.length_toList, h1, List.length_map, h2]
  refine hexText cells (fun k => l.getD k 0) hsz (fun k hk => ?_) (fun k => ?_) w
  · have hkl : k < l.length := by omega
    rw [← Array.getElem?_toList, h1, List.getElem?_map, List.getElem?_eq_getElem hkl]
    simp [List.getD, List.getElem?_eq_getElem hkl]
  · by_cases hk : k < l.length
    · simp only [List.getD, List.getElem?_eq_getElem hk, Option.getD_some]; exact h3 _ (List.getElem_mem hk)
    · simp [List.getD, List.getElem?_eq_none (Nat.le_of_not_lt hk)]
theorem walks (f : FuncId) : (cx X f (S X 40)).Sound := sound.walks 40 f
def codeOf (fn : Func) : Code := fn.body.getD .skip
def appF := bodyR X 197 (S X 40) Tryz.f197 (codeOf Tryz.f197)
theorem app_bod : BodOk X 197 appF := bodyR_bod (walks 197) Tryz.func197 (by kernel_rfl) (by kernel_rfl)
def ndA : NdT := fun g => bsel (Nat.beq g 197) (some (ndG appF)) none
def colF := bodyN X 162 (S X 40) ndA Tryz.f162 (codeOf Tryz.f162)
theorem ndA_ok (f : FuncId) : ∀ g h, ndA g = some h → NdOk (cx X f (S X 40)) g h := fun g h hg => by
  obtain ⟨h1, h2⟩ := bsel_some hg
  cases h2
  obtain rfl := Nat.eq_of_beq_eq_true h1
  exact ndG_ok rfl rfl sound.gl app_bod
theorem col_bod : BodOk X 162 colF := bodyN_bod (walks 162) (ndA_ok 162) Tryz.func162 (by kernel_rfl) (by kernel_rfl)
def ndC : NdT := fun g => bsel (Nat.beq g 162) (some (ndG colF)) none
def hasF := bodyN X 118 (S X 40) ndC Tryz.f118 (codeOf Tryz.f118)
theorem ndC_ok (f : FuncId) : ∀ g h, ndC g = some h → NdOk (cx X f (S X 40)) g h := fun g h hg => by
  obtain ⟨h1, h2⟩ := bsel_some hg
  cases h2
  obtain rfl := Nat.eq_of_beq_eq_true h1
  exact ndG_ok rfl rfl sound.gl col_bod
theorem has_bod : BodOk X 118 hasF := bodyN_bod (walks 118) (ndC_ok 118) Tryz.func118 (by kernel_rfl) (by kernel_rfl)
def extFh (f : FuncId) : Option (Go.AS.Id → Nat → List AV → Hp → Option Res) :=
  (bsel (Nat.beq f 226) (some (textX 32 fun l => hexP (fun k => l.getD k 0) 32))
  (bsel (Nat.beq f 118) (some (fun p _ xs σ => ndF hasF p xs σ)) (extF f)))
def Xh : PX := { P := Tryz.prog, gl := fun g => bsel (Nat.beq g 0) (some (.ref (.lit (.iface 257 (.agg #[.pointer (some ⟨2, 36, none⟩)]))))) none, ext := extFh, own := fun _ _ => true, m := 100000 }
theorem soundh : Xh.Sound := by
  refine ⟨sound.mix, sound.gl, fun f g h => ?_⟩
  have h : extFh f = some g := h
  unfold extFh at h
  cases hb226 : Nat.beq f 226
  · rw [hb226, bsel_false] at h
    cases hb118 : Nat.beq f 118
    · rw [hb118, bsel_false] at h
      exact sound.ext f g h
    · rw [hb118, bsel_true] at h; cases h
      obtain rfl := Nat.eq_of_beq_eq_true hb118
      exact ndF_bod (X := X) (C := cx Xh 118 fun _ _ _ _ _ => none) rfl rfl sound.gl has_bod
  · rw [hb226, bsel_true] at h; cases h
    obtain rfl := Nat.eq_of_beq_eq_true hb226
    exact text_ok (C := cx Xh 226 fun _ _ _ _ _ => none) rfl
end
end AnswerKnown
end Go.Proofs.YtnkhdbbjmmjkoaaGreatDoor
