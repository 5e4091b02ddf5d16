/- The law ClientKnown: the program as the walk knows it, with tables of what some functions answer. No condition. -/
import Derived.Test.YtjigieojedmhoaaGreatDoorCKB0
import Derived.Test.YtjigieojedmhoaaGreatDoorCKB1
import Derived.Test.YtjigieojedmhoaaGreatDoorCKB2
import Derived.Test.YtjigieojedmhoaaGreatDoorCKB3
namespace Go.Proofs.YtjigieojedmhoaaGreatDoor
open Go.AS
namespace ClientKnown
noncomputable section

def ask21 : List AV × AV := ([.lst false 1 [.lit (.int .u8 1), .lit (.int .u8 0), .lit (.int .u8 0), .lit (.int .u8 0), .lit (.int .u8 1), .lit (.int .u8 2), .lit (.int .u8 1), .lit (.int .u8 64), .lit (.int .u8 97), .lit (.int .u8 98), .lit (.int .u8 48), .lit (.int .u8 48), .lit (.int .u8 48), .lit (.int .u8 55), .lit (.int .u8 48), .lit (.int .u8 48), .lit (.int .u8 48), .lit (.int .u8 48), .lit (.int .u8 48), .lit (.int .u8 48), .lit (.int .u8 48), .lit (.int .u8 48), .lit (.int .u8 48), .lit (.int .u8 48), .lit (.int .u8 48), .lit (.int .u8 48), .lit (.int .u8 48), .lit (.int .u8 48), .lit (.int .u8 48), .lit (.int .u8 48), .lit (.int .u8 48), .lit (.int .u8 48), .lit (.int .u8 48), .lit (.int .u8 48), .lit (.int .u8 48), .lit (.int .u8 48), .lit (.int .u8 48), .lit (.int .u8 48), .lit (.int .u8 48), .lit (.int .u8 48), .lit (.int .u8 48), .lit (.int .u8 48), .lit (.int .u8 48), .lit (.int .u8 48), .lit (.int .u8 48), .lit (.int .u8 48), .lit (.int .u8 48), .lit (.int .u8 48), .lit (.int .u8 48), .lit (.int .u8 48), .lit (.int .u8 48), .lit (.int .u8 48), .lit (.int .u8 48), .lit (.int .u8 48), .lit (.int .u8 48), .lit (.int .u8 48), .lit (.int .u8 48), .lit (.int .u8 48), .lit (.int .u8 48), .lit (.int .u8 48), .lit (.int .u8 48), .lit (.int .u8 48), .lit (.int .u8 48), .lit (.int .u8 48), .lit (.int .u8 48), .lit (.int .u8 48), .lit (.int .u8 48), .lit (.int .u8 48), .lit (.int .u8 48), .lit (.int .u8 48), .lit (.int .u8 48), .lit (.int .u8 49)]], .lit (.int .u32 1755783582))
theorem plain21 : noMem ask21.2 = true := by kernel_rfl
theorem run21 : firstR (S X 100 165 ask21.1 1 .nil []) = some ask21.2 := by kernel_rfl
def ask22 : List AV × AV := ([.lit (.string ⟨#[48, 48]⟩)], .lit (.bool true))
theorem plain22 : noMem ask22.2 = true := by kernel_rfl
theorem run22 : firstR (S X 100 142 ask22.1 1 .nil []) = some ask22.2 := by kernel_rfl
def ask23 : List AV × AV := ([.lst false 1 [.lit (.int .u8 1), .lit (.int .u8 0), .lit (.int .u8 0), .lit (.int .u8 0), .lit (.int .u8 2), .lit (.int .u8 2), .lit (.int .u8 1), .lit (.int .u8 2), .lit (.int .u8 48), .lit (.int .u8 48)]], .lit (.int .u32 2045199479))
theorem plain23 : noMem ask23.2 = true := by kernel_rfl
theorem run23 : firstR (S X 100 165 ask23.1 1 .nil []) = some ask23.2 := by kernel_rfl
def ask24 : List AV × AV := ([.lst false 1 [.lit (.int .u8 1), .lit (.int .u8 0), .lit (.int .u8 0), .lit (.int .u8 0), .lit (.int .u8 2), .lit (.int .u8 2), .lit (.int .u8 1), .lit (.int .u8 2), .lit (.int .u8 48), .lit (.int .u8 48)]], .lit (.int .u32 2045199479))
theorem plain24 : noMem ask24.2 = true := by kernel_rfl
theorem run24 : firstR (S X 100 154 ask24.1 1 .nil []) = some ask24.2 := by kernel_rfl
def ask25 : List AV × AV := ([.agg [.lit (.int .u8 160), .lit (.int .u8 0), .lit (.int .u8 14), .lit (.int .u8 0), .lit (.int .u8 0), .lit (.int .u8 0), .lit (.int .u8 0), .lit (.int .u8 0), .lit (.int .u8 0), .lit (.int .u8 0), .lit (.int .u8 0), .lit (.int .u8 0), .lit (.int .u8 0), .lit (.int .u8 0), .lit (.int .u8 0), .lit (.int .u8 0), .lit (.int .u8 0), .lit (.int .u8 0), .lit (.int .u8 0), .lit (.int .u8 0), .lit (.int .u8 0), .lit (.int .u8 0), .lit (.int .u8 0), .lit (.int .u8 0), .lit (.int .u8 0), .lit (.int .u8 0), .lit (.int .u8 0), .lit (.int .u8 0), .lit (.int .u8 0), .lit (.int .u8 0), .lit (.int .u8 0), .lit (.int .u8 2)]], .lit (.string ⟨#[97, 48, 48, 48, 48, 101, 48, 48, 48, 48, 48, 48, 48, 48, 48, 48, 48, 48, 48, 48, 48, 48, 48, 48, 48, 48, 48, 48, 48, 48, 48, 48, 48, 48, 48, 48, 48, 48, 48, 48, 48, 48, 48, 48, 48, 48, 48, 48, 48, 48, 48, 48, 48, 48, 48, 48, 48, 48, 48, 48, 48, 48, 48, 50]⟩))
theorem plain25 : noMem ask25.2 = true := by kernel_rfl
theorem run25 : firstR (S X 100 14 ask25.1 1 .nil []) = some ask25.2 := by kernel_rfl
def ask26 : List AV × AV := ([.agg [.lit (.int .u8 171), .lit (.int .u8 0), .lit (.int .u8 0), .lit (.int .u8 0), .lit (.int .u8 0), .lit (.int .u8 0), .lit (.int .u8 0), .lit (.int .u8 0), .lit (.int .u8 0), .lit (.int .u8 0), .lit (.int .u8 0), .lit (.int .u8 0), .lit (.int .u8 0), .lit (.int .u8 0), .lit (.int .u8 0), .lit (.int .u8 0), .lit (.int .u8 0), .lit (.int .u8 0), .lit (.int .u8 0), .lit (.int .u8 0), .lit (.int .u8 0), .lit (.int .u8 0), .lit (.int .u8 0), .lit (.int .u8 0), .lit (.int .u8 0), .lit (.int .u8 0), .lit (.int .u8 0), .lit (.int .u8 0), .lit (.int .u8 0), .lit (.int .u8 0), .lit (.int .u8 0), .lit (.int .u8 0)]], .lit (.string ⟨#[97, 98, 48, 48, 48, 48, 48, 48, 48, 48, 48, 48, 48, 48, 48, 48, 48, 48, 48, 48, 48, 48, 48, 48, 48, 48, 48, 48, 48, 48, 48, 48, 48, 48, 48, 48, 48, 48, 48, 48, 48, 48, 48, 48, 48, 48, 48, 48, 48, 48, 48, 48, 48, 48, 48, 48, 48, 48, 48, 48, 48, 48, 48, 48]⟩))
theorem plain26 : noMem ask26.2 = true := by kernel_rfl
theorem run26 : firstR (S X 100 14 ask26.1 1 .nil []) = some ask26.2 := by kernel_rfl
def ask27 : List AV × AV := ([.lst false 1 [.lit (.int .u8 2), .lit (.int .u8 0), .lit (.int .u8 0), .lit (.int .u8 0), .lit (.int .u8 2), .lit (.int .u8 2), .lit (.int .u8 1), .lit (.int .u8 2), .lit (.int .u8 48), .lit (.int .u8 48), .lit (.int .u8 2)]], .lit (.int .u32 1811344251))
theorem plain27 : noMem ask27.2 = true := by kernel_rfl
theorem run27 : firstR (S X 100 154 ask27.1 1 .nil []) = some ask27.2 := by kernel_rfl
def ask28 : List AV × AV := ([.lst false 1 [.lit (.int .u8 2), .lit (.int .u8 0), .lit (.int .u8 0), .lit (.int .u8 0), .lit (.int .u8 2), .lit (.int .u8 2), .lit (.int .u8 1), .lit (.int .u8 2), .lit (.int .u8 48), .lit (.int .u8 48), .lit (.int .u8 2)]], .lit (.int .u32 1811344251))
theorem plain28 : noMem ask28.2 = true := by kernel_rfl
theorem run28 : firstR (S X 100 165 ask28.1 1 .nil []) = some ask28.2 := by kernel_rfl
def ask29 : List AV × AV := ([.lst false 1 [.lit (.int .u8 2), .lit (.int .u8 0), .lit (.int .u8 0), .lit (.int .u8 0), .lit (.int .u8 2), .lit (.int .u8 2), .lit (.int .u8 1), .lit (.int .u8 2), .lit (.int .u8 48), .lit (.int .u8 48), .lit (.int .u8 2), .lit (.int .u8 107), .lit (.int .u8 246), .lit (.int .u8 235), .lit (.int .u8 123)], .lst false 1 [.lit (.int .u8 2), .lit (.int .u8 0), .lit (.int .u8 0), .lit (.int .u8 0), .lit (.int .u8 2), .lit (.int .u8 2), .lit (.int .u8 1), .lit (.int .u8 2), .lit (.int .u8 48), .lit (.int .u8 48), .lit (.int .u8 2), .lit (.int .u8 107), .lit (.int .u8 246), .lit (.int .u8 235), .lit (.int .u8 123)]], .lit (.bool true))
theorem plain29 : noMem ask29.2 = true := by kernel_rfl
theorem run29 : firstR (S X 100 60 ask29.1 1 .nil []) = some ask29.2 := by kernel_rfl
def tab14 : List (List AV × AV) := [ask19, ask25, ask26]
theorem tab14_ok : ∀ e ∈ tab14, noMem e.2 = true ∧ firstR (S X 100 14 e.1 1 .nil []) = some e.2 := by
  intro e he
  simp only [tab14, List.mem_cons, List.not_mem_nil, or_false] at he
  rcases he with rfl | rfl | rfl
  · exact ⟨plain19, run19⟩
  · exact ⟨plain25, run25⟩
  · exact ⟨plain26, run26⟩
def tab26 : List (List AV × AV) := [ask10]
theorem tab26_ok : ∀ e ∈ tab26, noMem e.2 = true ∧ firstR (S X 100 26 e.1 1 .nil []) = some e.2 := by
  intro e he
  simp only [tab26, List.mem_cons, List.not_mem_nil, or_false] at he
  rcases he with rfl
  · exact ⟨plain10, run10⟩
def tab60 : List (List AV × AV) := [ask1, ask12, ask17, ask29]
theorem tab60_ok : ∀ e ∈ tab60, noMem e.2 = true ∧ firstR (S X 100 60 e.1 1 .nil []) = some e.2 := by
  intro e he
  simp only [tab60, List.mem_cons, List.not_mem_nil, or_false] at he
  rcases he with rfl | rfl | rfl | rfl
  · exact ⟨plain1, run1⟩
  · exact ⟨plain12, run12⟩
  · exact ⟨plain17, run17⟩
  · exact ⟨plain29, run29⟩
def tab109 : List (List AV × AV) := [ask0, ask11]
theorem tab109_ok : ∀ e ∈ tab109, noMem e.2 = true ∧ firstR (S X 100 109 e.1 1 .nil []) = some e.2 := by
  intro e he
  simp only [tab109, List.mem_cons, List.not_mem_nil, or_false] at he
  rcases he with rfl | rfl
  · exact ⟨plain0, run0⟩
  · exact ⟨plain11, run11⟩
def tab142 : List (List AV × AV) := [ask20, ask22]
theorem tab142_ok : ∀ e ∈ tab142, noMem e.2 = true ∧ firstR (S X 100 142 e.1 1 .nil []) = some e.2 := by
  intro e he
  simp only [tab142, List.mem_cons, List.not_mem_nil, or_false] at he
  rcases he with rfl | rfl
  · exact ⟨plain20, run20⟩
  · exact ⟨plain22, run22⟩
def tab154 : List (List AV × AV) := [ask14, ask15, ask24, ask27]
theorem tab154_ok : ∀ e ∈ tab154, noMem e.2 = true ∧ firstR (S X 100 154 e.1 1 .nil []) = some e.2 := by
  intro e he
  simp only [tab154, List.mem_cons, List.not_mem_nil, or_false] at he
  rcases he with rfl | rfl | rfl | rfl
  · exact ⟨plain14, run14⟩
  · exact ⟨plain15, run15⟩
  · exact ⟨plain24, run24⟩
  · exact ⟨plain27, run27⟩
def tab165 : List (List AV × AV) := [ask13, ask16, ask21, ask23, ask28]
theorem tab165_ok : ∀ e ∈ tab165, noMem e.2 = true ∧ firstR (S X 100 165 e.1 1 .nil []) = some e.2 := by
  intro e he
  simp only [tab165, List.mem_cons, List.not_mem_nil, or_false] at he
  rcases he with rfl | rfl | rfl | rfl | rfl
  · exact ⟨plain13, run13⟩
  · exact ⟨plain16, run16⟩
  · exact ⟨plain21, run21⟩
  · exact ⟨plain23, run23⟩
  · exact ⟨plain28, run28⟩
def tab187 : List (List AV × AV) := [ask2, ask3, ask4, ask5, ask6, ask7, ask8]
theorem tab187_ok : ∀ e ∈ tab187, noMem e.2 = true ∧ firstR (S X 100 187 e.1 1 .nil []) = some e.2 := by
  intro e he
  simp only [tab187, List.mem_cons, List.not_mem_nil, or_false] at he
  rcases he with rfl | rfl | rfl | rfl | rfl | rfl | rfl
  · exact ⟨plain2, run2⟩
  · exact ⟨plain3, run3⟩
  · exact ⟨plain4, run4⟩
  · exact ⟨plain5, run5⟩
  · exact ⟨plain6, run6⟩
  · exact ⟨plain7, run7⟩
  · exact ⟨plain8, run8⟩
def extF0a (f : FuncId) : Option (Go.AS.Id → Nat → List AV → Hp → Option Res) :=
  (bsel (Nat.beq f 14) (some (lendT tab14))
  (bsel (Nat.beq f 26) (some (lendT tab26))
  (bsel (Nat.beq f 60) (some (lendT tab60))
  (bsel (Nat.beq f 109) (some (lendT tab109))
  (bsel (Nat.beq f 142) (some (lendT tab142))
  (bsel (Nat.beq f 154) (some (lendT tab154))
  (bsel (Nat.beq f 165) (some (lendT tab165))
  (bsel (Nat.beq f 187) (some (lendT tab187)) (extF f)))))))))
def X0a : PX := { P := Tryz.prog, gl := fun g => bsel (Nat.beq g 0) (some (.ref (.lit (.iface 293 (.agg #[.pointer (some ⟨7, 24, none⟩)]))))) none, ext := extF0a, own := fun _ _ => true, m := 100000 }
theorem sound0a : X0a.Sound := by
  refine ⟨sound.mix, sound.gl, fun f g h => ?_⟩
  have h : extF0a f = some g := h
  unfold extF0a at h
  cases hb14 : Nat.beq f 14
  · rw [hb14, bsel_false] at h
    cases hb26 : Nat.beq f 26
    · rw [hb26, bsel_false] at h
      cases hb60 : Nat.beq f 60
      · rw [hb60, bsel_false] at h
        cases hb109 : Nat.beq f 109
        · rw [hb109, bsel_false] at h
          cases hb142 : Nat.beq f 142
          · rw [hb142, bsel_false] at h
            cases hb154 : Nat.beq f 154
            · rw [hb154, bsel_false] at h
              cases hb165 : Nat.beq f 165
              · rw [hb165, bsel_false] at h
                cases hb187 : Nat.beq f 187
                · rw [hb187, bsel_false] at h
                  exact sound.ext f g h
                · rw [hb187, bsel_true] at h; cases h
                  obtain rfl := Nat.eq_of_beq_eq_true hb187
                  exact lendT_ok sound tab187_ok
              · rw [hb165, bsel_true] at h; cases h
                obtain rfl := Nat.eq_of_beq_eq_true hb165
                exact lendT_ok sound tab165_ok
            · rw [hb154, bsel_true] at h; cases h
              obtain rfl := Nat.eq_of_beq_eq_true hb154
              exact lendT_ok sound tab154_ok
          · rw [hb142, bsel_true] at h; cases h
            obtain rfl := Nat.eq_of_beq_eq_true hb142
            exact lendT_ok sound tab142_ok
        · rw [hb109, bsel_true] at h; cases h
          obtain rfl := Nat.eq_of_beq_eq_true hb109
          exact lendT_ok sound tab109_ok
      · rw [hb60, bsel_true] at h; cases h
        obtain rfl := Nat.eq_of_beq_eq_true hb60
        exact lendT_ok sound tab60_ok
    · rw [hb26, bsel_true] at h; cases h
      obtain rfl := Nat.eq_of_beq_eq_true hb26
      exact lendT_ok sound tab26_ok
  · rw [hb14, bsel_true] at h; cases h
    obtain rfl := Nat.eq_of_beq_eq_true hb14
    exact lendT_ok sound tab14_ok
end
end ClientKnown
end Go.Proofs.YtjigieojedmhoaaGreatDoor
