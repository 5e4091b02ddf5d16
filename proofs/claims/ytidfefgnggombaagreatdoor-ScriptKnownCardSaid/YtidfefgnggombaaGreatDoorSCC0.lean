/- The law ScriptKnown: the program as the walk knows it, with tables of what some functions answer. No condition. -/
import Derived.Test.YtidfefgnggombaaGreatDoorSCA
namespace Go.Proofs.YtidfefgnggombaaGreatDoor
open Go.AS
namespace ScriptKnown
noncomputable section

def ask0 : List AV × AV := ([.agg y0], st [97,98,48,48,48,48,48,48,48,48,48,48,48,48,48,48,48,48,48,48,48,48,48,48,48,48,48,48,48,48,48,48,48,48,48,48,48,48,48,48,48,48,48,48,48,48,48,48,48,48,48,48,48,48,48,48,48,48,48,48,48,48,48,48])
theorem plain0 : noMem ask0.2 = true := by kernel_rfl
theorem run0 : firstR (S Xl179 100 4 ask0.1 1 .nil []) = some ask0.2 := by kernel_rfl
def ask1 : List AV × AV := ([.agg y1], st [97,98,48,48,48,55,48,48,48,48,48,48,48,48,48,48,48,48,48,48,48,48,48,48,48,48,48,48,48,48,48,48,48,48,48,48,48,48,48,48,48,48,48,48,48,48,48,48,48,48,48,48,48,48,48,48,48,48,48,48,48,48,48,49])
theorem plain1 : noMem ask1.2 = true := by kernel_rfl
theorem run1 : firstR (S Xl179 100 4 ask1.1 1 .nil []) = some ask1.2 := by kernel_rfl
def ask2 : List AV × AV := ([st [97,98,48,48,48,48,48,48,48,48,48,48,48,48,48,48,48,48,48,48,48,48,48,48,48,48,48,48,48,48,48,48,48,48,48,48,48,48,48,48,48,48,48,48,48,48,48,48,48,48,48,48,48,48,48,48,48,48,48,48,48,48,48,48]], .lit (.bool true))
theorem plain2 : noMem ask2.2 = true := by kernel_rfl
theorem run2 : firstR (S Xl179 100 69 ask2.1 1 .nil []) = some ask2.2 := by kernel_rfl
def ask4 : List AV × AV := ([st [97,98,48,48,48,55,48,48,48,48,48,48,48,48,48,48,48,48,48,48,48,48,48,48,48,48,48,48,48,48,48,48,48,48,48,48,48,48,48,48,48,48,48,48,48,48,48,48,48,48,48,48,48,48,48,48,48,48,48,48,48,48,48,49]], .lit (.bool true))
theorem plain4 : noMem ask4.2 = true := by kernel_rfl
theorem run4 : firstR (S Xl179 100 69 ask4.1 1 .nil []) = some ask4.2 := by kernel_rfl
def ask6 : List AV × AV := ([.agg [.lst false 5 [.agg [i 0, i 1, nS, .lit (.bool true), .lit (.bool true)]], .lst false 32 [.agg y1], i 2]], .lit (.bool true))
theorem plain6 : noMem ask6.2 = true := by kernel_rfl
theorem run6 : firstR (S Xl179 100 270 ask6.1 1 .nil []) = some ask6.2 := by kernel_rfl
def ask7 : List AV × AV := ([.lst false 1 y3, .lst false 1 y3], .lit (.bool true))
theorem plain7 : noMem ask7.2 = true := by kernel_rfl
theorem run7 : firstR (S Xl179 100 164 ask7.1 1 .nil []) = some ask7.2 := by kernel_rfl
def tab4 : List (List AV × AV) := [ask0, ask1]
theorem tab4_ok : ∀ e ∈ tab4, noMem e.2 = true ∧ firstR (S Xl179 100 4 e.1 1 .nil []) = some e.2 := by
  intro e he
  simp only [tab4, List.mem_cons, List.not_mem_nil, or_false] at he
  rcases he with rfl | rfl
  · exact ⟨plain0, run0⟩
  · exact ⟨plain1, run1⟩
def tab69 : List (List AV × AV) := [ask2, ask4]
theorem tab69_ok : ∀ e ∈ tab69, noMem e.2 = true ∧ firstR (S Xl179 100 69 e.1 1 .nil []) = some e.2 := by
  intro e he
  simp only [tab69, List.mem_cons, List.not_mem_nil, or_false] at he
  rcases he with rfl | rfl
  · exact ⟨plain2, run2⟩
  · exact ⟨plain4, run4⟩
def tab164 : List (List AV × AV) := [ask7]
theorem tab164_ok : ∀ e ∈ tab164, noMem e.2 = true ∧ firstR (S Xl179 100 164 e.1 1 .nil []) = some e.2 := by
  intro e he
  simp only [tab164, List.mem_cons, List.not_mem_nil, or_false] at he
  rcases he with rfl
  · exact ⟨plain7, run7⟩
def tab270 : List (List AV × AV) := [ask6]
theorem tab270_ok : ∀ e ∈ tab270, noMem e.2 = true ∧ firstR (S Xl179 100 270 e.1 1 .nil []) = some e.2 := by
  intro e he
  simp only [tab270, List.mem_cons, List.not_mem_nil, or_false] at he
  rcases he with rfl
  · exact ⟨plain6, run6⟩
def extF0a (f : FuncId) : Option (Go.AS.Id → Nat → List AV → Hp → Option Res) :=
  (bsel (Nat.beq f 4) (some (lendT tab4))
  (bsel (Nat.beq f 69) (some (lendT tab69))
  (bsel (Nat.beq f 164) (some (lendT tab164))
  (bsel (Nat.beq f 270) (some (lendT tab270)) (extXl179 f)))))
def X0a : PX := { P := Tryz.prog, gl := fun g => bsel (Nat.beq g 0) (some (.ref (.lit (.iface 143 (.agg #[.pointer (some ⟨9, 27, none⟩)]))))) none, ext := extF0a, own := fun _ _ => true, m := 100000 }
theorem sound0a : X0a.Sound := by
  refine ⟨sXl179.mix, sXl179.gl, fun f g h => ?_⟩
  have h : extF0a f = some g := h
  unfold extF0a at h
  cases hb4 : Nat.beq f 4
  · rw [hb4, bsel_false] at h
    cases hb69 : Nat.beq f 69
    · rw [hb69, bsel_false] at h
      cases hb164 : Nat.beq f 164
      · rw [hb164, bsel_false] at h
        cases hb270 : Nat.beq f 270
        · rw [hb270, bsel_false] at h
          exact sXl179.ext f g h
        · rw [hb270, bsel_true] at h; cases h
          obtain rfl := Nat.eq_of_beq_eq_true hb270
          exact lendT_ok sXl179 tab270_ok
      · rw [hb164, bsel_true] at h; cases h
        obtain rfl := Nat.eq_of_beq_eq_true hb164
        exact lendT_ok sXl179 tab164_ok
    · rw [hb69, bsel_true] at h; cases h
      obtain rfl := Nat.eq_of_beq_eq_true hb69
      exact lendT_ok sXl179 tab69_ok
  · rw [hb4, bsel_true] at h; cases h
    obtain rfl := Nat.eq_of_beq_eq_true hb4
    exact lendT_ok sXl179 tab4_ok
def ask3 : List AV × AV := ([st [97,98,48,48,48,48,48,48,48,48,48,48,48,48,48,48,48,48,48,48,48,48,48,48,48,48,48,48,48,48,48,48,48,48,48,48,48,48,48,48,48,48,48,48,48,48,48,48,48,48,48,48,48,48,48,48,48,48,48,48,48,48,48,48]], .tup [.agg y0, nI])
theorem plain3 : noMem ask3.2 = true := by kernel_rfl
theorem run3 : firstR (S X0a 100 43 ask3.1 1 .nil []) = some ask3.2 := by kernel_rfl
def ask5 : List AV × AV := ([st [97,98,48,48,48,55,48,48,48,48,48,48,48,48,48,48,48,48,48,48,48,48,48,48,48,48,48,48,48,48,48,48,48,48,48,48,48,48,48,48,48,48,48,48,48,48,48,48,48,48,48,48,48,48,48,48,48,48,48,48,48,48,48,49]], .tup [.agg y1, nI])
theorem plain5 : noMem ask5.2 = true := by kernel_rfl
theorem run5 : firstR (S X0a 100 43 ask5.1 1 .nil []) = some ask5.2 := by kernel_rfl
def ask19 : MsE := ⟨[.ptr 1048578 [1, 0] 0 0], [(1048577, ⟨[0, 0], .map true [] 0 [] []⟩), (1048578, ⟨[1, 0], .row false 1 [.agg [.mp 1048577 [0, 0]]]⟩)], nS, []⟩
theorem run19 : canF (S X0a 100 181) [1] ask19.ys (hpOf ask19.h) = some ⟨ask19.x, ask19.upd, true⟩ := by kernel_rfl
def ask23 : MsE := ⟨[.ptr 1048579 [2, 0] 0 0], [(1048577, ⟨[0, 0], .row true 32 [.agg y0]⟩), (1048578, ⟨[1, 0], .map false [0, 1] 2 [z2, z1] [nS, .slc 1048577 [0, 0] 0 1]⟩), (1048579, ⟨[2, 0], .row false 1 [.agg [.mp 1048578 [1, 0]]]⟩)], .slc 2097156 [3, 1] 0 2, [(2097156, ⟨[3, 1], .row true 32 [.agg y0, .agg y1]⟩)]⟩
theorem run23 : canF (S X0a 100 181) [1] ask23.ys (hpOf ask23.h) = some ⟨ask23.x, ask23.upd, true⟩ := by kernel_rfl
def ask24 : MsE := ⟨[.ptr 1048577 [0, 0] 0 0, .agg y0, i 0], [(1048577, ⟨[0, 0], .row true 2 [.agg [nP, i 0]]⟩)], .lit (.bool true), [(1048577, ⟨[0, 0], .row false 2 [.agg [.ptr 2097154 [1, 1] 0 0, i 1]]⟩), (2097154, ⟨[1, 1], .row true 51 [.agg [.agg [nP, nP, nP, nP, nP, nP, nP, nP, nP, nP, nP, nP, nP, nP, nP, nP], .lit (.bool true), .agg y0, i 0, i 0]]⟩)]⟩
theorem run24 : canF (S X0a 100 185) [1] ask24.ys (hpOf ask24.h) = some ⟨ask24.x, ask24.upd, true⟩ := by kernel_rfl
def ask25 : MsE := ⟨[.ptr 1048578 [1, 0] 0 0, .agg y1, i 1], [(1048577, ⟨[0, 0], .row true 51 [.agg [.agg [nP, nP, nP, nP, nP, nP, nP, nP, nP, nP, nP, nP, nP, nP, nP, nP], .lit (.bool true), .agg y0, i 0, i 0]]⟩), (1048578, ⟨[1, 0], .row false 2 [.agg [.ptr 1048577 [0, 0] 0 0, i 1]]⟩)], .lit (.bool true), [(1048578, ⟨[1, 0], .row false 2 [.agg [.ptr 2097161 [8, 1] 0 0, i 2]]⟩), (2097155, ⟨[2, 1], .row true 51 [.agg [.agg [nP, nP, nP, nP, nP, nP, nP, nP, nP, nP, nP, nP, nP, nP, nP, nP], .lit (.bool true), .agg y1, i 1, i 0]]⟩), (2097156, ⟨[3, 1], .row false 51 [.agg [.agg [.ptr 1048577 [0, 0] 0 0, nP, nP, nP, nP, nP, nP, .ptr 2097155 [2, 1] 0 0, nP, nP, nP, nP, nP, nP, nP, nP], .lit (.bool false), .lit (z0), i 0, i 0]]⟩), (2097157, ⟨[4, 1], .row false 51 [.agg [.agg [.ptr 2097156 [3, 1] 0 0, nP, nP, nP, nP, nP, nP, nP, nP, nP, nP, nP, nP, nP, nP, nP], .lit (.bool false), .lit (z0), i 0, i 0]]⟩), (2097158, ⟨[5, 1], .row false 51 [.agg [.agg [.ptr 2097157 [4, 1] 0 0, nP, nP, nP, nP, nP, nP, nP, nP, nP, nP, nP, nP, nP, nP, nP], .lit (.bool false), .lit (z0), i 0, i 0]]⟩), (2097159, ⟨[6, 1], .row false 51 [.agg [.agg [.ptr 2097158 [5, 1] 0 0, nP, nP, nP, nP, nP, nP, nP, nP, nP, nP, nP, nP, nP, nP, nP], .lit (.bool false), .lit (z0), i 0, i 0]]⟩), (2097160, ⟨[7, 1], .row false 51 [.agg [.agg [nP, nP, nP, nP, nP, nP, nP, nP, nP, nP, nP, .ptr 2097159 [6, 1] 0 0, nP, nP, nP, nP], .lit (.bool false), .lit (z0), i 0, i 0]]⟩), (2097161, ⟨[8, 1], .row false 51 [.agg [.agg [nP, nP, nP, nP, nP, nP, nP, nP, nP, nP, .ptr 2097160 [7, 1] 0 0, nP, nP, nP, nP, nP], .lit (.bool false), .lit (z0), i 0, i 0]]⟩)]⟩
theorem run25 : canF (S X0a 100 185) [1] ask25.ys (hpOf ask25.h) = some ⟨ask25.x, ask25.upd, true⟩ := by kernel_rfl
def ask36 : MsE := ⟨[.ptr 1048580 [3, 0] 0 0, .slc 1048577 [0, 0] 0 1], [(1048577, ⟨[0, 0], .row true 32 [.agg y0]⟩), (1048578, ⟨[1, 0], .row true 32 [.agg y0]⟩), (1048579, ⟨[2, 0], .map false [0, 1] 2 [z2, z1] [nS, .slc 1048578 [1, 0] 0 1]⟩), (1048580, ⟨[3, 0], .row false 1 [.agg [.mp 1048579 [2, 0]]]⟩)], .slc 2097157 [4, 1] 0 2, [(2097157, ⟨[4, 1], .row true 32 [.agg y0, .agg y1]⟩)]⟩
theorem run36 : canF (S X0a 100 178) [1] ask36.ys (hpOf ask36.h) = some ⟨ask36.x, ask36.upd, true⟩ := by kernel_rfl
def tab43 : List (List AV × AV) := [ask3, ask5]
theorem tab43_ok : ∀ e ∈ tab43, noMem e.2 = true ∧ firstR (S X0a 100 43 e.1 1 .nil []) = some e.2 := by
  intro e he
  simp only [tab43, List.mem_cons, List.not_mem_nil, or_false] at he
  rcases he with rfl | rfl
  · exact ⟨plain3, run3⟩
  · exact ⟨plain5, run5⟩
def tab178 : List MsE := [ask36]
theorem tab178_ok : ∀ e ∈ tab178, MsOk X0a 100 178 e := by
  intro e he
  simp only [tab178, List.mem_cons, List.not_mem_nil, or_false] at he
  rcases he with rfl
  · exact run36
def tab181 : List MsE := [ask19, ask23]
theorem tab181_ok : ∀ e ∈ tab181, MsOk X0a 100 181 e := by
  intro e he
  simp only [tab181, List.mem_cons, List.not_mem_nil, or_false] at he
  rcases he with rfl | rfl
  · exact run19
  · exact run23
def tab185 : List MsE := [ask24, ask25]
theorem tab185_ok : ∀ e ∈ tab185, MsOk X0a 100 185 e := by
  intro e he
  simp only [tab185, List.mem_cons, List.not_mem_nil, or_false] at he
  rcases he with rfl | rfl
  · exact run24
  · exact run25
def extF1a (f : FuncId) : Option (Go.AS.Id → Nat → List AV → Hp → Option Res) :=
  (bsel (Nat.beq f 43) (some (lendT tab43))
  (bsel (Nat.beq f 178) (some (msX tab178))
  (bsel (Nat.beq f 181) (some (msX tab181))
  (bsel (Nat.beq f 185) (some (msX tab185)) (extF0a f)))))
def X1a : PX := { P := Tryz.prog, gl := fun g => bsel (Nat.beq g 0) (some (.ref (.lit (.iface 143 (.agg #[.pointer (some ⟨9, 27, none⟩)]))))) none, ext := extF1a, own := fun _ _ => true, m := 100000 }
theorem sound1a : X1a.Sound := by
  refine ⟨sound0a.mix, sound0a.gl, fun f g h => ?_⟩
  have h : extF1a f = some g := h
  unfold extF1a at h
  cases hb43 : Nat.beq f 43
  · rw [hb43, bsel_false] at h
    cases hb178 : Nat.beq f 178
    · rw [hb178, bsel_false] at h
      cases hb181 : Nat.beq f 181
      · rw [hb181, bsel_false] at h
        cases hb185 : Nat.beq f 185
        · rw [hb185, bsel_false] at h
          exact sound0a.ext f g h
        · rw [hb185, bsel_true] at h; cases h
          obtain rfl := Nat.eq_of_beq_eq_true hb185
          exact msX_ok sound0a tab185_ok
      · rw [hb181, bsel_true] at h; cases h
        obtain rfl := Nat.eq_of_beq_eq_true hb181
        exact msX_ok sound0a tab181_ok
    · rw [hb178, bsel_true] at h; cases h
      obtain rfl := Nat.eq_of_beq_eq_true hb178
      exact msX_ok sound0a tab178_ok
  · rw [hb43, bsel_true] at h; cases h
    obtain rfl := Nat.eq_of_beq_eq_true hb43
    exact lendT_ok sound0a tab43_ok
def ask21 : MsE := ⟨[.ptr 1048581 [4, 0] 0 0, .agg [.slc 1048579 [2, 0] 0 2, .slc 1048577 [0, 0] 0 1, i 1]], [(1048577, ⟨[0, 0], .row true 32 [.agg y1]⟩), (1048578, ⟨[1, 0], .row true 32 [.agg y0]⟩), (1048579, ⟨[2, 0], .row false 33 [.agg [.agg y0, nS], .agg [.agg y1, .slc 1048578 [1, 0] 0 1]]⟩), (1048580, ⟨[3, 0], .map true [] 0 [] []⟩), (1048581, ⟨[4, 0], .row false 1 [.agg [.mp 1048580 [3, 0]]]⟩)], .tup [.mp 2097159 [6, 1], nI], [(2097158, ⟨[5, 1], .row true 32 [.agg y0]⟩), (2097159, ⟨[6, 1], .map false [0, 1] 2 [z2, z1] [nS, .slc 2097158 [5, 1] 0 1]⟩)]⟩
theorem run21 : canF (S X1a 100 238) [1] ask21.ys (hpOf ask21.h) = some ⟨ask21.x, ask21.upd, true⟩ := by kernel_rfl
def ask22 : MsE := ⟨[.ptr 1048580 [3, 0] 0 0, .agg [.slc 1048578 [1, 0] 0 2, nS, i 2]], [(1048577, ⟨[0, 0], .row true 32 [.agg y0]⟩), (1048578, ⟨[1, 0], .row false 33 [.agg [.agg y0, nS], .agg [.agg y1, .slc 1048577 [0, 0] 0 1]]⟩), (1048579, ⟨[2, 0], .map true [] 0 [] []⟩), (1048580, ⟨[3, 0], .row false 1 [.agg [.mp 1048579 [2, 0]]]⟩)], .tup [.mp 2097158 [5, 1], nI], [(2097157, ⟨[4, 1], .row true 32 [.agg y0]⟩), (2097158, ⟨[5, 1], .map false [0, 1] 2 [z2, z1] [nS, .slc 2097157 [4, 1] 0 1]⟩)]⟩
theorem run22 : canF (S X1a 100 238) [1] ask22.ys (hpOf ask22.h) = some ⟨ask22.x, ask22.upd, true⟩ := by kernel_rfl
def ask27 : MsE := ⟨[.agg [.slc 1048578 [1, 0] 0 2, nS], i 2], [(1048577, ⟨[0, 0], .row true 1 [i 0]⟩), (1048578, ⟨[1, 0], .row false 1 [nS, .slc 1048577 [0, 0] 0 1]⟩)], .ptr 2097158 [5, 1] 0 0, [(2097155, ⟨[2, 1], .row true 2 [.agg [i 0, i 1]]⟩), (2097156, ⟨[3, 1], .row true 5 [.agg [i 0, i 1, nS, .lit (.bool true), .lit (.bool true)]]⟩), (2097157, ⟨[4, 1], .row false 1 [.slc 2097156 [3, 1] 0 1]⟩), (2097158, ⟨[5, 1], .row false 3 [.agg [.slc 2097157 [4, 1] 0 1, .slc 2097155 [2, 1] 0 1, i 0]]⟩)]⟩
theorem run27 : canF (S X1a 100 134) [1] ask27.ys (hpOf ask27.h) = some ⟨ask27.x, ask27.upd, true⟩ := by kernel_rfl
def ask28 : MsE := ⟨[st [58,58,97,98,48,48,48,55,48,48,48,48,48,48,48,48,48,48,48,48,48,48,48,48,48,48,48,48,48,48,48,48,48,48,48,48,48,48,48,48,48,48,48,48,48,48,48,48,48,48,48,48,48,48,48,48,48,48,48,48,48,48,48,48,48,49]], [], .tup [.agg [i 6, i 0, i 0, st [], .slc 2097153 [0, 1] 0 1], nI], [(2097153, ⟨[0, 1], .row true 5 [.agg [i 1, i 2, i 0, st [97,98,48,48,48,55,48,48,48,48,48,48,48,48,48,48,48,48,48,48,48,48,48,48,48,48,48,48,48,48,48,48,48,48,48,48,48,48,48,48,48,48,48,48,48,48,48,48,48,48,48,48,48,48,48,48,48,48,48,48,48,48,48,49], nS]]⟩)]⟩
theorem run28 : canF (S X1a 100 206) [1] ask28.ys (hpOf ask28.h) = some ⟨ask28.x, ask28.upd, true⟩ := by kernel_rfl
def ask33 : MsE := ⟨[st [104,101,97,100,115,40,97,108,108,40,41,41]], [], .tup [.agg [i 10, i 0, i 0, st [104,101,97,100,115], .slc 2097153 [0, 1] 0 1], nI], [(2097153, ⟨[0, 1], .row true 5 [.agg [i 10, i 6, i 0, st [97,108,108], nS]]⟩)]⟩
theorem run33 : canF (S X1a 100 206) [1] ask33.ys (hpOf ask33.h) = some ⟨ask33.x, ask33.upd, true⟩ := by kernel_rfl
def ask38 : MsE := ⟨[.agg [nS, nS], i 2], [], .ptr 2097154 [1, 1] 0 0, [(2097153, ⟨[0, 1], .row true 1 [.lst false 5 []]⟩), (2097154, ⟨[1, 1], .row false 3 [.agg [.slc 2097153 [0, 1] 0 1, nS, i 0]]⟩)]⟩
theorem run38 : canF (S X1a 100 134) [1] ask38.ys (hpOf ask38.h) = some ⟨ask38.x, ask38.upd, true⟩ := by kernel_rfl
def ask39 : MsE := ⟨[st [97,108,108,40,41]], [], .tup [.agg [i 10, i 0, i 0, st [97,108,108], nS], nI], []⟩
theorem run39 : canF (S X1a 100 206) [1] ask39.ys (hpOf ask39.h) = some ⟨ask39.x, ask39.upd, true⟩ := by kernel_rfl
def ask41 : MsE := ⟨[st []], [], .tup [.agg [i 0, i 0, i 0, st [], nS], .iface 498 (.ptr 2097153 [0, 1] 0 0)], [(2097153, ⟨[0, 1], .row true 2 [.agg [i 0, .iface 31 (i 15)]]⟩)]⟩
theorem run41 : canF (S X1a 100 206) [1] ask41.ys (hpOf ask41.h) = some ⟨ask41.x, ask41.upd, true⟩ := by kernel_rfl
def tab134 : List MsE := [ask27, ask38]
theorem tab134_ok : ∀ e ∈ tab134, MsOk X1a 100 134 e := by
  intro e he
  simp only [tab134, List.mem_cons, List.not_mem_nil, or_false] at he
  rcases he with rfl | rfl
  · exact run27
  · exact run38
def tab206 : List MsE := [ask28, ask33, ask39, ask41]
theorem tab206_ok : ∀ e ∈ tab206, MsOk X1a 100 206 e := by
  intro e he
  simp only [tab206, List.mem_cons, List.not_mem_nil, or_false] at he
  rcases he with rfl | rfl | rfl | rfl
  · exact run28
  · exact run33
  · exact run39
  · exact run41
def tab238 : List MsE := [ask21, ask22]
theorem tab238_ok : ∀ e ∈ tab238, MsOk X1a 100 238 e := by
  intro e he
  simp only [tab238, List.mem_cons, List.not_mem_nil, or_false] at he
  rcases he with rfl | rfl
  · exact run21
  · exact run22
def extF2a (f : FuncId) : Option (Go.AS.Id → Nat → List AV → Hp → Option Res) :=
  (bsel (Nat.beq f 134) (some (msX tab134))
  (bsel (Nat.beq f 206) (some (msX tab206))
  (bsel (Nat.beq f 238) (some (msX tab238)) (extF1a f))))
def X2a : PX := { P := Tryz.prog, gl := fun g => bsel (Nat.beq g 0) (some (.ref (.lit (.iface 143 (.agg #[.pointer (some ⟨9, 27, none⟩)]))))) none, ext := extF2a, own := fun _ _ => true, m := 100000 }
theorem sound2a : X2a.Sound := by
  refine ⟨sound1a.mix, sound1a.gl, fun f g h => ?_⟩
  have h : extF2a f = some g := h
  unfold extF2a at h
  cases hb134 : Nat.beq f 134
  · rw [hb134, bsel_false] at h
    cases hb206 : Nat.beq f 206
    · rw [hb206, bsel_false] at h
      cases hb238 : Nat.beq f 238
      · rw [hb238, bsel_false] at h
        exact sound1a.ext f g h
      · rw [hb238, bsel_true] at h; cases h
        obtain rfl := Nat.eq_of_beq_eq_true hb238
        exact msX_ok sound1a tab238_ok
    · rw [hb206, bsel_true] at h; cases h
      obtain rfl := Nat.eq_of_beq_eq_true hb206
      exact msX_ok sound1a tab206_ok
  · rw [hb134, bsel_true] at h; cases h
    obtain rfl := Nat.eq_of_beq_eq_true hb134
    exact msX_ok sound1a tab134_ok
def ask20 : MsE := ⟨[.ptr 1048579 [2, 0] 0 0, i 9], [(1048577, ⟨[0, 0], .map true [] 0 [] []⟩), (1048578, ⟨[1, 0], .map true [] 0 [] []⟩), (1048579, ⟨[2, 0], .row false 7 [.agg [i 100000, .mp 1048578 [1, 0], .mp 1048577 [0, 0], nS, i (-1), .lit (.bool false), i 0]]⟩)], .tup [.ptr 2097163 [10, 1] 0 0, nI], [(2097156, ⟨[3, 1], .row false 3 [.agg [.ptr 1048579 [2, 0] 0 0, st [105,110,100,101,120], nS]]⟩), (2097157, ⟨[4, 1], .row false 3 [.agg [.ptr 1048579 [2, 0] 0 0, st [117,112,100,97,116,101,115], nS]]⟩), (2097158, ⟨[5, 1], .row true 2 [.agg [nP, i 0]]⟩), (2097159, ⟨[6, 1], .map true [] 0 [] []⟩), (2097160, ⟨[7, 1], .row false 4 [.agg [i 9, nS, nS, .mp 2097159 [6, 1]]]⟩), (2097161, ⟨[8, 1], .map true [] 0 [] []⟩), (2097162, ⟨[9, 1], .row false 1 [.agg [.mp 2097161 [8, 1]]]⟩), (2097163, ⟨[10, 1], .row false 11 [.agg [.ptr 1048579 [2, 0] 0 0, .ptr 2097162 [9, 1] 0 0, .ptr 2097160 [7, 1] 0 0, .ptr 2097158 [5, 1] 0 0, .ptr 2097157 [4, 1] 0 0, .ptr 2097156 [3, 1] 0 0, .lit (.agg #[.int .i64 0, .int .i64 0]), i 0, nS, .lit (.bool false)]]⟩)]⟩
theorem run20 : canF (S X2a 100 27) [1] ask20.ys (hpOf ask20.h) = some ⟨ask20.x, ask20.upd, true⟩ := by kernel_rfl
def ask26 : MsE := ⟨[.ptr 1048590 [13, 0] 0 0, .agg [.slc 1048579 [2, 0] 0 2, .slc 1048577 [0, 0] 0 1, i 1]], [(1048577, ⟨[0, 0], .row true 32 [.agg y1]⟩), (1048578, ⟨[1, 0], .row true 32 [.agg y0]⟩), (1048579, ⟨[2, 0], .row false 33 [.agg [.agg y0, nS], .agg [.agg y1, .slc 1048578 [1, 0] 0 1]]⟩), (1048580, ⟨[3, 0], .row false 3 [.agg [.ptr 1048589 [12, 0] 0 0, st [105,110,100,101,120], nS]]⟩), (1048581, ⟨[4, 0], .row false 3 [.agg [.ptr 1048589 [12, 0] 0 0, st [117,112,100,97,116,101,115], nS]]⟩), (1048582, ⟨[5, 0], .row true 2 [.agg [nP, i 0]]⟩), (1048583, ⟨[6, 0], .map true [] 0 [] []⟩), (1048584, ⟨[7, 0], .row false 4 [.agg [i 9, nS, nS, .mp 1048583 [6, 0]]]⟩), (1048585, ⟨[8, 0], .map true [] 0 [] []⟩), (1048586, ⟨[9, 0], .row false 1 [.agg [.mp 1048585 [8, 0]]]⟩), (1048587, ⟨[10, 0], .map true [] 0 [] []⟩), (1048588, ⟨[11, 0], .map true [] 0 [] []⟩), (1048589, ⟨[12, 0], .row false 7 [.agg [i 100000, .mp 1048588 [11, 0], .mp 1048587 [10, 0], nS, i (-1), .lit (.bool false), i 0]]⟩), (1048590, ⟨[13, 0], .row false 11 [.agg [.ptr 1048589 [12, 0] 0 0, .ptr 1048586 [9, 0] 0 0, .ptr 1048584 [7, 0] 0 0, .ptr 1048582 [5, 0] 0 0, .ptr 1048581 [4, 0] 0 0, .ptr 1048580 [3, 0] 0 0, .lit (.agg #[.int .i64 0, .int .i64 0]), i 0, nS, .lit (.bool false)]]⟩)], nI, [(1048582, ⟨[5, 0], .row false 2 [.agg [.ptr 2097183 [30, 1] 0 0, i 2]]⟩), (1048590, ⟨[13, 0], .row false 11 [.agg [.ptr 1048589 [12, 0] 0 0, .ptr 2097175 [22, 1] 0 0, .ptr 2097172 [19, 1] 0 0, .ptr 1048582 [5, 0] 0 0, .ptr 1048581 [4, 0] 0 0, .ptr 1048580 [3, 0] 0 0, .lit (.agg #[.int .i64 0, .int .i64 0]), i 0, .slc 2097168 [15, 1] 0 1, .lit (.bool false)]]⟩), (2097167, ⟨[14, 1], .row false 1 y2⟩), (2097168, ⟨[15, 1], .row false 2 [.agg [i 1, .slc 2097167 [14, 1] 0 133]]⟩), (2097169, ⟨[16, 1], .map true [0, 1] 2 [z2, z1] [i 0, i 1]⟩), (2097170, ⟨[17, 1], .row true 32 []⟩), (2097171, ⟨[18, 1], .row true 32 [.agg y0, .agg y1]⟩), (2097172, ⟨[19, 1], .row false 4 [.agg [i 9, .slc 2097171 [18, 1] 0 2, .slc 2097170 [17, 1] 0 0, .mp 2097169 [16, 1]]]⟩), (2097173, ⟨[20, 1], .row true 32 [.agg y0]⟩), (2097174, ⟨[21, 1], .map false [0, 1] 2 [z2, z1] [nS, .slc 2097173 [20, 1] 0 1]⟩), (2097175, ⟨[22, 1], .row false 1 [.agg [.mp 2097174 [21, 1]]]⟩), (2097176, ⟨[23, 1], .row true 51 [.agg [.agg [nP, nP, nP, nP, nP, nP, nP, nP, nP, nP, nP, nP, nP, nP, nP, nP], .lit (.bool true), .agg y1, i 1, i 0]]⟩), (2097177, ⟨[24, 1], .row true 51 [.agg [.agg [nP, nP, nP, nP, nP, nP, nP, nP, nP, nP, nP, nP, nP, nP, nP, nP], .lit (.bool true), .agg y0, i 0, i 0]]⟩), (2097178, ⟨[25, 1], .row false 51 [.agg [.agg [.ptr 2097177 [24, 1] 0 0, nP, nP, nP, nP, nP, nP, .ptr 2097176 [23, 1] 0 0, nP, nP, nP, nP, nP, nP, nP, nP], .lit (.bool false), .lit (z0), i 0, i 0]]⟩), (2097179, ⟨[26, 1], .row false 51 [.agg [.agg [.ptr 2097178 [25, 1] 0 0, nP, nP, nP, nP, nP, nP, nP, nP, nP, nP, nP, nP, nP, nP, nP], .lit (.bool false), .lit (z0), i 0, i 0]]⟩), (2097180, ⟨[27, 1], .row false 51 [.agg [.agg [.ptr 2097179 [26, 1] 0 0, nP, nP, nP, nP, nP, nP, nP, nP, nP, nP, nP, nP, nP, nP, nP], .lit (.bool false), .lit (z0), i 0, i 0]]⟩), (2097181, ⟨[28, 1], .row false 51 [.agg [.agg [.ptr 2097180 [27, 1] 0 0, nP, nP, nP, nP, nP, nP, nP, nP, nP, nP, nP, nP, nP, nP, nP], .lit (.bool false), .lit (z0), i 0, i 0]]⟩), (2097182, ⟨[29, 1], .row false 51 [.agg [.agg [nP, nP, nP, nP, nP, nP, nP, nP, nP, nP, nP, .ptr 2097181 [28, 1] 0 0, nP, nP, nP, nP], .lit (.bool false), .lit (z0), i 0, i 0]]⟩), (2097183, ⟨[30, 1], .row false 51 [.agg [.agg [nP, nP, nP, nP, nP, nP, nP, nP, nP, nP, .ptr 2097182 [29, 1] 0 0, nP, nP, nP, nP, nP], .lit (.bool false), .lit (z0), i 0, i 0]]⟩)]⟩
theorem run26 : canF (S X2a 100 83) [1] ask26.ys (hpOf ask26.h) = some ⟨ask26.x, ask26.upd, true⟩ := by kernel_rfl
def ask37 : MsE := ⟨[.ptr 1048601 [24, 0] 0 0, .slc 1048577 [0, 0] 0 1], [(1048577, ⟨[0, 0], .row true 32 [.agg y0]⟩), (1048578, ⟨[1, 0], .row false 1 y2⟩), (1048579, ⟨[2, 0], .row false 2 [.agg [i 1, .slc 1048578 [1, 0] 0 133]]⟩), (1048580, ⟨[3, 0], .row false 3 [.agg [.ptr 1048600 [23, 0] 0 0, st [105,110,100,101,120], nS]]⟩), (1048581, ⟨[4, 0], .row false 3 [.agg [.ptr 1048600 [23, 0] 0 0, st [117,112,100,97,116,101,115], nS]]⟩), (1048582, ⟨[5, 0], .row true 51 [.agg [.agg [nP, nP, nP, nP, nP, nP, nP, nP, nP, nP, nP, nP, nP, nP, nP, nP], .lit (.bool true), .agg y1, i 1, i 0]]⟩), (1048583, ⟨[6, 0], .row true 51 [.agg [.agg [nP, nP, nP, nP, nP, nP, nP, nP, nP, nP, nP, nP, nP, nP, nP, nP], .lit (.bool true), .agg y0, i 0, i 0]]⟩), (1048584, ⟨[7, 0], .row false 51 [.agg [.agg [.ptr 1048583 [6, 0] 0 0, nP, nP, nP, nP, nP, nP, .ptr 1048582 [5, 0] 0 0, nP, nP, nP, nP, nP, nP, nP, nP], .lit (.bool false), .lit (z0), i 0, i 0]]⟩), (1048585, ⟨[8, 0], .row false 51 [.agg [.agg [.ptr 1048584 [7, 0] 0 0, nP, nP, nP, nP, nP, nP, nP, nP, nP, nP, nP, nP, nP, nP, nP], .lit (.bool false), .lit (z0), i 0, i 0]]⟩), (1048586, ⟨[9, 0], .row false 51 [.agg [.agg [.ptr 1048585 [8, 0] 0 0, nP, nP, nP, nP, nP, nP, nP, nP, nP, nP, nP, nP, nP, nP, nP], .lit (.bool false), .lit (z0), i 0, i 0]]⟩), (1048587, ⟨[10, 0], .row false 51 [.agg [.agg [.ptr 1048586 [9, 0] 0 0, nP, nP, nP, nP, nP, nP, nP, nP, nP, nP, nP, nP, nP, nP, nP], .lit (.bool false), .lit (z0), i 0, i 0]]⟩), (1048588, ⟨[11, 0], .row false 51 [.agg [.agg [nP, nP, nP, nP, nP, nP, nP, nP, nP, nP, nP, .ptr 1048587 [10, 0] 0 0, nP, nP, nP, nP], .lit (.bool false), .lit (z0), i 0, i 0]]⟩), (1048589, ⟨[12, 0], .row false 51 [.agg [.agg [nP, nP, nP, nP, nP, nP, nP, nP, nP, nP, .ptr 1048588 [11, 0] 0 0, nP, nP, nP, nP, nP], .lit (.bool false), .lit (z0), i 0, i 0]]⟩), (1048590, ⟨[13, 0], .row false 2 [.agg [.ptr 1048589 [12, 0] 0 0, i 2]]⟩), (1048591, ⟨[14, 0], .map true [0, 1] 2 [z2, z1] [i 0, i 1]⟩), (1048592, ⟨[15, 0], .row true 32 []⟩), (1048593, ⟨[16, 0], .row true 32 [.agg y0, .agg y1]⟩), (1048594, ⟨[17, 0], .row false 4 [.agg [i 9, .slc 1048593 [16, 0] 0 2, .slc 1048592 [15, 0] 0 0, .mp 1048591 [14, 0]]]⟩), (1048595, ⟨[18, 0], .row true 32 [.agg y0]⟩), (1048596, ⟨[19, 0], .map false [0, 1] 2 [z2, z1] [nS, .slc 1048595 [18, 0] 0 1]⟩), (1048597, ⟨[20, 0], .row false 1 [.agg [.mp 1048596 [19, 0]]]⟩), (1048598, ⟨[21, 0], .map true [] 0 [] []⟩), (1048599, ⟨[22, 0], .map true [] 0 [] []⟩), (1048600, ⟨[23, 0], .row false 7 [.agg [i 100000, .mp 1048599 [22, 0], .mp 1048598 [21, 0], nS, i (-1), .lit (.bool false), i 0]]⟩), (1048601, ⟨[24, 0], .row false 11 [.agg [.ptr 1048600 [23, 0] 0 0, .ptr 1048597 [20, 0] 0 0, .ptr 1048594 [17, 0] 0 0, .ptr 1048590 [13, 0] 0 0, .ptr 1048581 [4, 0] 0 0, .ptr 1048580 [3, 0] 0 0, .lit (.agg #[.int .i64 0, .int .i64 0]), i 0, .slc 1048579 [2, 0] 0 1, .lit (.bool false)]]⟩)], .tup [nS, .iface 477 (.ptr 2097178 [25, 1] 0 0)], [(2097178, ⟨[25, 1], .row true 33 [.agg [.agg y0, .iface 31 (i 19)]]⟩)]⟩
theorem run37 : canF (S X2a 100 147) [1] ask37.ys (hpOf ask37.h) = some ⟨ask37.x, ask37.upd, true⟩ := by kernel_rfl
def ask45 : MsE := ⟨[.ptr 1048579 [2, 0] 0 0, i 9], [(1048577, ⟨[0, 0], .map true [] 0 [] []⟩), (1048578, ⟨[1, 0], .map true [] 0 [] []⟩), (1048579, ⟨[2, 0], .row false 7 [.agg [i 10000, .mp 1048578 [1, 0], .mp 1048577 [0, 0], nS, i (-1), .lit (.bool false), i 0]]⟩)], .tup [.ptr 2097163 [10, 1] 0 0, nI], [(2097156, ⟨[3, 1], .row false 3 [.agg [.ptr 1048579 [2, 0] 0 0, st [105,110,100,101,120], nS]]⟩), (2097157, ⟨[4, 1], .row false 3 [.agg [.ptr 1048579 [2, 0] 0 0, st [117,112,100,97,116,101,115], nS]]⟩), (2097158, ⟨[5, 1], .row true 2 [.agg [nP, i 0]]⟩), (2097159, ⟨[6, 1], .map true [] 0 [] []⟩), (2097160, ⟨[7, 1], .row false 4 [.agg [i 9, nS, nS, .mp 2097159 [6, 1]]]⟩), (2097161, ⟨[8, 1], .map true [] 0 [] []⟩), (2097162, ⟨[9, 1], .row false 1 [.agg [.mp 2097161 [8, 1]]]⟩), (2097163, ⟨[10, 1], .row false 11 [.agg [.ptr 1048579 [2, 0] 0 0, .ptr 2097162 [9, 1] 0 0, .ptr 2097160 [7, 1] 0 0, .ptr 2097158 [5, 1] 0 0, .ptr 2097157 [4, 1] 0 0, .ptr 2097156 [3, 1] 0 0, .lit (.agg #[.int .i64 0, .int .i64 0]), i 0, nS, .lit (.bool false)]]⟩)]⟩
theorem run45 : canF (S X2a 100 27) [1] ask45.ys (hpOf ask45.h) = some ⟨ask45.x, ask45.upd, true⟩ := by kernel_rfl
def tab27 : List MsE := [ask20, ask45]
theorem tab27_ok : ∀ e ∈ tab27, MsOk X2a 100 27 e := by
  intro e he
  simp only [tab27, List.mem_cons, List.not_mem_nil, or_false] at he
  rcases he with rfl | rfl
  · exact run20
  · exact run45
def tab83 : List MsE := [ask26]
theorem tab83_ok : ∀ e ∈ tab83, MsOk X2a 100 83 e := by
  intro e he
  simp only [tab83, List.mem_cons, List.not_mem_nil, or_false] at he
  rcases he with rfl
  · exact run26
def tab147 : List MsE := [ask37]
theorem tab147_ok : ∀ e ∈ tab147, MsOk X2a 100 147 e := by
  intro e he
  simp only [tab147, List.mem_cons, List.not_mem_nil, or_false] at he
  rcases he with rfl
  · exact run37
def extF3a (f : FuncId) : Option (Go.AS.Id → Nat → List AV → Hp → Option Res) :=
  (bsel (Nat.beq f 27) (some (msX tab27))
  (bsel (Nat.beq f 83) (some (msX tab83))
  (bsel (Nat.beq f 147) (some (msX tab147)) (extF2a f))))
def X3a : PX := { P := Tryz.prog, gl := fun g => bsel (Nat.beq g 0) (some (.ref (.lit (.iface 143 (.agg #[.pointer (some ⟨9, 27, none⟩)]))))) none, ext := extF3a, own := fun _ _ => true, m := 100000 }
theorem sound3a : X3a.Sound := by
  refine ⟨sound2a.mix, sound2a.gl, fun f g h => ?_⟩
  have h : extF3a f = some g := h
  unfold extF3a at h
  cases hb27 : Nat.beq f 27
  · rw [hb27, bsel_false] at h
    cases hb83 : Nat.beq f 83
    · rw [hb83, bsel_false] at h
      cases hb147 : Nat.beq f 147
      · rw [hb147, bsel_false] at h
        exact sound2a.ext f g h
      · rw [hb147, bsel_true] at h; cases h
        obtain rfl := Nat.eq_of_beq_eq_true hb147
        exact msX_ok sound2a tab147_ok
    · rw [hb83, bsel_true] at h; cases h
      obtain rfl := Nat.eq_of_beq_eq_true hb83
      exact msX_ok sound2a tab83_ok
  · rw [hb27, bsel_true] at h; cases h
    obtain rfl := Nat.eq_of_beq_eq_true hb27
    exact msX_ok sound2a tab27_ok
def ask29 : MsE := ⟨[.ptr 1048601 [24, 0] 0 0, st [58,58,97,98,48,48,48,55,48,48,48,48,48,48,48,48,48,48,48,48,48,48,48,48,48,48,48,48,48,48,48,48,48,48,48,48,48,48,48,48,48,48,48,48,48,48,48,48,48,48,48,48,48,48,48,48,48,48,48,48,48,48,48,48,48,49]], [(1048577, ⟨[0, 0], .row false 1 y2⟩), (1048578, ⟨[1, 0], .row false 2 [.agg [i 1, .slc 1048577 [0, 0] 0 133]]⟩), (1048579, ⟨[2, 0], .row false 3 [.agg [.ptr 1048599 [22, 0] 0 0, st [105,110,100,101,120], nS]]⟩), (1048580, ⟨[3, 0], .row false 3 [.agg [.ptr 1048599 [22, 0] 0 0, st [117,112,100,97,116,101,115], nS]]⟩), (1048581, ⟨[4, 0], .row true 51 [.agg [.agg [nP, nP, nP, nP, nP, nP, nP, nP, nP, nP, nP, nP, nP, nP, nP, nP], .lit (.bool true), .agg y1, i 1, i 0]]⟩), (1048582, ⟨[5, 0], .row true 51 [.agg [.agg [nP, nP, nP, nP, nP, nP, nP, nP, nP, nP, nP, nP, nP, nP, nP, nP], .lit (.bool true), .agg y0, i 0, i 0]]⟩), (1048583, ⟨[6, 0], .row false 51 [.agg [.agg [.ptr 1048582 [5, 0] 0 0, nP, nP, nP, nP, nP, nP, .ptr 1048581 [4, 0] 0 0, nP, nP, nP, nP, nP, nP, nP, nP], .lit (.bool false), .lit (z0), i 0, i 0]]⟩), (1048584, ⟨[7, 0], .row false 51 [.agg [.agg [.ptr 1048583 [6, 0] 0 0, nP, nP, nP, nP, nP, nP, nP, nP, nP, nP, nP, nP, nP, nP, nP], .lit (.bool false), .lit (z0), i 0, i 0]]⟩), (1048585, ⟨[8, 0], .row false 51 [.agg [.agg [.ptr 1048584 [7, 0] 0 0, nP, nP, nP, nP, nP, nP, nP, nP, nP, nP, nP, nP, nP, nP, nP], .lit (.bool false), .lit (z0), i 0, i 0]]⟩), (1048586, ⟨[9, 0], .row false 51 [.agg [.agg [.ptr 1048585 [8, 0] 0 0, nP, nP, nP, nP, nP, nP, nP, nP, nP, nP, nP, nP, nP, nP, nP], .lit (.bool false), .lit (z0), i 0, i 0]]⟩), (1048587, ⟨[10, 0], .row false 51 [.agg [.agg [nP, nP, nP, nP, nP, nP, nP, nP, nP, nP, nP, .ptr 1048586 [9, 0] 0 0, nP, nP, nP, nP], .lit (.bool false), .lit (z0), i 0, i 0]]⟩), (1048588, ⟨[11, 0], .row false 51 [.agg [.agg [nP, nP, nP, nP, nP, nP, nP, nP, nP, nP, .ptr 1048587 [10, 0] 0 0, nP, nP, nP, nP, nP], .lit (.bool false), .lit (z0), i 0, i 0]]⟩), (1048589, ⟨[12, 0], .row false 2 [.agg [.ptr 1048588 [11, 0] 0 0, i 2]]⟩), (1048590, ⟨[13, 0], .map true [0, 1] 2 [z2, z1] [i 0, i 1]⟩), (1048591, ⟨[14, 0], .row true 32 []⟩), (1048592, ⟨[15, 0], .row true 32 [.agg y0, .agg y1]⟩), (1048593, ⟨[16, 0], .row false 4 [.agg [i 9, .slc 1048592 [15, 0] 0 2, .slc 1048591 [14, 0] 0 0, .mp 1048590 [13, 0]]]⟩), (1048594, ⟨[17, 0], .row true 32 [.agg y0]⟩), (1048595, ⟨[18, 0], .map false [0, 1] 2 [z2, z1] [nS, .slc 1048594 [17, 0] 0 1]⟩), (1048596, ⟨[19, 0], .row false 1 [.agg [.mp 1048595 [18, 0]]]⟩), (1048597, ⟨[20, 0], .map true [] 0 [] []⟩), (1048598, ⟨[21, 0], .map true [] 0 [] []⟩), (1048599, ⟨[22, 0], .row false 7 [.agg [i 100000, .mp 1048598 [21, 0], .mp 1048597 [20, 0], nS, i (-1), .lit (.bool false), i 0]]⟩), (1048600, ⟨[23, 0], .row false 11 [.agg [.ptr 1048599 [22, 0] 0 0, .ptr 1048596 [19, 0] 0 0, .ptr 1048593 [16, 0] 0 0, .ptr 1048589 [12, 0] 0 0, .ptr 1048580 [3, 0] 0 0, .ptr 1048579 [2, 0] 0 0, .lit (.agg #[.int .i64 0, .int .i64 0]), i 0, .slc 1048578 [1, 0] 0 1, .lit (.bool false)]]⟩), (1048601, ⟨[24, 0], .row false 2 [.agg [.ptr 1048600 [23, 0] 0 0, i 2]]⟩)], .tup [.slc 2097178 [25, 1] 0 2, nI], [(2097178, ⟨[25, 1], .row true 32 [.agg y1, .agg y0]⟩)]⟩
theorem run29 : canF (S X3a 100 91) [1] ask29.ys (hpOf ask29.h) = some ⟨ask29.x, ask29.upd, true⟩ := by kernel_rfl
def ask30 : MsE := ⟨[.ptr 1048601 [24, 0] 0 0, st [97,98,48,48,48,55,48,48,48,48,48,48,48,48,48,48,48,48,48,48,48,48,48,48,48,48,48,48,48,48,48,48,48,48,48,48,48,48,48,48,48,48,48,48,48,48,48,48,48,48,48,48,48,48,48,48,48,48,48,48,48,48,48,49]], [(1048577, ⟨[0, 0], .row false 1 y2⟩), (1048578, ⟨[1, 0], .row false 2 [.agg [i 1, .slc 1048577 [0, 0] 0 133]]⟩), (1048579, ⟨[2, 0], .row false 3 [.agg [.ptr 1048599 [22, 0] 0 0, st [105,110,100,101,120], nS]]⟩), (1048580, ⟨[3, 0], .row false 3 [.agg [.ptr 1048599 [22, 0] 0 0, st [117,112,100,97,116,101,115], nS]]⟩), (1048581, ⟨[4, 0], .row true 51 [.agg [.agg [nP, nP, nP, nP, nP, nP, nP, nP, nP, nP, nP, nP, nP, nP, nP, nP], .lit (.bool true), .agg y1, i 1, i 0]]⟩), (1048582, ⟨[5, 0], .row true 51 [.agg [.agg [nP, nP, nP, nP, nP, nP, nP, nP, nP, nP, nP, nP, nP, nP, nP, nP], .lit (.bool true), .agg y0, i 0, i 0]]⟩), (1048583, ⟨[6, 0], .row false 51 [.agg [.agg [.ptr 1048582 [5, 0] 0 0, nP, nP, nP, nP, nP, nP, .ptr 1048581 [4, 0] 0 0, nP, nP, nP, nP, nP, nP, nP, nP], .lit (.bool false), .lit (z0), i 0, i 0]]⟩), (1048584, ⟨[7, 0], .row false 51 [.agg [.agg [.ptr 1048583 [6, 0] 0 0, nP, nP, nP, nP, nP, nP, nP, nP, nP, nP, nP, nP, nP, nP, nP], .lit (.bool false), .lit (z0), i 0, i 0]]⟩), (1048585, ⟨[8, 0], .row false 51 [.agg [.agg [.ptr 1048584 [7, 0] 0 0, nP, nP, nP, nP, nP, nP, nP, nP, nP, nP, nP, nP, nP, nP, nP], .lit (.bool false), .lit (z0), i 0, i 0]]⟩), (1048586, ⟨[9, 0], .row false 51 [.agg [.agg [.ptr 1048585 [8, 0] 0 0, nP, nP, nP, nP, nP, nP, nP, nP, nP, nP, nP, nP, nP, nP, nP], .lit (.bool false), .lit (z0), i 0, i 0]]⟩), (1048587, ⟨[10, 0], .row false 51 [.agg [.agg [nP, nP, nP, nP, nP, nP, nP, nP, nP, nP, nP, .ptr 1048586 [9, 0] 0 0, nP, nP, nP, nP], .lit (.bool false), .lit (z0), i 0, i 0]]⟩), (1048588, ⟨[11, 0], .row false 51 [.agg [.agg [nP, nP, nP, nP, nP, nP, nP, nP, nP, nP, .ptr 1048587 [10, 0] 0 0, nP, nP, nP, nP, nP], .lit (.bool false), .lit (z0), i 0, i 0]]⟩), (1048589, ⟨[12, 0], .row false 2 [.agg [.ptr 1048588 [11, 0] 0 0, i 2]]⟩), (1048590, ⟨[13, 0], .map true [0, 1] 2 [z2, z1] [i 0, i 1]⟩), (1048591, ⟨[14, 0], .row true 32 []⟩), (1048592, ⟨[15, 0], .row true 32 [.agg y0, .agg y1]⟩), (1048593, ⟨[16, 0], .row false 4 [.agg [i 9, .slc 1048592 [15, 0] 0 2, .slc 1048591 [14, 0] 0 0, .mp 1048590 [13, 0]]]⟩), (1048594, ⟨[17, 0], .row true 32 [.agg y0]⟩), (1048595, ⟨[18, 0], .map false [0, 1] 2 [z2, z1] [nS, .slc 1048594 [17, 0] 0 1]⟩), (1048596, ⟨[19, 0], .row false 1 [.agg [.mp 1048595 [18, 0]]]⟩), (1048597, ⟨[20, 0], .map true [] 0 [] []⟩), (1048598, ⟨[21, 0], .map true [] 0 [] []⟩), (1048599, ⟨[22, 0], .row false 7 [.agg [i 100000, .mp 1048598 [21, 0], .mp 1048597 [20, 0], nS, i (-1), .lit (.bool false), i 0]]⟩), (1048600, ⟨[23, 0], .row false 11 [.agg [.ptr 1048599 [22, 0] 0 0, .ptr 1048596 [19, 0] 0 0, .ptr 1048593 [16, 0] 0 0, .ptr 1048589 [12, 0] 0 0, .ptr 1048580 [3, 0] 0 0, .ptr 1048579 [2, 0] 0 0, .lit (.agg #[.int .i64 0, .int .i64 0]), i 0, .slc 1048578 [1, 0] 0 1, .lit (.bool false)]]⟩), (1048601, ⟨[24, 0], .row false 2 [.agg [.ptr 1048600 [23, 0] 0 0, i 2]]⟩)], .tup [.agg y1, i 1, nI], []⟩
theorem run30 : canF (S X3a 100 58) [1] ask30.ys (hpOf ask30.h) = some ⟨ask30.x, ask30.upd, true⟩ := by kernel_rfl
def ask35 : MsE := ⟨[.ptr 1048601 [24, 0] 0 0, st [97,98,48,48,48,48,48,48,48,48,48,48,48,48,48,48,48,48,48,48,48,48,48,48,48,48,48,48,48,48,48,48,48,48,48,48,48,48,48,48,48,48,48,48,48,48,48,48,48,48,48,48,48,48,48,48,48,48,48,48,48,48,48,48]], [(1048577, ⟨[0, 0], .row false 1 y2⟩), (1048578, ⟨[1, 0], .row false 2 [.agg [i 1, .slc 1048577 [0, 0] 0 133]]⟩), (1048579, ⟨[2, 0], .row false 3 [.agg [.ptr 1048599 [22, 0] 0 0, st [105,110,100,101,120], nS]]⟩), (1048580, ⟨[3, 0], .row false 3 [.agg [.ptr 1048599 [22, 0] 0 0, st [117,112,100,97,116,101,115], nS]]⟩), (1048581, ⟨[4, 0], .row true 51 [.agg [.agg [nP, nP, nP, nP, nP, nP, nP, nP, nP, nP, nP, nP, nP, nP, nP, nP], .lit (.bool true), .agg y1, i 1, i 0]]⟩), (1048582, ⟨[5, 0], .row true 51 [.agg [.agg [nP, nP, nP, nP, nP, nP, nP, nP, nP, nP, nP, nP, nP, nP, nP, nP], .lit (.bool true), .agg y0, i 0, i 0]]⟩), (1048583, ⟨[6, 0], .row false 51 [.agg [.agg [.ptr 1048582 [5, 0] 0 0, nP, nP, nP, nP, nP, nP, .ptr 1048581 [4, 0] 0 0, nP, nP, nP, nP, nP, nP, nP, nP], .lit (.bool false), .lit (z0), i 0, i 0]]⟩), (1048584, ⟨[7, 0], .row false 51 [.agg [.agg [.ptr 1048583 [6, 0] 0 0, nP, nP, nP, nP, nP, nP, nP, nP, nP, nP, nP, nP, nP, nP, nP], .lit (.bool false), .lit (z0), i 0, i 0]]⟩), (1048585, ⟨[8, 0], .row false 51 [.agg [.agg [.ptr 1048584 [7, 0] 0 0, nP, nP, nP, nP, nP, nP, nP, nP, nP, nP, nP, nP, nP, nP, nP], .lit (.bool false), .lit (z0), i 0, i 0]]⟩), (1048586, ⟨[9, 0], .row false 51 [.agg [.agg [.ptr 1048585 [8, 0] 0 0, nP, nP, nP, nP, nP, nP, nP, nP, nP, nP, nP, nP, nP, nP, nP], .lit (.bool false), .lit (z0), i 0, i 0]]⟩), (1048587, ⟨[10, 0], .row false 51 [.agg [.agg [nP, nP, nP, nP, nP, nP, nP, nP, nP, nP, nP, .ptr 1048586 [9, 0] 0 0, nP, nP, nP, nP], .lit (.bool false), .lit (z0), i 0, i 0]]⟩), (1048588, ⟨[11, 0], .row false 51 [.agg [.agg [nP, nP, nP, nP, nP, nP, nP, nP, nP, nP, .ptr 1048587 [10, 0] 0 0, nP, nP, nP, nP, nP], .lit (.bool false), .lit (z0), i 0, i 0]]⟩), (1048589, ⟨[12, 0], .row false 2 [.agg [.ptr 1048588 [11, 0] 0 0, i 2]]⟩), (1048590, ⟨[13, 0], .map true [0, 1] 2 [z2, z1] [i 0, i 1]⟩), (1048591, ⟨[14, 0], .row true 32 []⟩), (1048592, ⟨[15, 0], .row true 32 [.agg y0, .agg y1]⟩), (1048593, ⟨[16, 0], .row false 4 [.agg [i 9, .slc 1048592 [15, 0] 0 2, .slc 1048591 [14, 0] 0 0, .mp 1048590 [13, 0]]]⟩), (1048594, ⟨[17, 0], .row true 32 [.agg y0]⟩), (1048595, ⟨[18, 0], .map false [0, 1] 2 [z2, z1] [nS, .slc 1048594 [17, 0] 0 1]⟩), (1048596, ⟨[19, 0], .row false 1 [.agg [.mp 1048595 [18, 0]]]⟩), (1048597, ⟨[20, 0], .map true [] 0 [] []⟩), (1048598, ⟨[21, 0], .map true [] 0 [] []⟩), (1048599, ⟨[22, 0], .row false 7 [.agg [i 100000, .mp 1048598 [21, 0], .mp 1048597 [20, 0], nS, i (-1), .lit (.bool false), i 0]]⟩), (1048600, ⟨[23, 0], .row false 11 [.agg [.ptr 1048599 [22, 0] 0 0, .ptr 1048596 [19, 0] 0 0, .ptr 1048593 [16, 0] 0 0, .ptr 1048589 [12, 0] 0 0, .ptr 1048580 [3, 0] 0 0, .ptr 1048579 [2, 0] 0 0, .lit (.agg #[.int .i64 0, .int .i64 0]), i 0, .slc 1048578 [1, 0] 0 1, .lit (.bool false)]]⟩), (1048601, ⟨[24, 0], .row false 2 [.agg [.ptr 1048600 [23, 0] 0 0, i 2]]⟩)], .tup [.agg y0, i 0, nI], []⟩
theorem run35 : canF (S X3a 100 58) [1] ask35.ys (hpOf ask35.h) = some ⟨ask35.x, ask35.upd, true⟩ := by kernel_rfl
def ask40 : MsE := ⟨[.ptr 1048588 [11, 0] 0 0, st [97,108,108,40,41]], [(1048577, ⟨[0, 0], .row false 3 [.agg [.ptr 1048586 [9, 0] 0 0, st [105,110,100,101,120], nS]]⟩), (1048578, ⟨[1, 0], .row false 3 [.agg [.ptr 1048586 [9, 0] 0 0, st [117,112,100,97,116,101,115], nS]]⟩), (1048579, ⟨[2, 0], .row true 2 [.agg [nP, i 0]]⟩), (1048580, ⟨[3, 0], .map true [] 0 [] []⟩), (1048581, ⟨[4, 0], .row false 4 [.agg [i 9, nS, nS, .mp 1048580 [3, 0]]]⟩), (1048582, ⟨[5, 0], .map true [] 0 [] []⟩), (1048583, ⟨[6, 0], .row false 1 [.agg [.mp 1048582 [5, 0]]]⟩), (1048584, ⟨[7, 0], .map true [] 0 [] []⟩), (1048585, ⟨[8, 0], .map true [] 0 [] []⟩), (1048586, ⟨[9, 0], .row false 7 [.agg [i 100000, .mp 1048585 [8, 0], .mp 1048584 [7, 0], nS, i (-1), .lit (.bool false), i 0]]⟩), (1048587, ⟨[10, 0], .row false 11 [.agg [.ptr 1048586 [9, 0] 0 0, .ptr 1048583 [6, 0] 0 0, .ptr 1048581 [4, 0] 0 0, .ptr 1048579 [2, 0] 0 0, .ptr 1048578 [1, 0] 0 0, .ptr 1048577 [0, 0] 0 0, .lit (.agg #[.int .i64 0, .int .i64 0]), i 0, nS, .lit (.bool false)]]⟩), (1048588, ⟨[11, 0], .row false 2 [.agg [.ptr 1048587 [10, 0] 0 0, i 2]]⟩)], .tup [nS, nI], []⟩
theorem run40 : canF (S X3a 100 91) [1] ask40.ys (hpOf ask40.h) = some ⟨ask40.x, ask40.upd, true⟩ := by kernel_rfl
def ask42 : MsE := ⟨[.ptr 1048588 [11, 0] 0 0, st []], [(1048577, ⟨[0, 0], .row false 3 [.agg [.ptr 1048586 [9, 0] 0 0, st [105,110,100,101,120], nS]]⟩), (1048578, ⟨[1, 0], .row false 3 [.agg [.ptr 1048586 [9, 0] 0 0, st [117,112,100,97,116,101,115], nS]]⟩), (1048579, ⟨[2, 0], .row true 2 [.agg [nP, i 0]]⟩), (1048580, ⟨[3, 0], .map true [] 0 [] []⟩), (1048581, ⟨[4, 0], .row false 4 [.agg [i 9, nS, nS, .mp 1048580 [3, 0]]]⟩), (1048582, ⟨[5, 0], .map true [] 0 [] []⟩), (1048583, ⟨[6, 0], .row false 1 [.agg [.mp 1048582 [5, 0]]]⟩), (1048584, ⟨[7, 0], .map true [] 0 [] []⟩), (1048585, ⟨[8, 0], .map true [] 0 [] []⟩), (1048586, ⟨[9, 0], .row false 7 [.agg [i 100000, .mp 1048585 [8, 0], .mp 1048584 [7, 0], nS, i (-1), .lit (.bool false), i 0]]⟩), (1048587, ⟨[10, 0], .row false 11 [.agg [.ptr 1048586 [9, 0] 0 0, .ptr 1048583 [6, 0] 0 0, .ptr 1048581 [4, 0] 0 0, .ptr 1048579 [2, 0] 0 0, .ptr 1048578 [1, 0] 0 0, .ptr 1048577 [0, 0] 0 0, .lit (.agg #[.int .i64 0, .int .i64 0]), i 0, nS, .lit (.bool false)]]⟩), (1048588, ⟨[11, 0], .row false 2 [.agg [.ptr 1048587 [10, 0] 0 0, i 2]]⟩)], .tup [nS, .iface 206 (.ptr 2097166 [13, 1] 0 0)], [(2097165, ⟨[12, 1], .row true 2 [.agg [i 0, .iface 31 (i 15)]]⟩), (2097166, ⟨[13, 1], .row false 2 [.agg [st [113,117,101,114,121], .iface 498 (.ptr 2097165 [12, 1] 0 0)]]⟩)]⟩
theorem run42 : canF (S X3a 100 91) [1] ask42.ys (hpOf ask42.h) = some ⟨ask42.x, ask42.upd, true⟩ := by kernel_rfl
def ask46 : MsE := ⟨[.ptr 1048588 [11, 0] 0 0, st [97,108,108,40,41]], [(1048577, ⟨[0, 0], .row false 3 [.agg [.ptr 1048586 [9, 0] 0 0, st [105,110,100,101,120], nS]]⟩), (1048578, ⟨[1, 0], .row false 3 [.agg [.ptr 1048586 [9, 0] 0 0, st [117,112,100,97,116,101,115], nS]]⟩), (1048579, ⟨[2, 0], .row true 2 [.agg [nP, i 0]]⟩), (1048580, ⟨[3, 0], .map true [] 0 [] []⟩), (1048581, ⟨[4, 0], .row false 4 [.agg [i 9, nS, nS, .mp 1048580 [3, 0]]]⟩), (1048582, ⟨[5, 0], .map true [] 0 [] []⟩), (1048583, ⟨[6, 0], .row false 1 [.agg [.mp 1048582 [5, 0]]]⟩), (1048584, ⟨[7, 0], .map true [] 0 [] []⟩), (1048585, ⟨[8, 0], .map true [] 0 [] []⟩), (1048586, ⟨[9, 0], .row false 7 [.agg [i 10000, .mp 1048585 [8, 0], .mp 1048584 [7, 0], nS, i (-1), .lit (.bool false), i 0]]⟩), (1048587, ⟨[10, 0], .row false 11 [.agg [.ptr 1048586 [9, 0] 0 0, .ptr 1048583 [6, 0] 0 0, .ptr 1048581 [4, 0] 0 0, .ptr 1048579 [2, 0] 0 0, .ptr 1048578 [1, 0] 0 0, .ptr 1048577 [0, 0] 0 0, .lit (.agg #[.int .i64 0, .int .i64 0]), i 0, nS, .lit (.bool false)]]⟩), (1048588, ⟨[11, 0], .row false 2 [.agg [.ptr 1048587 [10, 0] 0 0, i 2]]⟩)], .tup [nS, nI], []⟩
theorem run46 : canF (S X3a 100 91) [1] ask46.ys (hpOf ask46.h) = some ⟨ask46.x, ask46.upd, true⟩ := by kernel_rfl
def tab58 : List MsE := [ask30, ask35]
theorem tab58_ok : ∀ e ∈ tab58, MsOk X3a 100 58 e := by
  intro e he
  simp only [tab58, List.mem_cons, List.not_mem_nil, or_false] at he
  rcases he with rfl | rfl
  · exact run30
  · exact run35
def tab91 : List MsE := [ask29, ask40, ask42, ask46]
theorem tab91_ok : ∀ e ∈ tab91, MsOk X3a 100 91 e := by
  intro e he
  simp only [tab91, List.mem_cons, List.not_mem_nil, or_false] at he
  rcases he with rfl | rfl | rfl | rfl
  · exact run29
  · exact run40
  · exact run42
  · exact run46
def extF4a (f : FuncId) : Option (Go.AS.Id → Nat → List AV → Hp → Option Res) :=
  (bsel (Nat.beq f 58) (some (msX tab58))
  (bsel (Nat.beq f 91) (some (msX tab91)) (extF3a f)))
def X4a : PX := { P := Tryz.prog, gl := fun g => bsel (Nat.beq g 0) (some (.ref (.lit (.iface 143 (.agg #[.pointer (some ⟨9, 27, none⟩)]))))) none, ext := extF4a, own := fun _ _ => true, m := 100000 }
theorem sound4a : X4a.Sound := by
  refine ⟨sound3a.mix, sound3a.gl, fun f g h => ?_⟩
  have h : extF4a f = some g := h
  unfold extF4a at h
  cases hb58 : Nat.beq f 58
  · rw [hb58, bsel_false] at h
    cases hb91 : Nat.beq f 91
    · rw [hb91, bsel_false] at h
      exact sound3a.ext f g h
    · rw [hb91, bsel_true] at h; cases h
      obtain rfl := Nat.eq_of_beq_eq_true hb91
      exact msX_ok sound3a tab91_ok
  · rw [hb58, bsel_true] at h; cases h
    obtain rfl := Nat.eq_of_beq_eq_true hb58
    exact msX_ok sound3a tab58_ok
def ask9 : MsE := ⟨[st [97,100,100,32,109,97,115,116,101,114,32,97,98,48,48,48,48,48,48,48,48,48,48,48,48,48,48,48,48,48,48,48,48,48,48,48,48,48,48,48,48,48,48,48,48,48,48,48,48,48,48,48,48,48,48,48,48,48,48,48,48,48,48,48,48,48,48,48,48,48,48,48,48,48,48,32,97,98,48,48,48,55,48,48,48,48,48,48,48,48,48,48,48,48,48,48,48,48,48,48,48,48,48,48,48,48,48,48,48,48,48,48,48,48,48,48,48,48,48,48,48,48,48,48,48,48,48,48,48,48,48,48,48,48,48,48,48,48,48,49,58,97,98,48,48,48,48,48,48,48,48,48,48,48,48,48,48,48,48,48,48,48,48,48,48,48,48,48,48,48,48,48,48,48,48,48,48,48,48,48,48,48,48,48,48,48,48,48,48,48,48,48,48,48,48,48,48,48,48,48,48,48,48,48,48,32,47,32,97,98,48,48,48,55,48,48,48,48,48,48,48,48,48,48,48,48,48,48,48,48,48,48,48,48,48,48,48,48,48,48,48,48,48,48,48,48,48,48,48,48,48,48,48,48,48,48,48,48,48,48,48,48,48,48,48,48,48,48,48,48,48,49]], [], .tup [.agg [st [97,100,100], st [109,97,115,116,101,114,32,97,98,48,48,48,48,48,48,48,48,48,48,48,48,48,48,48,48,48,48,48,48,48,48,48,48,48,48,48,48,48,48,48,48,48,48,48,48,48,48,48,48,48,48,48,48,48,48,48,48,48,48,48,48,48,48,48,48,48,48,48,48,48,48,32,97,98,48,48,48,55,48,48,48,48,48,48,48,48,48,48,48,48,48,48,48,48,48,48,48,48,48,48,48,48,48,48,48,48,48,48,48,48,48,48,48,48,48,48,48,48,48,48,48,48,48,48,48,48,48,48,48,48,48,48,48,48,48,49,58,97,98,48,48,48,48,48,48,48,48,48,48,48,48,48,48,48,48,48,48,48,48,48,48,48,48,48,48,48,48,48,48,48,48,48,48,48,48,48,48,48,48,48,48,48,48,48,48,48,48,48,48,48,48,48,48,48,48,48,48,48,48,48,48,32,47,32,97,98,48,48,48,55,48,48,48,48,48,48,48,48,48,48,48,48,48,48,48,48,48,48,48,48,48,48,48,48,48,48,48,48,48,48,48,48,48,48,48,48,48,48,48,48,48,48,48,48,48,48,48,48,48,48,48,48,48,48,48,48,48,49], .slc 2097156 [3, 1] 0 5, nS, .agg [.slc 2097155 [2, 1] 0 2, .slc 2097153 [0, 1] 0 1, i 1]], .lit (.bool true)], [(2097153, ⟨[0, 1], .row true 32 [.agg y1]⟩), (2097154, ⟨[1, 1], .row true 32 [.agg y0]⟩), (2097155, ⟨[2, 1], .row false 33 [.agg [.agg y0, nS], .agg [.agg y1, .slc 2097154 [1, 1] 0 1]]⟩), (2097156, ⟨[3, 1], .row true 1 [st [109,97,115,116,101,114], st [97,98,48,48,48,48,48,48,48,48,48,48,48,48,48,48,48,48,48,48,48,48,48,48,48,48,48,48,48,48,48,48,48,48,48,48,48,48,48,48,48,48,48,48,48,48,48,48,48,48,48,48,48,48,48,48,48,48,48,48,48,48,48,48], st [97,98,48,48,48,55,48,48,48,48,48,48,48,48,48,48,48,48,48,48,48,48,48,48,48,48,48,48,48,48,48,48,48,48,48,48,48,48,48,48,48,48,48,48,48,48,48,48,48,48,48,48,48,48,48,48,48,48,48,48,48,48,48,49,58,97,98,48,48,48,48,48,48,48,48,48,48,48,48,48,48,48,48,48,48,48,48,48,48,48,48,48,48,48,48,48,48,48,48,48,48,48,48,48,48,48,48,48,48,48,48,48,48,48,48,48,48,48,48,48,48,48,48,48,48,48,48,48,48], st [47], st [97,98,48,48,48,55,48,48,48,48,48,48,48,48,48,48,48,48,48,48,48,48,48,48,48,48,48,48,48,48,48,48,48,48,48,48,48,48,48,48,48,48,48,48,48,48,48,48,48,48,48,48,48,48,48,48,48,48,48,48,48,48,48,49]]⟩)]⟩
theorem run9 : canF (S X4a 100 12) [1] ask9.ys (hpOf ask9.h) = some ⟨ask9.x, ask9.upd, true⟩ := by kernel_rfl
def ask10 : MsE := ⟨[st [113,117,101,114,121,32,58,58,97,98,48,48,48,55,48,48,48,48,48,48,48,48,48,48,48,48,48,48,48,48,48,48,48,48,48,48,48,48,48,48,48,48,48,48,48,48,48,48,48,48,48,48,48,48,48,48,48,48,48,48,48,48,48,48,48,48,48,48,48,48,48,49]], [], .tup [.agg [st [113,117,101,114,121], st [58,58,97,98,48,48,48,55,48,48,48,48,48,48,48,48,48,48,48,48,48,48,48,48,48,48,48,48,48,48,48,48,48,48,48,48,48,48,48,48,48,48,48,48,48,48,48,48,48,48,48,48,48,48,48,48,48,48,48,48,48,48,48,48,48,49], .slc 2097153 [0, 1] 0 1, nS, .agg [nS, nS, i 0]], .lit (.bool true)], [(2097153, ⟨[0, 1], .row true 1 [st [58,58,97,98,48,48,48,55,48,48,48,48,48,48,48,48,48,48,48,48,48,48,48,48,48,48,48,48,48,48,48,48,48,48,48,48,48,48,48,48,48,48,48,48,48,48,48,48,48,48,48,48,48,48,48,48,48,48,48,48,48,48,48,48,48,49]]⟩)]⟩
theorem run10 : canF (S X4a 100 12) [1] ask10.ys (hpOf ask10.h) = some ⟨ask10.x, ask10.upd, true⟩ := by kernel_rfl
def ask11 : MsE := ⟨[st [114,101,115,111,108,118,101,32,97,98,48,48,48,55,48,48,48,48,48,48,48,48,48,48,48,48,48,48,48,48,48,48,48,48,48,48,48,48,48,48,48,48,48,48,48,48,48,48,48,48,48,48,48,48,48,48,48,48,48,48,48,48,48,48,48,48,48,48,48,48,48,49]], [], .tup [.agg [st [114,101,115,111,108,118,101], st [97,98,48,48,48,55,48,48,48,48,48,48,48,48,48,48,48,48,48,48,48,48,48,48,48,48,48,48,48,48,48,48,48,48,48,48,48,48,48,48,48,48,48,48,48,48,48,48,48,48,48,48,48,48,48,48,48,48,48,48,48,48,48,49], .slc 2097153 [0, 1] 0 1, nS, .agg [nS, nS, i 0]], .lit (.bool true)], [(2097153, ⟨[0, 1], .row true 1 [st [97,98,48,48,48,55,48,48,48,48,48,48,48,48,48,48,48,48,48,48,48,48,48,48,48,48,48,48,48,48,48,48,48,48,48,48,48,48,48,48,48,48,48,48,48,48,48,48,48,48,48,48,48,48,48,48,48,48,48,48,48,48,48,49]]⟩)]⟩
theorem run11 : canF (S X4a 100 12) [1] ask11.ys (hpOf ask11.h) = some ⟨ask11.x, ask11.upd, true⟩ := by kernel_rfl
def ask12 : MsE := ⟨[st [97,115,107,32,97,98,48,48,48,48,48,48,48,48,48,48,48,48,48,48,48,48,48,48,48,48,48,48,48,48,48,48,48,48,48,48,48,48,48,48,48,48,48,48,48,48,48,48,48,48,48,48,48,48,48,48,48,48,48,48,48,48,48,48,48,48,48,48]], [], .tup [.agg [st [97,115,107], st [97,98,48,48,48,48,48,48,48,48,48,48,48,48,48,48,48,48,48,48,48,48,48,48,48,48,48,48,48,48,48,48,48,48,48,48,48,48,48,48,48,48,48,48,48,48,48,48,48,48,48,48,48,48,48,48,48,48,48,48,48,48,48,48], .slc 2097153 [0, 1] 0 1, nS, .agg [nS, nS, i 0]], .lit (.bool true)], [(2097153, ⟨[0, 1], .row true 1 [st [97,98,48,48,48,48,48,48,48,48,48,48,48,48,48,48,48,48,48,48,48,48,48,48,48,48,48,48,48,48,48,48,48,48,48,48,48,48,48,48,48,48,48,48,48,48,48,48,48,48,48,48,48,48,48,48,48,48,48,48,48,48,48,48]]⟩)]⟩
theorem run12 : canF (S X4a 100 12) [1] ask12.ys (hpOf ask12.h) = some ⟨ask12.x, ask12.upd, true⟩ := by kernel_rfl
def ask13 : MsE := ⟨[st [99,108,111,110,101]], [], .tup [.agg [st [99,108,111,110,101], st [], nS, nS, .agg [nS, nS, i 0]], .lit (.bool true)], []⟩
theorem run13 : canF (S X4a 100 12) [1] ask13.ys (hpOf ask13.h) = some ⟨ask13.x, ask13.upd, true⟩ := by kernel_rfl
def ask14 : MsE := ⟨[st [97,115,107,32,104,101,97,100,115,40,97,108,108,40,41,41]], [], .tup [.agg [st [97,115,107], st [104,101,97,100,115,40,97,108,108,40,41,41], .slc 2097153 [0, 1] 0 1, nS, .agg [nS, nS, i 0]], .lit (.bool true)], [(2097153, ⟨[0, 1], .row true 1 [st [104,101,97,100,115,40,97,108,108,40,41,41]]⟩)]⟩
theorem run14 : canF (S X4a 100 12) [1] ask14.ys (hpOf ask14.h) = some ⟨ask14.x, ask14.upd, true⟩ := by kernel_rfl
def ask15 : MsE := ⟨[st [115,116,114,105,112,32,97,98,48,48,48,48,48,48,48,48,48,48,48,48,48,48,48,48,48,48,48,48,48,48,48,48,48,48,48,48,48,48,48,48,48,48,48,48,48,48,48,48,48,48,48,48,48,48,48,48,48,48,48,48,48,48,48,48,48,48,48,48,48,48]], [], .tup [.agg [st [115,116,114,105,112], st [97,98,48,48,48,48,48,48,48,48,48,48,48,48,48,48,48,48,48,48,48,48,48,48,48,48,48,48,48,48,48,48,48,48,48,48,48,48,48,48,48,48,48,48,48,48,48,48,48,48,48,48,48,48,48,48,48,48,48,48,48,48,48,48], .slc 2097153 [0, 1] 0 1, nS, .agg [nS, nS, i 0]], .lit (.bool true)], [(2097153, ⟨[0, 1], .row true 1 [st [97,98,48,48,48,48,48,48,48,48,48,48,48,48,48,48,48,48,48,48,48,48,48,48,48,48,48,48,48,48,48,48,48,48,48,48,48,48,48,48,48,48,48,48,48,48,48,48,48,48,48,48,48,48,48,48,48,48,48,48,48,48,48,48]]⟩)]⟩
theorem run15 : canF (S X4a 100 12) [1] ask15.ys (hpOf ask15.h) = some ⟨ask15.x, ask15.upd, true⟩ := by kernel_rfl
def ask16 : MsE := ⟨[st [99,114,97,115,104,32,48,32,48]], [], .tup [.agg [st [99,114,97,115,104], st [48,32,48], .slc 2097154 [1, 1] 0 2, .slc 2097153 [0, 1] 0 2, .agg [nS, nS, i 0]], .lit (.bool true)], [(2097153, ⟨[0, 1], .row true 1 [i 0, i 0]⟩), (2097154, ⟨[1, 1], .row true 1 [st [48], st [48]]⟩)]⟩
theorem run16 : canF (S X4a 100 12) [1] ask16.ys (hpOf ask16.h) = some ⟨ask16.x, ask16.upd, true⟩ := by kernel_rfl
def ask17 : MsE := ⟨[st [113,117,101,114,121,32,97,108,108,40,41]], [], .tup [.agg [st [113,117,101,114,121], st [97,108,108,40,41], .slc 2097153 [0, 1] 0 1, nS, .agg [nS, nS, i 0]], .lit (.bool true)], [(2097153, ⟨[0, 1], .row true 1 [st [97,108,108,40,41]]⟩)]⟩
theorem run17 : canF (S X4a 100 12) [1] ask17.ys (hpOf ask17.h) = some ⟨ask17.x, ask17.upd, true⟩ := by kernel_rfl
def ask18 : MsE := ⟨[st [113,117,101,114,121,32]], [], .tup [.agg [st [113,117,101,114,121], st [], .slc 2097153 [0, 1] 0 1, nS, .agg [nS, nS, i 0]], .lit (.bool true)], [(2097153, ⟨[0, 1], .row true 1 [st []]⟩)]⟩
theorem run18 : canF (S X4a 100 12) [1] ask18.ys (hpOf ask18.h) = some ⟨ask18.x, ask18.upd, true⟩ := by kernel_rfl
def ask31 : MsE := ⟨[.ptr 1048602 [25, 0] 0 0, st [97,98,48,48,48,48,48,48,48,48,48,48,48,48,48,48,48,48,48,48,48,48,48,48,48,48,48,48,48,48,48,48,48,48,48,48,48,48,48,48,48,48,48,48,48,48,48,48,48,48,48,48,48,48,48,48,48,48,48,48,48,48,48,48]], [(1048577, ⟨[0, 0], .row false 1 y2⟩), (1048578, ⟨[1, 0], .row false 2 [.agg [i 1, .slc 1048577 [0, 0] 0 133]]⟩), (1048579, ⟨[2, 0], .row false 3 [.agg [.ptr 1048601 [24, 0] 0 0, st [105,110,100,101,120], nS]]⟩), (1048580, ⟨[3, 0], .row false 3 [.agg [.ptr 1048601 [24, 0] 0 0, st [117,112,100,97,116,101,115], nS]]⟩), (1048581, ⟨[4, 0], .row true 51 [.agg [.agg [nP, nP, nP, nP, nP, nP, nP, nP, nP, nP, nP, nP, nP, nP, nP, nP], .lit (.bool true), .agg y1, i 1, i 0]]⟩), (1048582, ⟨[5, 0], .row true 51 [.agg [.agg [nP, nP, nP, nP, nP, nP, nP, nP, nP, nP, nP, nP, nP, nP, nP, nP], .lit (.bool true), .agg y0, i 0, i 0]]⟩), (1048583, ⟨[6, 0], .row false 51 [.agg [.agg [.ptr 1048582 [5, 0] 0 0, nP, nP, nP, nP, nP, nP, .ptr 1048581 [4, 0] 0 0, nP, nP, nP, nP, nP, nP, nP, nP], .lit (.bool false), .lit (z0), i 0, i 0]]⟩), (1048584, ⟨[7, 0], .row false 51 [.agg [.agg [.ptr 1048583 [6, 0] 0 0, nP, nP, nP, nP, nP, nP, nP, nP, nP, nP, nP, nP, nP, nP, nP], .lit (.bool false), .lit (z0), i 0, i 0]]⟩), (1048585, ⟨[8, 0], .row false 51 [.agg [.agg [.ptr 1048584 [7, 0] 0 0, nP, nP, nP, nP, nP, nP, nP, nP, nP, nP, nP, nP, nP, nP, nP], .lit (.bool false), .lit (z0), i 0, i 0]]⟩), (1048586, ⟨[9, 0], .row false 51 [.agg [.agg [.ptr 1048585 [8, 0] 0 0, nP, nP, nP, nP, nP, nP, nP, nP, nP, nP, nP, nP, nP, nP, nP], .lit (.bool false), .lit (z0), i 0, i 0]]⟩), (1048587, ⟨[10, 0], .row false 51 [.agg [.agg [nP, nP, nP, nP, nP, nP, nP, nP, nP, nP, nP, .ptr 1048586 [9, 0] 0 0, nP, nP, nP, nP], .lit (.bool false), .lit (z0), i 0, i 0]]⟩), (1048588, ⟨[11, 0], .row false 51 [.agg [.agg [nP, nP, nP, nP, nP, nP, nP, nP, nP, nP, .ptr 1048587 [10, 0] 0 0, nP, nP, nP, nP, nP], .lit (.bool false), .lit (z0), i 0, i 0]]⟩), (1048589, ⟨[12, 0], .row false 2 [.agg [.ptr 1048588 [11, 0] 0 0, i 2]]⟩), (1048590, ⟨[13, 0], .map true [0, 1] 2 [z2, z1] [i 0, i 1]⟩), (1048591, ⟨[14, 0], .row true 32 []⟩), (1048592, ⟨[15, 0], .row true 32 [.agg y0, .agg y1]⟩), (1048593, ⟨[16, 0], .row false 4 [.agg [i 9, .slc 1048592 [15, 0] 0 2, .slc 1048591 [14, 0] 0 0, .mp 1048590 [13, 0]]]⟩), (1048594, ⟨[17, 0], .row true 32 [.agg y0]⟩), (1048595, ⟨[18, 0], .map false [0, 1] 2 [z2, z1] [nS, .slc 1048594 [17, 0] 0 1]⟩), (1048596, ⟨[19, 0], .row false 1 [.agg [.mp 1048595 [18, 0]]]⟩), (1048597, ⟨[20, 0], .row false 11 [.agg [.ptr 1048601 [24, 0] 0 0, .ptr 1048596 [19, 0] 0 0, .ptr 1048593 [16, 0] 0 0, .ptr 1048589 [12, 0] 0 0, .ptr 1048580 [3, 0] 0 0, .ptr 1048579 [2, 0] 0 0, .lit (.agg #[.int .i64 0, .int .i64 0]), i 0, .slc 1048578 [1, 0] 0 1, .lit (.bool false)]]⟩), (1048598, ⟨[21, 0], .row false 2 [.agg [.ptr 1048597 [20, 0] 0 0, i 2]]⟩), (1048599, ⟨[22, 0], .map true [] 0 [] []⟩), (1048600, ⟨[23, 0], .map true [] 0 [] []⟩), (1048601, ⟨[24, 0], .row false 7 [.agg [i 100000, .mp 1048600 [23, 0], .mp 1048599 [22, 0], nS, i (-1), .lit (.bool false), i 0]]⟩), (1048602, ⟨[25, 0], .row false 5 [.agg [.ptr 1048601 [24, 0] 0 0, i 9, i 2, .ptr 1048598 [21, 0] 0 0, nP]]⟩)], .tup [nS, .iface 31 (i 18)], []⟩
theorem run31 : canF (S X4a 100 92) [1] ask31.ys (hpOf ask31.h) = some ⟨ask31.x, ask31.upd, true⟩ := by kernel_rfl
def ask32 : MsE := ⟨[.ptr 1048602 [25, 0] 0 0], [(1048577, ⟨[0, 0], .row false 1 y2⟩), (1048578, ⟨[1, 0], .row false 2 [.agg [i 1, .slc 1048577 [0, 0] 0 133]]⟩), (1048579, ⟨[2, 0], .row false 3 [.agg [.ptr 1048601 [24, 0] 0 0, st [105,110,100,101,120], nS]]⟩), (1048580, ⟨[3, 0], .row false 3 [.agg [.ptr 1048601 [24, 0] 0 0, st [117,112,100,97,116,101,115], nS]]⟩), (1048581, ⟨[4, 0], .row true 51 [.agg [.agg [nP, nP, nP, nP, nP, nP, nP, nP, nP, nP, nP, nP, nP, nP, nP, nP], .lit (.bool true), .agg y1, i 1, i 0]]⟩), (1048582, ⟨[5, 0], .row true 51 [.agg [.agg [nP, nP, nP, nP, nP, nP, nP, nP, nP, nP, nP, nP, nP, nP, nP, nP], .lit (.bool true), .agg y0, i 0, i 0]]⟩), (1048583, ⟨[6, 0], .row false 51 [.agg [.agg [.ptr 1048582 [5, 0] 0 0, nP, nP, nP, nP, nP, nP, .ptr 1048581 [4, 0] 0 0, nP, nP, nP, nP, nP, nP, nP, nP], .lit (.bool false), .lit (z0), i 0, i 0]]⟩), (1048584, ⟨[7, 0], .row false 51 [.agg [.agg [.ptr 1048583 [6, 0] 0 0, nP, nP, nP, nP, nP, nP, nP, nP, nP, nP, nP, nP, nP, nP, nP], .lit (.bool false), .lit (z0), i 0, i 0]]⟩), (1048585, ⟨[8, 0], .row false 51 [.agg [.agg [.ptr 1048584 [7, 0] 0 0, nP, nP, nP, nP, nP, nP, nP, nP, nP, nP, nP, nP, nP, nP, nP], .lit (.bool false), .lit (z0), i 0, i 0]]⟩), (1048586, ⟨[9, 0], .row false 51 [.agg [.agg [.ptr 1048585 [8, 0] 0 0, nP, nP, nP, nP, nP, nP, nP, nP, nP, nP, nP, nP, nP, nP, nP], .lit (.bool false), .lit (z0), i 0, i 0]]⟩), (1048587, ⟨[10, 0], .row false 51 [.agg [.agg [nP, nP, nP, nP, nP, nP, nP, nP, nP, nP, nP, .ptr 1048586 [9, 0] 0 0, nP, nP, nP, nP], .lit (.bool false), .lit (z0), i 0, i 0]]⟩), (1048588, ⟨[11, 0], .row false 51 [.agg [.agg [nP, nP, nP, nP, nP, nP, nP, nP, nP, nP, .ptr 1048587 [10, 0] 0 0, nP, nP, nP, nP, nP], .lit (.bool false), .lit (z0), i 0, i 0]]⟩), (1048589, ⟨[12, 0], .row false 2 [.agg [.ptr 1048588 [11, 0] 0 0, i 2]]⟩), (1048590, ⟨[13, 0], .map true [0, 1] 2 [z2, z1] [i 0, i 1]⟩), (1048591, ⟨[14, 0], .row true 32 []⟩), (1048592, ⟨[15, 0], .row true 32 [.agg y0, .agg y1]⟩), (1048593, ⟨[16, 0], .row false 4 [.agg [i 9, .slc 1048592 [15, 0] 0 2, .slc 1048591 [14, 0] 0 0, .mp 1048590 [13, 0]]]⟩), (1048594, ⟨[17, 0], .row true 32 [.agg y0]⟩), (1048595, ⟨[18, 0], .map false [0, 1] 2 [z2, z1] [nS, .slc 1048594 [17, 0] 0 1]⟩), (1048596, ⟨[19, 0], .row false 1 [.agg [.mp 1048595 [18, 0]]]⟩), (1048597, ⟨[20, 0], .row false 11 [.agg [.ptr 1048601 [24, 0] 0 0, .ptr 1048596 [19, 0] 0 0, .ptr 1048593 [16, 0] 0 0, .ptr 1048589 [12, 0] 0 0, .ptr 1048580 [3, 0] 0 0, .ptr 1048579 [2, 0] 0 0, .lit (.agg #[.int .i64 0, .int .i64 0]), i 0, .slc 1048578 [1, 0] 0 1, .lit (.bool false)]]⟩), (1048598, ⟨[21, 0], .row false 2 [.agg [.ptr 1048597 [20, 0] 0 0, i 2]]⟩), (1048599, ⟨[22, 0], .map true [] 0 [] []⟩), (1048600, ⟨[23, 0], .map true [] 0 [] []⟩), (1048601, ⟨[24, 0], .row false 7 [.agg [i 100000, .mp 1048600 [23, 0], .mp 1048599 [22, 0], nS, i (-1), .lit (.bool false), i 0]]⟩), (1048602, ⟨[25, 0], .row false 5 [.agg [.ptr 1048601 [24, 0] 0 0, i 9, i 2, .ptr 1048598 [21, 0] 0 0, nP]]⟩)], nI, [(1048602, ⟨[25, 0], .row false 5 [.agg [.ptr 1048601 [24, 0] 0 0, i 9, i 2, .ptr 1048598 [21, 0] 0 0, .ptr 2097187 [34, 1] 0 0]]⟩), (2097179, ⟨[26, 1], .map true [0] 1 [z1] [i 1]⟩), (2097180, ⟨[27, 1], .map true [0] 1 [.int .i64 1] [.agg y1]⟩), (2097181, ⟨[28, 1], .row true 2 [.agg [i 0, i 1]]⟩), (2097182, ⟨[29, 1], .row true 5 [.agg [i 0, i 1, nS, .lit (.bool true), .lit (.bool true)]]⟩), (2097183, ⟨[30, 1], .row false 1 [.slc 2097182 [29, 1] 0 1]⟩), (2097184, ⟨[31, 1], .row false 3 [.agg [.slc 2097183 [30, 1] 0 1, .slc 2097181 [28, 1] 0 1, i 0]]⟩), (2097185, ⟨[32, 1], .row true 32 [.agg y1]⟩), (2097186, ⟨[33, 1], .row true 5 [.agg [i 0, i 1, nS, .lit (.bool true), .lit (.bool true)]]⟩), (2097187, ⟨[34, 1], .row false 20 [.agg [.agg [.slc 2097186 [33, 1] 0 1, .slc 2097185 [32, 1] 0 1, i 2], .ptr 2097184 [31, 1] 0 0, .mp 2097180 [27, 1], .mp 2097179 [26, 1], i 0, i 0, .agg [i 0, i 0, i 0, st [], nS], .lit (.map none), nS, nP, i 0, nS, nS, nI]]⟩)]⟩
theorem run32 : canF (S X4a 100 57) [1] ask32.ys (hpOf ask32.h) = some ⟨ask32.x, ask32.upd, true⟩ := by kernel_rfl
def ask34 : MsE := ⟨[.ptr 1048611 [34, 0] 0 0, st [104,101,97,100,115,40,97,108,108,40,41,41]], [(1048577, ⟨[0, 0], .map true [0] 1 [z1] [i 1]⟩), (1048578, ⟨[1, 0], .map true [0] 1 [.int .i64 1] [.agg y1]⟩), (1048579, ⟨[2, 0], .row true 2 [.agg [i 0, i 1]]⟩), (1048580, ⟨[3, 0], .row true 5 [.agg [i 0, i 1, nS, .lit (.bool true), .lit (.bool true)]]⟩), (1048581, ⟨[4, 0], .row false 1 [.slc 1048580 [3, 0] 0 1]⟩), (1048582, ⟨[5, 0], .row false 3 [.agg [.slc 1048581 [4, 0] 0 1, .slc 1048579 [2, 0] 0 1, i 0]]⟩), (1048583, ⟨[6, 0], .row true 32 [.agg y1]⟩), (1048584, ⟨[7, 0], .row true 5 [.agg [i 0, i 1, nS, .lit (.bool true), .lit (.bool true)]]⟩), (1048585, ⟨[8, 0], .row false 20 [.agg [.agg [.slc 1048584 [7, 0] 0 1, .slc 1048583 [6, 0] 0 1, i 2], .ptr 1048582 [5, 0] 0 0, .mp 1048578 [1, 0], .mp 1048577 [0, 0], i 0, i 0, .agg [i 0, i 0, i 0, st [], nS], .lit (.map none), nS, nP, i 0, nS, nS, nI]]⟩), (1048586, ⟨[9, 0], .row false 1 y2⟩), (1048587, ⟨[10, 0], .row false 2 [.agg [i 1, .slc 1048586 [9, 0] 0 133]]⟩), (1048588, ⟨[11, 0], .row false 3 [.agg [.ptr 1048610 [33, 0] 0 0, st [105,110,100,101,120], nS]]⟩), (1048589, ⟨[12, 0], .row false 3 [.agg [.ptr 1048610 [33, 0] 0 0, st [117,112,100,97,116,101,115], nS]]⟩), (1048590, ⟨[13, 0], .row true 51 [.agg [.agg [nP, nP, nP, nP, nP, nP, nP, nP, nP, nP, nP, nP, nP, nP, nP, nP], .lit (.bool true), .agg y1, i 1, i 0]]⟩), (1048591, ⟨[14, 0], .row true 51 [.agg [.agg [nP, nP, nP, nP, nP, nP, nP, nP, nP, nP, nP, nP, nP, nP, nP, nP], .lit (.bool true), .agg y0, i 0, i 0]]⟩), (1048592, ⟨[15, 0], .row false 51 [.agg [.agg [.ptr 1048591 [14, 0] 0 0, nP, nP, nP, nP, nP, nP, .ptr 1048590 [13, 0] 0 0, nP, nP, nP, nP, nP, nP, nP, nP], .lit (.bool false), .lit (z0), i 0, i 0]]⟩), (1048593, ⟨[16, 0], .row false 51 [.agg [.agg [.ptr 1048592 [15, 0] 0 0, nP, nP, nP, nP, nP, nP, nP, nP, nP, nP, nP, nP, nP, nP, nP], .lit (.bool false), .lit (z0), i 0, i 0]]⟩), (1048594, ⟨[17, 0], .row false 51 [.agg [.agg [.ptr 1048593 [16, 0] 0 0, nP, nP, nP, nP, nP, nP, nP, nP, nP, nP, nP, nP, nP, nP, nP], .lit (.bool false), .lit (z0), i 0, i 0]]⟩), (1048595, ⟨[18, 0], .row false 51 [.agg [.agg [.ptr 1048594 [17, 0] 0 0, nP, nP, nP, nP, nP, nP, nP, nP, nP, nP, nP, nP, nP, nP, nP], .lit (.bool false), .lit (z0), i 0, i 0]]⟩), (1048596, ⟨[19, 0], .row false 51 [.agg [.agg [nP, nP, nP, nP, nP, nP, nP, nP, nP, nP, nP, .ptr 1048595 [18, 0] 0 0, nP, nP, nP, nP], .lit (.bool false), .lit (z0), i 0, i 0]]⟩), (1048597, ⟨[20, 0], .row false 51 [.agg [.agg [nP, nP, nP, nP, nP, nP, nP, nP, nP, nP, .ptr 1048596 [19, 0] 0 0, nP, nP, nP, nP, nP], .lit (.bool false), .lit (z0), i 0, i 0]]⟩), (1048598, ⟨[21, 0], .row false 2 [.agg [.ptr 1048597 [20, 0] 0 0, i 2]]⟩), (1048599, ⟨[22, 0], .map true [0, 1] 2 [z2, z1] [i 0, i 1]⟩), (1048600, ⟨[23, 0], .row true 32 []⟩), (1048601, ⟨[24, 0], .row true 32 [.agg y0, .agg y1]⟩), (1048602, ⟨[25, 0], .row false 4 [.agg [i 9, .slc 1048601 [24, 0] 0 2, .slc 1048600 [23, 0] 0 0, .mp 1048599 [22, 0]]]⟩), (1048603, ⟨[26, 0], .row true 32 [.agg y0]⟩), (1048604, ⟨[27, 0], .map false [0, 1] 2 [z2, z1] [nS, .slc 1048603 [26, 0] 0 1]⟩), (1048605, ⟨[28, 0], .row false 1 [.agg [.mp 1048604 [27, 0]]]⟩), (1048606, ⟨[29, 0], .row false 11 [.agg [.ptr 1048610 [33, 0] 0 0, .ptr 1048605 [28, 0] 0 0, .ptr 1048602 [25, 0] 0 0, .ptr 1048598 [21, 0] 0 0, .ptr 1048589 [12, 0] 0 0, .ptr 1048588 [11, 0] 0 0, .lit (.agg #[.int .i64 0, .int .i64 0]), i 0, .slc 1048587 [10, 0] 0 1, .lit (.bool false)]]⟩), (1048607, ⟨[30, 0], .row false 2 [.agg [.ptr 1048606 [29, 0] 0 0, i 2]]⟩), (1048608, ⟨[31, 0], .map true [] 0 [] []⟩), (1048609, ⟨[32, 0], .map true [] 0 [] []⟩), (1048610, ⟨[33, 0], .row false 7 [.agg [i 100000, .mp 1048609 [32, 0], .mp 1048608 [31, 0], nS, i (-1), .lit (.bool false), i 0]]⟩), (1048611, ⟨[34, 0], .row false 5 [.agg [.ptr 1048610 [33, 0] 0 0, i 9, i 2, .ptr 1048607 [30, 0] 0 0, .ptr 1048585 [8, 0] 0 0]]⟩)], .tup [.slc 2097192 [39, 1] 0 1, nI], [(1048585, ⟨[8, 0], .row false 20 [.agg [.agg [.slc 1048584 [7, 0] 0 1, .slc 1048583 [6, 0] 0 1, i 2], .ptr 1048582 [5, 0] 0 0, .mp 1048578 [1, 0], .mp 1048577 [0, 0], i 0, i 4, .agg [i 10, i 0, i 0, st [104,101,97,100,115], .slc 2097191 [38, 1] 0 1], .mp 2097190 [37, 1], .slc 2097189 [36, 1] 0 1, nP, i 0, nS, .slc 2097188 [35, 1] 0 1, nI]]⟩), (2097188, ⟨[35, 1], .row true 32 [.agg y1]⟩), (2097189, ⟨[36, 1], .row true 2 [.agg [i 1, i 1]]⟩), (2097190, ⟨[37, 1], .map true [] 0 [] []⟩), (2097191, ⟨[38, 1], .row true 5 [.agg [i 10, i 6, i 0, st [97,108,108], nS]]⟩), (2097192, ⟨[39, 1], .row true 32 [.agg y1]⟩)]⟩
theorem run34 : canF (S X4a 100 92) [1] ask34.ys (hpOf ask34.h) = some ⟨ask34.x, ask34.upd, true⟩ := by kernel_rfl
def ask43 : MsE := ⟨[st [102,108,117,115,104]], [], .tup [.agg [st [102,108,117,115,104], st [], nS, nS, .agg [nS, nS, i 0]], .lit (.bool true)], []⟩
theorem run43 : canF (S X4a 100 12) [1] ask43.ys (hpOf ask43.h) = some ⟨ask43.x, ask43.upd, true⟩ := by kernel_rfl
def ask44 : MsE := ⟨[st [110,111,112,101]], [], .tup [.agg [st [110,111,112,101], st [], nS, nS, .agg [nS, nS, i 0]], .lit (.bool false)], []⟩
theorem run44 : canF (S X4a 100 12) [1] ask44.ys (hpOf ask44.h) = some ⟨ask44.x, ask44.upd, true⟩ := by kernel_rfl
def tab12 : List MsE := [ask9, ask10, ask11, ask12, ask13, ask14, ask15, ask16, ask17, ask18, ask43, ask44]
theorem tab12_ok : ∀ e ∈ tab12, MsOk X4a 100 12 e := by
  intro e he
  simp only [tab12, List.mem_cons, List.not_mem_nil, or_false] at he
  rcases he with rfl | rfl | rfl | rfl | rfl | rfl | rfl | rfl | rfl | rfl | rfl | rfl
  · exact run9
  · exact run10
  · exact run11
  · exact run12
  · exact run13
  · exact run14
  · exact run15
  · exact run16
  · exact run17
  · exact run18
  · exact run43
  · exact run44
def tab57 : List MsE := [ask32]
theorem tab57_ok : ∀ e ∈ tab57, MsOk X4a 100 57 e := by
  intro e he
  simp only [tab57, List.mem_cons, List.not_mem_nil, or_false] at he
  rcases he with rfl
  · exact run32
def tab92 : List MsE := [ask31, ask34]
theorem tab92_ok : ∀ e ∈ tab92, MsOk X4a 100 92 e := by
  intro e he
  simp only [tab92, List.mem_cons, List.not_mem_nil, or_false] at he
  rcases he with rfl | rfl
  · exact run31
  · exact run34
def extF5a (f : FuncId) : Option (Go.AS.Id → Nat → List AV → Hp → Option Res) :=
  (bsel (Nat.beq f 12) (some (msX tab12))
  (bsel (Nat.beq f 57) (some (msX tab57))
  (bsel (Nat.beq f 92) (some (msX tab92)) (extF4a f))))
def X5a : PX := { P := Tryz.prog, gl := fun g => bsel (Nat.beq g 0) (some (.ref (.lit (.iface 143 (.agg #[.pointer (some ⟨9, 27, none⟩)]))))) none, ext := extF5a, own := fun _ _ => true, m := 100000 }
theorem sound5a : X5a.Sound := by
  refine ⟨sound4a.mix, sound4a.gl, fun f g h => ?_⟩
  have h : extF5a f = some g := h
  unfold extF5a at h
  cases hb12 : Nat.beq f 12
  · rw [hb12, bsel_false] at h
    cases hb57 : Nat.beq f 57
    · rw [hb57, bsel_false] at h
      cases hb92 : Nat.beq f 92
      · rw [hb92, bsel_false] at h
        exact sound4a.ext f g h
      · rw [hb92, bsel_true] at h; cases h
        obtain rfl := Nat.eq_of_beq_eq_true hb92
        exact msX_ok sound4a tab92_ok
    · rw [hb57, bsel_true] at h; cases h
      obtain rfl := Nat.eq_of_beq_eq_true hb57
      exact msX_ok sound4a tab57_ok
  · rw [hb12, bsel_true] at h; cases h
    obtain rfl := Nat.eq_of_beq_eq_true hb12
    exact msX_ok sound4a tab12_ok
def ask8 : List AV × AV := ([], .lit (.bool true))
theorem plain8 : noMem ask8.2 = true := by kernel_rfl
theorem run8 : firstR (S X5a 100 7 ask8.1 1 .nil []) = some ask8.2 := by kernel_rfl
def tab7 : List (List AV × AV) := [ask8]
theorem tab7_ok : ∀ e ∈ tab7, noMem e.2 = true ∧ firstR (S X5a 100 7 e.1 1 .nil []) = some e.2 := by
  intro e he
  simp only [tab7, List.mem_cons, List.not_mem_nil, or_false] at he
  rcases he with rfl
  · exact ⟨plain8, run8⟩
def extF6a (f : FuncId) : Option (Go.AS.Id → Nat → List AV → Hp → Option Res) :=
  (bsel (Nat.beq f 7) (some (lendT tab7)) (extF5a f))
def X6a : PX := { P := Tryz.prog, gl := fun g => bsel (Nat.beq g 0) (some (.ref (.lit (.iface 143 (.agg #[.pointer (some ⟨9, 27, none⟩)]))))) none, ext := extF6a, own := fun _ _ => true, m := 100000 }
theorem sound6a : X6a.Sound := by
  refine ⟨sound5a.mix, sound5a.gl, fun f g h => ?_⟩
  have h : extF6a f = some g := h
  unfold extF6a at h
  cases hb7 : Nat.beq f 7
  · rw [hb7, bsel_false] at h
    exact sound5a.ext f g h
  · rw [hb7, bsel_true] at h; cases h
    obtain rfl := Nat.eq_of_beq_eq_true hb7
    exact lendT_ok sound5a tab7_ok
end
end ScriptKnown
end Go.Proofs.YtidfefgnggombaaGreatDoor
