/- The law ClientKnown: the program as the walk knows it, with tables of what some functions answer. No condition. -/
import Derived.Test.YtjigieojedmhoaaGreatDoorCKC4
namespace Go.Proofs.YtjigieojedmhoaaGreatDoor
open Go.AS
namespace ClientKnown
noncomputable section

def ask18 : List AV × AV := ([], .lit (.bool true))
theorem plain18 : noMem ask18.2 = true := by kernel_rfl
theorem run18 : firstR (S X4a 100 9 ask18.1 1 .nil []) = some ask18.2 := by kernel_rfl
def tab9 : List (List AV × AV) := [ask18]
theorem tab9_ok : ∀ e ∈ tab9, noMem e.2 = true ∧ firstR (S X4a 100 9 e.1 1 .nil []) = some e.2 := by
  intro e he
  simp only [tab9, List.mem_cons, List.not_mem_nil, or_false] at he
  rcases he with rfl
  · exact ⟨plain18, run18⟩
def extF5a (f : FuncId) : Option (Go.AS.Id → Nat → List AV → Hp → Option Res) :=
  (bsel (Nat.beq f 9) (some (lendT tab9)) (extF4a f))
def X5a : PX := { P := Tryz.prog, gl := fun g => bsel (Nat.beq g 0) (some (.ref (.lit (.iface 293 (.agg #[.pointer (some ⟨7, 24, none⟩)]))))) none, ext := extF5a, own := fun _ _ => true, m := 100000 }
theorem sound5a : X5a.Sound := by
  refine ⟨sound4a.mix, sound4a.gl, fun f g h => ?_⟩
  have h : extF5a f = some g := h
  unfold extF5a at h
  cases hb9 : Nat.beq f 9
  · rw [hb9, bsel_false] at h
    exact sound4a.ext f g h
  · rw [hb9, bsel_true] at h; cases h
    obtain rfl := Nat.eq_of_beq_eq_true hb9
    exact lendT_ok sound4a tab9_ok
end
end ClientKnown
end Go.Proofs.YtjigieojedmhoaaGreatDoor
