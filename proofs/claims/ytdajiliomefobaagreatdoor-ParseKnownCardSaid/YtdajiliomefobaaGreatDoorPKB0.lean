/- The law ParseKnown: what its parts answer at what it hands them, by the walk as a function, run by the kernel. No condition. -/
import Derived.Test.YtdajiliomefobaaGreatDoorPKA
namespace Go.Proofs.YtdajiliomefobaaGreatDoor
open Go.AS
namespace ParseKnown
noncomputable section

def ask0 : List Value × Value := ([], .bool true)
theorem run0 : firstR (S X 100 12 (ask0.1.map .lit) 1 .nil []) = some (.lit ask0.2) := by kernel_rfl
def ask1 : List Value × Value := ([.string ⟨#[]⟩, .int .i64 15, .int .i64 0], .bool true)
theorem run1 : firstR (S X 100 37 (ask1.1.map .lit) 1 .nil []) = some (.lit ask1.2) := by kernel_rfl
def ask2 : List Value × Value := ([.string ⟨#[97, 32, 98]⟩, .int .i64 15, .int .i64 2], .bool true)
theorem run2 : firstR (S X 100 37 (ask2.1.map .lit) 1 .nil []) = some (.lit ask2.2) := by kernel_rfl
def ask3 : List Value × Value := ([.string ⟨#[122, 122]⟩, .int .i64 15, .int .i64 0], .bool true)
theorem run3 : firstR (S X 100 37 (ask3.1.map .lit) 1 .nil []) = some (.lit ask3.2) := by kernel_rfl
end
end ParseKnown
end Go.Proofs.YtdajiliomefobaaGreatDoor
