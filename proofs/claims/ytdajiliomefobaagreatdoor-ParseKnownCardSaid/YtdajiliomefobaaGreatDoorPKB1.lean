/- The law ParseKnown: what its parts answer at what it hands them, by the walk as a function, run by the kernel. No condition. -/
import Derived.Test.YtdajiliomefobaaGreatDoorPKA
namespace Go.Proofs.YtdajiliomefobaaGreatDoor
open Go.AS
namespace ParseKnown
noncomputable section

def ask4 : List Value × Value := ([.string ⟨#[122, 122, 40, 97, 41]⟩, .int .i64 15, .int .i64 0], .bool true)
theorem run4 : firstR (S X 100 37 (ask4.1.map .lit) 1 .nil []) = some (.lit ask4.2) := by kernel_rfl
def ask5 : List Value × Value := ([.string ⟨#[97, 58, 58, 98, 58, 58, 99]⟩, .int .i64 15, .int .i64 4], .bool true)
theorem run5 : firstR (S X 100 37 (ask5.1.map .lit) 1 .nil []) = some (.lit ask5.2) := by kernel_rfl
def ask6 : List Value × Value := ([.string ⟨#[112, 97, 114, 101, 110, 116, 115, 40, 41]⟩, .int .i64 15, .int .i64 8], .bool true)
theorem run6 : firstR (S X 100 37 (ask6.1.map .lit) 1 .nil []) = some (.lit ask6.2) := by kernel_rfl
def ask7 : List Value × Value := ([.string ⟨#[102, 105, 114, 115, 116, 40, 97, 41]⟩, .int .i64 15, .int .i64 7], .bool true)
theorem run7 : firstR (S X 100 37 (ask7.1.map .lit) 1 .nil []) = some (.lit ask7.2) := by kernel_rfl
end
end ParseKnown
end Go.Proofs.YtdajiliomefobaaGreatDoor
