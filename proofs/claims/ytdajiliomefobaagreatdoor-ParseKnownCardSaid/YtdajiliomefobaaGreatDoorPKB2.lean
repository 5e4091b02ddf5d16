/- The law ParseKnown: what its parts answer at what it hands them, by the walk as a function, run by the kernel. No condition. -/
import Derived.Test.YtdajiliomefobaaGreatDoorPKA
namespace Go.Proofs.YtdajiliomefobaaGreatDoor
open Go.AS
namespace ParseKnown
noncomputable section

def ask8 : List Value × Value := ([.string ⟨#[102, 105, 114, 115, 116, 40, 97, 44, 98, 41]⟩, .int .i64 15, .int .i64 8], .bool true)
theorem run8 : firstR (S X 100 37 (ask8.1.map .lit) 1 .nil []) = some (.lit ask8.2) := by kernel_rfl
def ask9 : List Value × Value := ([.string ⟨#[58, 58]⟩, .int .i64 15, .int .i64 2], .bool true)
theorem run9 : firstR (S X 100 37 (ask9.1.map .lit) 1 .nil []) = some (.lit ask9.2) := by kernel_rfl
def ask10 : List Value × Value := ([.string ⟨#[33, 33, 33, 33, 33, 33, 33, 33, 33, 33, 33, 33, 33, 33, 33, 33, 33, 33, 33, 33, 33, 33, 33, 33, 33, 97]⟩, .int .i64 16, .int .i64 24], .bool true)
theorem run10 : firstR (S X 100 37 (ask10.1.map .lit) 1 .nil []) = some (.lit ask10.2) := by kernel_rfl
def ask11 : List Value × Value := ([.string ⟨#[33, 33, 33, 33, 33, 33, 33, 33, 33, 33, 33, 33, 33, 33, 33, 33, 33, 33, 33, 33, 33, 33, 33, 33, 40]⟩, .int .i64 16, .int .i64 24], .bool true)
theorem run11 : firstR (S X 100 37 (ask11.1.map .lit) 1 .nil []) = some (.lit ask11.2) := by kernel_rfl
end
end ParseKnown
end Go.Proofs.YtdajiliomefobaaGreatDoor
