/- The law EvalKnown: what its parts answer at what it hands them, by the walk as a function, run by the kernel. No condition. -/
import Derived.Test.YtimfhgmcaflkdaaGreatDoorEKA
namespace Go.Proofs.YtimfhgmcaflkdaaGreatDoor
open Go.AS
namespace EvalKnown
noncomputable section

def ask12 : List AV × AV := ([.lit (.string ⟨#[108, 97, 115, 116, 40, 97, 108, 108, 40, 41, 44, 50, 41]⟩), .lst true 2 [.agg [.lit (.int .i64 0), .lit (.int .i64 1)]]], .lit (.bool true))
theorem plain12 : Plain ask12 := ⟨by kernel_rfl, by kernel_rfl, by kernel_rfl, by kernel_rfl⟩
theorem run12 : firstR (S X 100 13 ask12.1 1 .nil []) = some ask12.2 := by kernel_rfl
def ask13 : List AV × AV := ([.lit (.string ⟨#[108, 105, 109, 105, 116, 40, 109, 97, 115, 116, 101, 114, 40, 41, 44, 49, 41]⟩), .lst true 2 [.agg [.lit (.int .i64 2), .lit (.int .i64 2)]]], .lit (.bool true))
theorem plain13 : Plain ask13 := ⟨by kernel_rfl, by kernel_rfl, by kernel_rfl, by kernel_rfl⟩
theorem run13 : firstR (S X 100 13 ask13.1 1 .nil []) = some ask13.2 := by kernel_rfl
def ask14 : List AV × AV := ([.lit (.string ⟨#[110, 111, 110, 101, 40, 41]⟩), .lit (.slice none 0 0)], .lit (.bool true))
theorem plain14 : Plain ask14 := ⟨by kernel_rfl, by kernel_rfl, by kernel_rfl, by kernel_rfl⟩
theorem run14 : firstR (S X 100 13 ask14.1 1 .nil []) = some ask14.2 := by kernel_rfl
end
end EvalKnown
end Go.Proofs.YtimfhgmcaflkdaaGreatDoor
