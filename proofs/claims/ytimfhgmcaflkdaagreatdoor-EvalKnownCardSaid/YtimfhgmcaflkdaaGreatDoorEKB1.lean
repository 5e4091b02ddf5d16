/- The law EvalKnown: what its parts answer at what it hands them, by the walk as a function, run by the kernel. No condition. -/
import Derived.Test.YtimfhgmcaflkdaaGreatDoorEKA
namespace Go.Proofs.YtimfhgmcaflkdaaGreatDoor
open Go.AS
namespace EvalKnown
noncomputable section

def ask3 : List AV × AV := ([.lit (.string ⟨#[97, 48, 58, 58, 97, 49]⟩), .lst true 2 [.agg [.lit (.int .i64 0), .lit (.int .i64 1)]]], .lit (.bool true))
theorem plain3 : Plain ask3 := ⟨by kernel_rfl, by kernel_rfl, by kernel_rfl, by kernel_rfl⟩
theorem run3 : firstR (S X 100 13 ask3.1 1 .nil []) = some ask3.2 := by kernel_rfl
def ask4 : List AV × AV := ([.lit (.string ⟨#[97, 48, 46, 46, 97, 50]⟩), .lst true 2 [.agg [.lit (.int .i64 1), .lit (.int .i64 2)]]], .lit (.bool true))
theorem plain4 : Plain ask4 := ⟨by kernel_rfl, by kernel_rfl, by kernel_rfl, by kernel_rfl⟩
theorem run4 : firstR (S X 100 13 ask4.1 1 .nil []) = some ask4.2 := by kernel_rfl
def ask5 : List AV × AV := ([.lit (.string ⟨#[33, 109, 97, 115, 116, 101, 114, 40, 41]⟩), .lst true 2 [.agg [.lit (.int .i64 1099511627776), .lit (.int .i64 1099511627776)]]], .lit (.bool true))
theorem plain5 : Plain ask5 := ⟨by kernel_rfl, by kernel_rfl, by kernel_rfl, by kernel_rfl⟩
theorem run5 : firstR (S X 100 13 ask5.1 1 .nil []) = some ask5.2 := by kernel_rfl
end
end EvalKnown
end Go.Proofs.YtimfhgmcaflkdaaGreatDoor
