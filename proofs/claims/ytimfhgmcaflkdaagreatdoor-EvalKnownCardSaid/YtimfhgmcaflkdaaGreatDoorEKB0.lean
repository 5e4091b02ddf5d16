/- The law EvalKnown: what its parts answer at what it hands them, by the walk as a function, run by the kernel. No condition. -/
import Derived.Test.YtimfhgmcaflkdaaGreatDoorEKA
namespace Go.Proofs.YtimfhgmcaflkdaaGreatDoor
open Go.AS
namespace EvalKnown
noncomputable section

def ask0 : List AV × AV := ([], .lit (.bool true))
theorem plain0 : Plain ask0 := ⟨by kernel_rfl, by kernel_rfl, by kernel_rfl, by kernel_rfl⟩
theorem run0 : firstR (S X 100 4 ask0.1 1 .nil []) = some ask0.2 := by kernel_rfl
def ask1 : List AV × AV := ([.lit (.string ⟨#[97, 48, 43, 98, 48]⟩), .lst true 2 [.agg [.lit (.int .i64 0), .lit (.int .i64 0)], .agg [.lit (.int .i64 1099511627776), .lit (.int .i64 1099511627776)]]], .lit (.bool true))
theorem plain1 : Plain ask1 := ⟨by kernel_rfl, by kernel_rfl, by kernel_rfl, by kernel_rfl⟩
theorem run1 : firstR (S X 100 13 ask1.1 1 .nil []) = some ask1.2 := by kernel_rfl
def ask2 : List AV × AV := ([.lit (.string ⟨#[97, 49, 58, 58]⟩), .lst true 2 [.agg [.lit (.int .i64 1), .lit (.int .i64 2)]]], .lit (.bool true))
theorem plain2 : Plain ask2 := ⟨by kernel_rfl, by kernel_rfl, by kernel_rfl, by kernel_rfl⟩
theorem run2 : firstR (S X 100 13 ask2.1 1 .nil []) = some ask2.2 := by kernel_rfl
end
end EvalKnown
end Go.Proofs.YtimfhgmcaflkdaaGreatDoor
