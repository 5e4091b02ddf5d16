/- The law EvalKnown: what its parts answer at what it hands them, by the walk as a function, run by the kernel. No condition. -/
import Derived.Test.YtimfhgmcaflkdaaGreatDoorEKA
namespace Go.Proofs.YtimfhgmcaflkdaaGreatDoor
open Go.AS
namespace EvalKnown
noncomputable section

def ask9 : List AV × AV := ([.lit (.string ⟨#[104, 101, 97, 100, 115, 40, 97, 108, 108, 40, 41, 41]⟩), .lst true 2 [.agg [.lit (.int .i64 2), .lit (.int .i64 2)], .agg [.lit (.int .i64 1099511627776), .lit (.int .i64 1099511627776)]]], .lit (.bool true))
theorem plain9 : Plain ask9 := ⟨by kernel_rfl, by kernel_rfl, by kernel_rfl, by kernel_rfl⟩
theorem run9 : firstR (S X 100 13 ask9.1 1 .nil []) = some ask9.2 := by kernel_rfl
def ask10 : List AV × AV := ([.lit (.string ⟨#[114, 111, 111, 116, 115, 40, 97, 108, 108, 40, 41, 45, 97, 48, 41]⟩), .lst true 2 [.agg [.lit (.int .i64 1), .lit (.int .i64 1)], .agg [.lit (.int .i64 1099511627776), .lit (.int .i64 1099511627776)]]], .lit (.bool true))
theorem plain10 : Plain ask10 := ⟨by kernel_rfl, by kernel_rfl, by kernel_rfl, by kernel_rfl⟩
theorem run10 : firstR (S X 100 13 ask10.1 1 .nil []) = some ask10.2 := by kernel_rfl
def ask11 : List AV × AV := ([.lit (.string ⟨#[102, 105, 114, 115, 116, 40, 97, 108, 108, 40, 41, 44, 49, 41]⟩), .lst true 2 [.agg [.lit (.int .i64 1099511627776), .lit (.int .i64 1099511627776)]]], .lit (.bool true))
theorem plain11 : Plain ask11 := ⟨by kernel_rfl, by kernel_rfl, by kernel_rfl, by kernel_rfl⟩
theorem run11 : firstR (S X 100 13 ask11.1 1 .nil []) = some ask11.2 := by kernel_rfl
end
end EvalKnown
end Go.Proofs.YtimfhgmcaflkdaaGreatDoor
