/- The law EvalKnown: what its parts answer at what it hands them, by the walk as a function, run by the kernel. No condition. -/
import Derived.Test.YtimfhgmcaflkdaaGreatDoorEKA
namespace Go.Proofs.YtimfhgmcaflkdaaGreatDoor
open Go.AS
namespace EvalKnown
noncomputable section

def ask6 : List AV × AV := ([.lit (.string ⟨#[97, 108, 108, 40, 41, 45, 109, 97, 115, 116, 101, 114, 40, 41]⟩), .lst true 2 [.agg [.lit (.int .i64 1099511627776), .lit (.int .i64 1099511627776)]]], .lit (.bool true))
theorem plain6 : Plain ask6 := ⟨by kernel_rfl, by kernel_rfl, by kernel_rfl, by kernel_rfl⟩
theorem run6 : firstR (S X 100 13 ask6.1 1 .nil []) = some ask6.2 := by kernel_rfl
def ask7 : List AV × AV := ([.lit (.string ⟨#[99, 104, 105, 108, 100, 114, 101, 110, 40, 97, 48, 41]⟩), .lst true 2 [.agg [.lit (.int .i64 1), .lit (.int .i64 1)], .agg [.lit (.int .i64 1099511627776), .lit (.int .i64 1099511627776)]]], .lit (.bool true))
theorem plain7 : Plain ask7 := ⟨by kernel_rfl, by kernel_rfl, by kernel_rfl, by kernel_rfl⟩
theorem run7 : firstR (S X 100 13 ask7.1 1 .nil []) = some ask7.2 := by kernel_rfl
def ask8 : List AV × AV := ([.lit (.string ⟨#[112, 97, 114, 101, 110, 116, 115, 40, 98, 48, 43, 97, 50, 41]⟩), .lst true 2 [.agg [.lit (.int .i64 0), .lit (.int .i64 1)]]], .lit (.bool true))
theorem plain8 : Plain ask8 := ⟨by kernel_rfl, by kernel_rfl, by kernel_rfl, by kernel_rfl⟩
theorem run8 : firstR (S X 100 13 ask8.1 1 .nil []) = some ask8.2 := by kernel_rfl
end
end EvalKnown
end Go.Proofs.YtimfhgmcaflkdaaGreatDoor
