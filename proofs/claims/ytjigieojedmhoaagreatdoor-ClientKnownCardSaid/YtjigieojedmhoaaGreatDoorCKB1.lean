/- The law ClientKnown: what its parts answer at what it hands them, by the walk as a function, run by the kernel. No condition. -/
import Derived.Test.YtjigieojedmhoaaGreatDoorCKA
namespace Go.Proofs.YtjigieojedmhoaaGreatDoor
open Go.AS
namespace ClientKnown
noncomputable section

def ask14 : List AV × AV := ([.lst false 1 [.lit (.int .u8 1), .lit (.int .u8 0), .lit (.int .u8 0), .lit (.int .u8 0), .lit (.int .u8 1), .lit (.int .u8 1), .lit (.int .u8 2), .lit (.int .u8 160), .lit (.int .u8 0), .lit (.int .u8 14), .lit (.int .u8 0), .lit (.int .u8 0), .lit (.int .u8 0), .lit (.int .u8 0), .lit (.int .u8 0), .lit (.int .u8 0), .lit (.int .u8 0), .lit (.int .u8 0), .lit (.int .u8 0), .lit (.int .u8 0), .lit (.int .u8 0), .lit (.int .u8 0), .lit (.int .u8 0), .lit (.int .u8 0), .lit (.int .u8 0), .lit (.int .u8 0), .lit (.int .u8 0), .lit (.int .u8 0), .lit (.int .u8 0), .lit (.int .u8 0), .lit (.int .u8 0), .lit (.int .u8 0), .lit (.int .u8 0), .lit (.int .u8 0), .lit (.int .u8 0), .lit (.int .u8 0), .lit (.int .u8 0), .lit (.int .u8 0), .lit (.int .u8 2), .lit (.int .u8 1), .lit (.int .u8 160), .lit (.int .u8 0), .lit (.int .u8 14), .lit (.int .u8 0), .lit (.int .u8 0), .lit (.int .u8 0), .lit (.int .u8 0), .lit (.int .u8 0), .lit (.int .u8 0), .lit (.int .u8 0), .lit (.int .u8 0), .lit (.int .u8 0), .lit (.int .u8 0), .lit (.int .u8 0), .lit (.int .u8 0), .lit (.int .u8 0), .lit (.int .u8 0), .lit (.int .u8 0), .lit (.int .u8 0), .lit (.int .u8 0), .lit (.int .u8 0), .lit (.int .u8 0), .lit (.int .u8 0), .lit (.int .u8 0), .lit (.int .u8 0), .lit (.int .u8 0), .lit (.int .u8 0), .lit (.int .u8 0), .lit (.int .u8 0), .lit (.int .u8 0), .lit (.int .u8 0), .lit (.int .u8 2), .lit (.int .u8 2)]], .lit (.int .u32 3508739797))
theorem plain14 : noMem ask14.2 = true := by kernel_rfl
theorem run14 : firstR (S X 100 154 ask14.1 1 .nil []) = some ask14.2 := by kernel_rfl
end
end ClientKnown
end Go.Proofs.YtjigieojedmhoaaGreatDoor
