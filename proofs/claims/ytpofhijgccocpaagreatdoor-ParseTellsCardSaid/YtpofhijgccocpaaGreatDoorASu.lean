/- The walk over code. -/
import Derived.Test.YtpofhijgccocpaaGreatDoorASt
namespace Go.AS
noncomputable section
section
variable {C:Cx} {n:Nat} {p:Id}
end
end
end Go.AS
