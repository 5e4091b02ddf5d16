/- The functions of internal/reflectlite that errors.As calls. -/
import Derived.Test.YtpofhijgccocpaaGreatDoorASext
namespace Go.AS
noncomputable section
open Go.Extern
end
end Go.AS
