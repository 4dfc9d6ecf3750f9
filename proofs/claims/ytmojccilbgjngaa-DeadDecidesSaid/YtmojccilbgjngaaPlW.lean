/- Plain laws. -/
import Derived.Test.YtmojccilbgjngaaPureT4
namespace Go.Arm
open Go
theorem works_true : law08_works 1300 = some true := by decide +kernel
end Go.Arm
