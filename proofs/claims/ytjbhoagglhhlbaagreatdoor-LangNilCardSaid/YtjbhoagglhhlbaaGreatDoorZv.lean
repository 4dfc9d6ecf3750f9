/- A piece of the evaluation of works. -/
import Derived.Test.YtjbhoagglhhlbaaGreatDoorZg
import Derived.Test.YtjbhoagglhhlbaaGreatDoorZh
import Derived.Test.YtjbhoagglhhlbaaGreatDoorZi
namespace Go.Proofs.YtjbhoagglhhlbaaGreatDoor
noncomputable section
open Go Go.X
set_option maxRecDepth 100000 in
theorem piece13 : mrun Tryz.prog ov 1000 dropped entered 315 mst12 = some mst13 := by kernel_rfl
end
end Go.Proofs.YtjbhoagglhhlbaaGreatDoor
