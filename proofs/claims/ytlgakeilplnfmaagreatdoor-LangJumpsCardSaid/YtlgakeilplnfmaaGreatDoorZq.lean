/- A piece of the evaluation of works. -/
import Derived.Test.YtlgakeilplnfmaaGreatDoorZl
namespace Go.Proofs.YtlgakeilplnfmaaGreatDoor
noncomputable section
open Go Go.X S
set_option maxRecDepth 100000 in
theorem piece5 : mrun Tryz.prog ov 1000 dropped entered 3 mst4 = some mst5 := by kernel_rfl
end
end Go.Proofs.YtlgakeilplnfmaaGreatDoor
