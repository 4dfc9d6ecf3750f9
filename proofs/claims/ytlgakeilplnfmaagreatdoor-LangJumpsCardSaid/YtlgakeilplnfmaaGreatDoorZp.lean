/- A piece of the evaluation of works. -/
import Derived.Test.YtlgakeilplnfmaaGreatDoorZl
namespace Go.Proofs.YtlgakeilplnfmaaGreatDoor
noncomputable section
open Go Go.X S
set_option maxRecDepth 100000 in
theorem piece4 : mrun Tryz.prog ov 1000 dropped entered 970 mst3 = some mst4 := by kernel_rfl
end
end Go.Proofs.YtlgakeilplnfmaaGreatDoor
