/- A piece of the evaluation of works. -/
import Derived.Test.YtlgakeilplnfmaaGreatDoorZl
namespace Go.Proofs.YtlgakeilplnfmaaGreatDoor
noncomputable section
open Go Go.X S
set_option maxRecDepth 100000 in
theorem piece6 : mrun Tryz.prog ov 1000 dropped entered 259 mst5 = some mst6 := by kernel_rfl
end
end Go.Proofs.YtlgakeilplnfmaaGreatDoor
