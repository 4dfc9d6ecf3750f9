/- A piece of the evaluation of works. -/
import Derived.Test.YtlgakeilplnfmaaGreatDoorZl
namespace Go.Proofs.YtlgakeilplnfmaaGreatDoor
noncomputable section
open Go Go.X S
set_option maxRecDepth 100000 in
theorem piece1 : mrun Tryz.prog ov 1000 dropped entered 39 (Go.X.start 7 60 [] ah0) = some mst1 := by kernel_rfl
end
end Go.Proofs.YtlgakeilplnfmaaGreatDoor
