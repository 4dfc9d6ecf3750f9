/- A piece of the evaluation of works. -/
import Derived.Test.YtlgakeilplnfmaaGreatDoorZl
namespace Go.Proofs.YtlgakeilplnfmaaGreatDoor
noncomputable section
open Go Go.X S
set_option maxRecDepth 100000 in
theorem piece10 : mrun Tryz.prog ov 1000 dropped entered 782 mst9 = some mst10 := by kernel_rfl
end
end Go.Proofs.YtlgakeilplnfmaaGreatDoor
