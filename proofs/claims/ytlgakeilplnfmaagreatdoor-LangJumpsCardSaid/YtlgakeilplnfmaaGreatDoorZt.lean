/- A piece of the evaluation of works. -/
import Derived.Test.YtlgakeilplnfmaaGreatDoorZl
namespace Go.Proofs.YtlgakeilplnfmaaGreatDoor
noncomputable section
open Go Go.X S
set_option maxRecDepth 100000 in
theorem piece8 : mrun Tryz.prog ov 1000 dropped entered 281 mst7 = some mst8 := by kernel_rfl
end
end Go.Proofs.YtlgakeilplnfmaaGreatDoor
