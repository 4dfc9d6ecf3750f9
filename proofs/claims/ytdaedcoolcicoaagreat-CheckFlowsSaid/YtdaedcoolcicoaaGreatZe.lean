/- A piece of the evaluation of works. -/
import Derived.Test.YtdaedcoolcicoaaGreatZd
namespace Go.Proofs.YtdaedcoolcicoaaGreat
noncomputable section
open Go Go.X
set_option maxRecDepth 100000 in
theorem piece1 : mrun Tryz.prog ov 1000 entered 718 (Go.X.start 11 60 [] ah0) = some mst1 := by kernel_rfl
end
end Go.Proofs.YtdaedcoolcicoaaGreat
