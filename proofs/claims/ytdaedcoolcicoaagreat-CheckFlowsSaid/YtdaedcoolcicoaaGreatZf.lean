/- A piece of the evaluation of works. -/
import Derived.Test.YtdaedcoolcicoaaGreatZd
namespace Go.Proofs.YtdaedcoolcicoaaGreat
noncomputable section
open Go Go.X
set_option maxRecDepth 100000 in
theorem piece2 : mrun Tryz.prog ov 1000 entered 960 mst1 = some mst2 := by kernel_rfl
end
end Go.Proofs.YtdaedcoolcicoaaGreat
