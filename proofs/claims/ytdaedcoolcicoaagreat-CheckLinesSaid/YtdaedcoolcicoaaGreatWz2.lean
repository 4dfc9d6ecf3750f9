/- Piece 2 of the evaluation. -/
import Derived.Test.YtdaedcoolcicoaaGreatWz0
namespace Go.Proofs.YtdaedcoolcicoaaGreat
noncomputable section
open Go Go.X
set_option maxRecDepth 100000 in
theorem piece2 : mrun Tryz.prog ov 1000 entered 960 mst1 = some mst2 := by kernel_rfl
end
end Go.Proofs.YtdaedcoolcicoaaGreat
