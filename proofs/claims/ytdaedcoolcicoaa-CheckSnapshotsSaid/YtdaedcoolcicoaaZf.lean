/- A piece of the evaluation of works. -/
import Derived.Test.YtdaedcoolcicoaaZd
namespace Go.Proofs.Ytdaedcoolcicoaa
noncomputable section
open Go Go.X
set_option maxRecDepth 100000 in
theorem piece2 : mrun Try.prog ov 1000 entered 1170 mst1 = some mst2 := by kernel_rfl
end
end Go.Proofs.Ytdaedcoolcicoaa
