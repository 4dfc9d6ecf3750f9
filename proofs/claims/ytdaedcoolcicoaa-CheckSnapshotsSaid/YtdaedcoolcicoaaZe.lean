/- A piece of the evaluation of works. -/
import Derived.Test.YtdaedcoolcicoaaZd
namespace Go.Proofs.Ytdaedcoolcicoaa
noncomputable section
open Go Go.X
set_option maxRecDepth 100000 in
theorem piece1 : mrun Try.prog ov 1000 entered 938 (Go.X.start 9 60 [] ah0) = some mst1 := by kernel_rfl
end
end Go.Proofs.Ytdaedcoolcicoaa
