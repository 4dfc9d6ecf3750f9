/- A piece of the evaluation of works. -/
import Derived.Test.YtdaedcoolcicoaaGreatZe
import Derived.Test.YtdaedcoolcicoaaGreatZf
import Derived.Test.YtdaedcoolcicoaaGreatZg
namespace Go.Proofs.YtdaedcoolcicoaaGreat
noncomputable section
open Go Go.X
theorem worksYes (W : World) : Calls Tryz.prog 11 #[] W (YesPost W) := by
  refine yes_of_machine noCount mixed ov_ok (LF := 1000) (lv := 60) (h := hpEnd) (by kernel_rfl) ?_ W
  refine (mrun_sem entered_ok _ piece1).trans ?_
  refine (mrun_sem entered_ok _ piece2).trans ?_
  refine (mrun_sem entered_ok _ piece3).trans ?_
  rfl
end
end Go.Proofs.YtdaedcoolcicoaaGreat
