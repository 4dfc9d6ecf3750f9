/- A piece of the evaluation of works. -/
import Derived.Test.YtjbhoagglhhlbaaGreatDoorZj
import Derived.Test.YtjbhoagglhhlbaaGreatDoorZk
import Derived.Test.YtjbhoagglhhlbaaGreatDoorZl
import Derived.Test.YtjbhoagglhhlbaaGreatDoorZm
import Derived.Test.YtjbhoagglhhlbaaGreatDoorZn
import Derived.Test.YtjbhoagglhhlbaaGreatDoorZo
import Derived.Test.YtjbhoagglhhlbaaGreatDoorZp
import Derived.Test.YtjbhoagglhhlbaaGreatDoorZq
import Derived.Test.YtjbhoagglhhlbaaGreatDoorZr
import Derived.Test.YtjbhoagglhhlbaaGreatDoorZs
import Derived.Test.YtjbhoagglhhlbaaGreatDoorZt
namespace Go.Proofs.YtjbhoagglhhlbaaGreatDoor
noncomputable section
open Go Go.X
theorem worksYes (W : World) : Calls Tryz.prog 21 #[] W (YesPost W) := by
  refine yes_of_machine noCount mixed ov_ok (LF := 1000) (lv := 60) (h := hpEnd) (by kernel_rfl) ?_ W
  refine (mrun_sem entered_ok _ piece1).trans ?_
  refine (mrun_sem entered_ok _ piece2).trans ?_
  refine (mrun_sem entered_ok _ piece3).trans ?_
  refine (mrun_sem entered_ok _ piece4).trans ?_
  refine (mrun_sem entered_ok _ piece5).trans ?_
  refine (mrun_sem entered_ok _ piece6).trans ?_
  refine (mrun_sem entered_ok _ piece7).trans ?_
  refine (mrun_sem entered_ok _ piece8).trans ?_
  refine (mrun_sem entered_ok _ piece9).trans ?_
  refine (mrun_sem entered_ok _ piece10).trans ?_
  refine (mrun_sem entered_ok _ piece11).trans ?_
  rfl
end
end Go.Proofs.YtjbhoagglhhlbaaGreatDoor
