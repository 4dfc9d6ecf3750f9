/- A piece of the evaluation of works. -/
import Derived.Test.YtjbhoagglhhlbaaGreatDoorZj
import Derived.Test.YtjbhoagglhhlbaaGreatDoorZk
import Derived.Test.YtjbhoagglhhlbaaGreatDoorZl
import Derived.Test.YtjbhoagglhhlbaaGreatDoorZm
import Derived.Test.YtjbhoagglhhlbaaGreatDoorZn
import Derived.Test.YtjbhoagglhhlbaaGreatDoorZo
import Derived.Test.YtjbhoagglhhlbaaGreatDoorZp
import Derived.Test.YtjbhoagglhhlbaaGreatDoorZq
import Derived.Test.YtjbhoagglhhlbaaGreatDoorZr
import Derived.Test.YtjbhoagglhhlbaaGreatDoorZs
import Derived.Test.YtjbhoagglhhlbaaGreatDoorZt
import Derived.Test.YtjbhoagglhhlbaaGreatDoorZu
import Derived.Test.YtjbhoagglhhlbaaGreatDoorZv
import Derived.Test.YtjbhoagglhhlbaaGreatDoorZw
import Derived.Test.YtjbhoagglhhlbaaGreatDoorZx
import Derived.Test.YtjbhoagglhhlbaaGreatDoorZy
import Derived.Test.YtjbhoagglhhlbaaGreatDoorZz
import Derived.Test.YtjbhoagglhhlbaaGreatDoorYa
import Derived.Test.YtjbhoagglhhlbaaGreatDoorYb
import Derived.Test.YtjbhoagglhhlbaaGreatDoorYc
import Derived.Test.YtjbhoagglhhlbaaGreatDoorYd
import Derived.Test.YtjbhoagglhhlbaaGreatDoorYe
import Derived.Test.YtjbhoagglhhlbaaGreatDoorYf
import Derived.Test.YtjbhoagglhhlbaaGreatDoorYg
import Derived.Test.YtjbhoagglhhlbaaGreatDoorYh
import Derived.Test.YtjbhoagglhhlbaaGreatDoorYi
import Derived.Test.YtjbhoagglhhlbaaGreatDoorYj
namespace Go.Proofs.YtjbhoagglhhlbaaGreatDoor
noncomputable section
open Go Go.X
theorem worksYes (W : World) : Calls Tryz.prog 18 #[] W (YesPost W) := by
  refine yes_of_machine noCount mixed ov_ok (LF := 1000) (lv := 60) (h := hpEnd) (by kernel_rfl) ?_ W
  refine (mrun_sem entered_ok _ piece1).trans ?_
  refine (mrun_sem entered_ok _ piece2).trans ?_
  refine (mrun_sem entered_ok _ piece3).trans ?_
  refine (mrun_sem entered_ok _ piece4).trans ?_
  refine (mrun_sem entered_ok _ piece5).trans ?_
  refine (mrun_sem entered_ok _ piece6).trans ?_
  refine (mrun_sem entered_ok _ piece7).trans ?_
  refine (mrun_sem entered_ok _ piece8).trans ?_
  refine (mrun_sem entered_ok _ piece9).trans ?_
  refine (mrun_sem entered_ok _ piece10).trans ?_
  refine (mrun_sem entered_ok _ piece11).trans ?_
  refine (mrun_sem entered_ok _ piece12).trans ?_
  refine (mrun_sem entered_ok _ piece13).trans ?_
  refine (mrun_sem entered_ok _ piece14).trans ?_
  refine (mrun_sem entered_ok _ piece15).trans ?_
  refine (mrun_sem entered_ok _ piece16).trans ?_
  refine (mrun_sem entered_ok _ piece17).trans ?_
  refine (mrun_sem entered_ok _ piece18).trans ?_
  refine (mrun_sem entered_ok _ piece19).trans ?_
  refine (mrun_sem entered_ok _ piece20).trans ?_
  refine (mrun_sem entered_ok _ piece21).trans ?_
  refine (mrun_sem entered_ok _ piece22).trans ?_
  refine (mrun_sem entered_ok _ piece23).trans ?_
  refine (mrun_sem entered_ok _ piece24).trans ?_
  refine (mrun_sem entered_ok _ piece25).trans ?_
  refine (mrun_sem entered_ok _ piece26).trans ?_
  refine (mrun_sem entered_ok _ piece27).trans ?_
  rfl
end
end Go.Proofs.YtjbhoagglhhlbaaGreatDoor
