/- A piece of the evaluation of works. -/
import Derived.Test.YtjhbbdfbngbjcaaGreatDoorZg
import Derived.Test.YtjhbbdfbngbjcaaGreatDoorZh
import Derived.Test.YtjhbbdfbngbjcaaGreatDoorZi
import Derived.Test.YtjhbbdfbngbjcaaGreatDoorZj
import Derived.Test.YtjhbbdfbngbjcaaGreatDoorZk
import Derived.Test.YtjhbbdfbngbjcaaGreatDoorZl
import Derived.Test.YtjhbbdfbngbjcaaGreatDoorZm
import Derived.Test.YtjhbbdfbngbjcaaGreatDoorZn
import Derived.Test.YtjhbbdfbngbjcaaGreatDoorZo
import Derived.Test.YtjhbbdfbngbjcaaGreatDoorZp
import Derived.Test.YtjhbbdfbngbjcaaGreatDoorZq
namespace Go.Proofs.YtjhbbdfbngbjcaaGreatDoor
noncomputable section
open Go Go.X S
theorem worksYes (W : World) : Calls Tryz.prog 4 #[] W (YesPost W) := by
  refine yes_of_machine noCount mixed ov_ok (LF := 1000) (lv := 60) (h := hpEnd) (by kernel_rfl) ?_ W
  refine (mrun_sem entered_ok _ piece1).trans ?_
  refine (mrun_sem entered_ok _ piece2).trans ?_
  refine (mrun_sem entered_ok _ piece3).trans ?_
  refine (mrun_sem entered_ok _ piece4).trans ?_
  refine (mrun_sem entered_ok _ piece5).trans ?_
  refine (mrun_sem entered_ok _ piece6).trans ?_
  refine (mrun_sem entered_ok _ piece7).trans ?_
  refine (mrun_sem entered_ok _ piece8).trans ?_
  refine (mrun_sem entered_ok _ piece9).trans ?_
  refine (mrun_sem entered_ok _ piece10).trans ?_
  refine (mrun_sem entered_ok _ piece11).trans ?_
  rfl
end
end Go.Proofs.YtjhbbdfbngbjcaaGreatDoor
