/- A piece of the evaluation of works. -/
import Derived.Test.YtlgakeilplnfmaaGreatDoorZm
import Derived.Test.YtlgakeilplnfmaaGreatDoorZn
import Derived.Test.YtlgakeilplnfmaaGreatDoorZo
import Derived.Test.YtlgakeilplnfmaaGreatDoorZp
import Derived.Test.YtlgakeilplnfmaaGreatDoorZq
import Derived.Test.YtlgakeilplnfmaaGreatDoorZr
import Derived.Test.YtlgakeilplnfmaaGreatDoorZs
import Derived.Test.YtlgakeilplnfmaaGreatDoorZt
import Derived.Test.YtlgakeilplnfmaaGreatDoorZu
import Derived.Test.YtlgakeilplnfmaaGreatDoorZv
import Derived.Test.YtlgakeilplnfmaaGreatDoorZw
import Derived.Test.YtlgakeilplnfmaaGreatDoorZx
import Derived.Test.YtlgakeilplnfmaaGreatDoorZy
import Derived.Test.YtlgakeilplnfmaaGreatDoorZz
import Derived.Test.YtlgakeilplnfmaaGreatDoorYa
import Derived.Test.YtlgakeilplnfmaaGreatDoorYb
import Derived.Test.YtlgakeilplnfmaaGreatDoorYc
import Derived.Test.YtlgakeilplnfmaaGreatDoorYd
import Derived.Test.YtlgakeilplnfmaaGreatDoorYe
import Derived.Test.YtlgakeilplnfmaaGreatDoorYf
import Derived.Test.YtlgakeilplnfmaaGreatDoorYg
import Derived.Test.YtlgakeilplnfmaaGreatDoorYh
namespace Go.Proofs.YtlgakeilplnfmaaGreatDoor
noncomputable section
open Go Go.X S
theorem worksYes (W : World) : Calls Tryz.prog 7 #[] W (YesPost W) := by
 refine yes_of_machine noCount mixed ov_ok (LF := 1000) (lv := 60) (h := hpEnd) (by kernel_rfl) ?_ W
 refine (mrun_sem entered_ok _ piece1).trans ?_
 refine (mrun_sem entered_ok _ piece2).trans ?_
 refine (mrun_sem entered_ok _ piece3).trans ?_
 refine (mrun_sem entered_ok _ piece4).trans ?_
 refine (mrun_sem entered_ok _ piece5).trans ?_
 refine (mrun_sem entered_ok _ piece6).trans ?_
 refine (mrun_sem entered_ok _ piece7).trans ?_
 refine (mrun_sem entered_ok _ piece8).trans ?_
 refine (mrun_sem entered_ok _ piece9).trans ?_
 refine (mrun_sem entered_ok _ piece10).trans ?_
 refine (mrun_sem entered_ok _ piece11).trans ?_
 refine (mrun_sem entered_ok _ piece12).trans ?_
 refine (mrun_sem entered_ok _ piece13).trans ?_
 refine (mrun_sem entered_ok _ piece14).trans ?_
 refine (mrun_sem entered_ok _ piece15).trans ?_
 refine (mrun_sem entered_ok _ piece16).trans ?_
 refine (mrun_sem entered_ok _ piece17).trans ?_
 refine (mrun_sem entered_ok _ piece18).trans ?_
 refine (mrun_sem entered_ok _ piece19).trans ?_
 refine (mrun_sem entered_ok _ piece20).trans ?_
 refine (mrun_sem entered_ok _ piece21).trans ?_
 refine (mrun_sem entered_ok _ piece22).trans ?_
 rfl
end
end Go.Proofs.YtlgakeilplnfmaaGreatDoor
