/- A part of the row of LangJumps. -/
import Derived.Test.YtlgakeilplnfmaaGreatDoorYq
import Derived.Test.YtlgakeilplnfmaaGreatDoorYr
import Derived.Test.YtlgakeilplnfmaaGreatDoorRows
import Derived.Test.YtlgakeilplnfmaaGreatDoorCards
import Derived.Test.YtlgakeilplnfmaaGreatDoorTie
import Derived.Test.YtlgakeilplnfmaaGreatDoorChecked
import Derived.WalkKit
import Derived.ProofKit
import Derived.OpenShut
import Derived.Deep.Slices
import Derived.Carry
import Derived.LaidLaws
import Derived.LaidHandle
import Derived.Lay
import Derived.MakeChecks
import Derived.SevenTiedAt
namespace Go.Proofs.YtlgakeilplnfmaaGreatDoor
open Go Go.ChangeShapes Go.WideShapes Go.ChangeAt Go.RowKit
theorem langJumpsSaid : Rows.LangJumpsSaid :=
 OpenClaim.holds_of_wide 4 Tryz.f4 rfl rfl rfl rfl rfl rfl rfl ⟨rfl, rfl, rfl, rfl, rfl⟩ rfl rfl rfl rfl rfl hnamed Tryz.func4 closed
  (of_decide_eq_true (by kernel_rfl)) (by unfold Func.isWrapper; first | (rw [if_pos (by decide +kernel)]; kernel_rfl) | (rw [if_neg (by decide +kernel)]; exact ⟨rfl, rfl⟩))
  (fun os started H enc _ => lifted os started H enc)
end Go.Proofs.YtlgakeilplnfmaaGreatDoor
