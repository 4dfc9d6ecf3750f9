/- A part of the row of TraceProfiles. -/
import Derived.Test.YtjhbbdfbngbjcaaGreatDoorYs
import Derived.Test.YtjhbbdfbngbjcaaGreatDoorYt
import Derived.Test.YtjhbbdfbngbjcaaGreatDoorRows
import Derived.Test.YtjhbbdfbngbjcaaGreatDoorCards
import Derived.Test.YtjhbbdfbngbjcaaGreatDoorTie
import Derived.Test.YtjhbbdfbngbjcaaGreatDoorChecked
import Derived.WalkKit
import Derived.ProofKit
import Derived.OpenShut
import Derived.Deep.Slices
import Derived.Carry
import Derived.LaidLaws
import Derived.LaidHandle
import Derived.Lay
import Derived.MakeChecks
import Derived.SevenTiedAt
namespace Go.Proofs.YtjhbbdfbngbjcaaGreatDoor
open Go Go.ChangeShapes Go.WideShapes Go.ChangeAt Go.RowKit
theorem traceProfilesSaid : Rows.TraceProfilesSaid :=
 OpenClaim.holds_of_wide 3 Tryz.f3 rfl rfl rfl rfl rfl rfl rfl ⟨rfl, rfl, rfl, rfl, rfl⟩ rfl rfl rfl rfl rfl hnamed Tryz.func3 closed
  (of_decide_eq_true (by kernel_rfl)) (by unfold Func.isWrapper; first | (rw [if_pos (by decide +kernel)]; kernel_rfl) | (rw [if_neg (by decide +kernel)]; exact ⟨rfl, rfl⟩))
  (fun os started H enc _ => lifted os started H enc)
end Go.Proofs.YtjhbbdfbngbjcaaGreatDoor
