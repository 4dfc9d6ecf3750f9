/- A part of the row of TraceProfiles. -/
import Derived.Test.YtjhbbdfbngbjcaaGreatDoorRows
import Derived.Test.YtjhbbdfbngbjcaaGreatDoorCards
import Derived.Test.YtjhbbdfbngbjcaaGreatDoorTie
import Derived.Test.YtjhbbdfbngbjcaaGreatDoorChecked
import Derived.WalkKit
import Derived.ProofKit
import Derived.OpenShut
import Derived.Deep.Slices
import Derived.Carry
import Derived.LaidLaws
import Derived.LaidHandle
import Derived.Lay
import Derived.MakeChecks
import Derived.SevenTiedAt
namespace Go.Proofs.YtjhbbdfbngbjcaaGreatDoor
open Go Go.ChangeShapes Go.WideShapes Go.ChangeAt Go.RowKit
set_option maxRecDepth 100000 in
set_option maxHeartbeats 8000000 in
theorem closed : joinedFacts Tryz.pinned.checked.prog 3 Tryz.f3 Rows.traceProfilesSpec Rows.traceProfilesRow = true := by
 unfold joinedFacts
 simp only [Bool.and_eq_true]
 and_intros
 all_goals as_aux_lemma => kernel_rfl
theorem hnamed : Tryz.pinned.checked.prog.funcNamed Rows.traceProfilesRow.func = some 3 := by kernel_rfl
end Go.Proofs.YtjhbbdfbngbjcaaGreatDoor
