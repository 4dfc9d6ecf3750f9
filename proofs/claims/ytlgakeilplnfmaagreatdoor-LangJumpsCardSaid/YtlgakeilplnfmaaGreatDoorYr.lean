/- A part of the row of LangJumps. -/
import Derived.Test.YtlgakeilplnfmaaGreatDoorRows
import Derived.Test.YtlgakeilplnfmaaGreatDoorCards
import Derived.Test.YtlgakeilplnfmaaGreatDoorTie
import Derived.Test.YtlgakeilplnfmaaGreatDoorChecked
import Derived.WalkKit
import Derived.ProofKit
import Derived.OpenShut
import Derived.Deep.Slices
import Derived.Carry
import Derived.LaidLaws
import Derived.LaidHandle
import Derived.Lay
import Derived.MakeChecks
import Derived.SevenTiedAt
namespace Go.Proofs.YtlgakeilplnfmaaGreatDoor
open Go Go.ChangeShapes Go.WideShapes Go.ChangeAt Go.RowKit
set_option maxRecDepth 100000 in
set_option maxHeartbeats 8000000 in
theorem closed : joinedFacts Tryz.pinned.checked.prog 4 Tryz.f4 Rows.langJumpsSpec Rows.langJumpsRow = true := by
 unfold joinedFacts
 simp only [Bool.and_eq_true]
 and_intros
 all_goals as_aux_lemma => kernel_rfl
theorem hnamed : Tryz.pinned.checked.prog.funcNamed Rows.langJumpsRow.func = some 4 := by kernel_rfl
end Go.Proofs.YtlgakeilplnfmaaGreatDoor
