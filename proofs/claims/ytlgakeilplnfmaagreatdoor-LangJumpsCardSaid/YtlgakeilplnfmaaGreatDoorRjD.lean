/- Proved here: LangJumpsCardSaid, the given tied card of LangJumps, for every input and with no condition of its own. -/
import Derived.Test.YtlgakeilplnfmaaGreatDoorYs
import Derived.Test.YtlgakeilplnfmaaGreatDoorRows
import Derived.Test.YtlgakeilplnfmaaGreatDoorCards
import Derived.Test.YtlgakeilplnfmaaGreatDoorTie
import Derived.Test.YtlgakeilplnfmaaGreatDoorChecked
import Derived.WalkKit
import Derived.ProofKit
import Derived.OpenShut
import Derived.Deep.Slices
import Derived.Carry
import Derived.LaidLaws
import Derived.LaidHandle
import Derived.Lay
import Derived.MakeChecks
import Derived.SevenTiedAt
namespace Go.Proofs.YtlgakeilplnfmaaGreatDoor
open Go Go.ChangeShapes Go.WideShapes Go.ChangeAt Go.RowKit
theorem langJumps : Rows.LangJumpsCardSaid :=
 Claim7.holds_tied_plain_at .later [] [.data, .data, .data, .sentinel, .sentinel] true (true, "37362f865d4acf4039bd6c02cd88a75a224a78db09d041960aa07d274588765c") true
  langJumpsSaid (fun _ h => by cases h) (by kernel_rfl) (fun _ h => by cases h) langJumps_row_tie rfl ⟨rfl, rfl⟩ (by kernel_rfl) rfl
  (fun f fn hf hfn => by
   obtain rfl : f = 4 := Option.some.inj ((show Tryz.prog.funcNamed "armada/armadalaw07.LangJumps" = some 4 by kernel_rfl).symm.trans hf) |>.symm
   obtain rfl : fn = Tryz.f4 := (Option.some.inj (Tryz.func4.symm.trans hfn)).symm
   exact ⟨by kernel_rfl, fun j t ht => by
    rw [Tryz.params4] at ht
    obtain rfl : t = 22 := by
     rcases j with _ | j
     · simpa using ht.symm
     · simp at ht
    exact (show Tryz.prog.wantsStandIn 22 = false by kernel_rfl)⟩)
  (by kernel_rfl)
#print axioms langJumps
end Go.Proofs.YtlgakeilplnfmaaGreatDoor
