/- Proved here: TraceNilCardSaid, the given tied card of TraceNil, for every input and with no condition of its own. -/
import Derived.Test.YtjbhoagglhhlbaaGreatDoorZy
import Derived.Test.YtjbhoagglhhlbaaGreatDoorRows
import Derived.Test.YtjbhoagglhhlbaaGreatDoorCards
import Derived.Test.YtjbhoagglhhlbaaGreatDoorTie
import Derived.Test.YtjbhoagglhhlbaaGreatDoorChecked
import Derived.WalkKit
import Derived.ProofKit
import Derived.OpenShut
import Derived.Deep.Slices
import Derived.Carry
import Derived.LaidLaws
import Derived.LaidHandle
import Derived.Lay
import Derived.MakeChecks
import Derived.SevenTiedAt
namespace Go.Proofs.YtjbhoagglhhlbaaGreatDoor
open Go Go.ChangeShapes Go.WideShapes Go.ChangeAt Go.RowKit
theorem traceNil : Rows.TraceNilCardSaid :=
  Claim7.holds_tied_plain_at .later [] [.data, .data, .data, .sentinel, .sentinel] true (true, "2764456fb497cc08e667febda4edc5a6d52b6e9eaff14b1a0743184097402670") true
    traceNilSaid (fun _ h => by cases h) (by kernel_rfl) (fun _ h => by cases h) traceNil_row_tie rfl ⟨rfl, rfl⟩ (by kernel_rfl) rfl
    (fun f fn hf hfn => by
      obtain rfl : f = 4 := Option.some.inj ((show Tryz.prog.funcNamed "armada/armadalaw15.TraceNil" = some 4 by kernel_rfl).symm.trans hf) |>.symm
      obtain rfl : fn = Tryz.f4 := (Option.some.inj (Tryz.func4.symm.trans hfn)).symm
      exact ⟨by kernel_rfl, fun j t ht => by
        rw [Tryz.params4] at ht
        have h3 : t = 3 := by
          rcases j with _ | j
          · simpa using ht.symm
          · simp at ht
        subst h3
        exact (show Tryz.prog.wantsStandIn 3 = false by kernel_rfl)⟩)
    (by kernel_rfl)
#print axioms traceNil
end Go.Proofs.YtjbhoagglhhlbaaGreatDoor
