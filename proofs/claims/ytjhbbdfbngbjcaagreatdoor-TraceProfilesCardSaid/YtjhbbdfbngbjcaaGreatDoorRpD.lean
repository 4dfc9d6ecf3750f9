/- Proved here: TraceProfilesCardSaid, the given tied card of TraceProfiles, for every input and with no condition of its own. -/
import Derived.Test.YtjhbbdfbngbjcaaGreatDoorYu
import Derived.Test.YtjhbbdfbngbjcaaGreatDoorRows
import Derived.Test.YtjhbbdfbngbjcaaGreatDoorCards
import Derived.Test.YtjhbbdfbngbjcaaGreatDoorTie
import Derived.Test.YtjhbbdfbngbjcaaGreatDoorChecked
import Derived.WalkKit
import Derived.ProofKit
import Derived.OpenShut
import Derived.Deep.Slices
import Derived.Carry
import Derived.LaidLaws
import Derived.LaidHandle
import Derived.Lay
import Derived.MakeChecks
import Derived.SevenTiedAt
namespace Go.Proofs.YtjhbbdfbngbjcaaGreatDoor
open Go Go.ChangeShapes Go.WideShapes Go.ChangeAt Go.RowKit
theorem traceProfiles : Rows.TraceProfilesCardSaid :=
 Claim7.holds_tied_plain_at .later [] [.data, .data, .data, .sentinel, .sentinel] true (true, "8e38b11da57b1a57c16b617e244b5979edc620266a2adf7b2a74aa860de50801") true
  traceProfilesSaid (fun _ h => by cases h) (by kernel_rfl) (fun _ h => by cases h) traceProfiles_row_tie rfl ⟨rfl, rfl⟩ (by kernel_rfl) rfl
  (fun f fn hf hfn => by
   obtain rfl : f = 3 := Option.some.inj ((show Tryz.prog.funcNamed "armada/armadalaw15.TraceProfiles" = some 3 by kernel_rfl).symm.trans hf) |>.symm
   obtain rfl : fn = Tryz.f3 := (Option.some.inj (Tryz.func3.symm.trans hfn)).symm
   exact ⟨by kernel_rfl, fun j t ht => by
    rw [Tryz.params3] at ht
    have h3 : t = 22 ∨ t = 24 := by
      rcases j with _ | _ | j
      · exact .inl (by simpa using ht.symm)
      · exact .inr (by simpa using ht.symm)
      · simp at ht
    rcases h3 with rfl | rfl
    · exact (show Tryz.prog.wantsStandIn 22 = false by kernel_rfl)
    · exact (show Tryz.prog.wantsStandIn 24 = false by kernel_rfl)⟩)
  (by kernel_rfl)
#print axioms traceProfiles
end Go.Proofs.YtjhbbdfbngbjcaaGreatDoor
