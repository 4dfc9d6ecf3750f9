/- Proved here: LangNilCardSaid, the given tied card of LangNil, for every input and with no condition of its own. -/
import Derived.Test.YtjbhoagglhhlbaaGreatDoorYo
import Derived.Test.YtjbhoagglhhlbaaGreatDoorRows
import Derived.Test.YtjbhoagglhhlbaaGreatDoorCards
import Derived.Test.YtjbhoagglhhlbaaGreatDoorTie
import Derived.Test.YtjbhoagglhhlbaaGreatDoorChecked
import Derived.WalkKit
import Derived.ProofKit
import Derived.OpenShut
import Derived.Deep.Slices
import Derived.Carry
import Derived.LaidLaws
import Derived.LaidHandle
import Derived.Lay
import Derived.MakeChecks
import Derived.SevenTiedAt
namespace Go.Proofs.YtjbhoagglhhlbaaGreatDoor
open Go Go.ChangeShapes Go.WideShapes Go.ChangeAt Go.RowKit
theorem langNil : Rows.LangNilCardSaid :=
  Claim7.holds_tied_plain_at .later [] [.data, .data, .data, .sentinel, .sentinel] true (true, "2764456fb497cc08e667febda4edc5a6d52b6e9eaff14b1a0743184097402670") true
    langNilSaid (fun _ h => by cases h) (by kernel_rfl) (fun _ h => by cases h) langNil_row_tie rfl ⟨rfl, rfl⟩ (by kernel_rfl) rfl
    (fun f fn hf hfn => by
      obtain rfl : f = 3 := Option.some.inj ((show Tryz.prog.funcNamed "armada/armadalaw07.LangNil" = some 3 by kernel_rfl).symm.trans hf) |>.symm
      obtain rfl : fn = Tryz.f3 := (Option.some.inj (Tryz.func3.symm.trans hfn)).symm
      exact ⟨by kernel_rfl, fun j t ht => by
        rw [Tryz.params3] at ht
        have h3 : t = 3 ∨ t = 9 := by
          rcases j with _ | _ | _ | j
          · exact .inl (by simpa using ht.symm)
          · exact .inl (by simpa using ht.symm)
          · exact .inr (by simpa using ht.symm)
          · simp at ht
        rcases h3 with rfl | rfl
        · exact (show Tryz.prog.wantsStandIn 3 = false by kernel_rfl)
        · exact (show Tryz.prog.wantsStandIn 9 = false by kernel_rfl)⟩)
    (by kernel_rfl)
#print axioms langNil
end Go.Proofs.YtjbhoagglhhlbaaGreatDoor
