/-
  DERIVED. GIVEN WITH THE SEED: THE CARDS: each row of YtjbhoagglhhlbaaGreatDoorRows.lean that lists a variable, with what it lists TIED to the program's text (the seventh form; the later family's looks); each row that meets fmt, with fmt's text TOLD by the authors' own Lean function (tested against real Go, not proved from fmt's source: count such statements apart). THE CARD IS WHAT COUNTS. Prove the row's statement (the work); the ties are given (YtjbhoagglhhlbaaGreatDoorTie.lean); close each card by the builder's one call (the guide's Derived/Test/ToyasCard.lean, 'card_holds'). Laid BY PROGRAM, IN A SANDBOX (cutbox-door.mjs). By AI agents, Wed Nov 11 2026. No macro, syntax, notation, axiom, sorry.
-/
import Derived.Test.YtjbhoagglhhlbaaGreatDoorRows
import GoSem.ClaimSeven
namespace Go.Proofs.YtjbhoagglhhlbaaGreatDoor
namespace Rows

/-- THE TIED CARD OF 'armadalaw07.LangNil'. -/
def langNilCard : Claim7 := { stood := { row := langNilRow, standIns := [], harness := (true, "2764456fb497cc08e667febda4edc5a6d52b6e9eaff14b1a0743184097402670"), looks := true }, kinds := [], alts := [], laidByText := true, laidKinds := [.data, .data, .data, .sentinel, .sentinel], laidTests := true, laidLooks := .later }
def LangNilCardSaid : Prop := Claim7.holds Tryz.pinned (.plain (OpenSpec.ofChange langNilSpec)) langNilCard

/-- THE TIED CARD OF 'armadalaw15.TraceNil'. -/
def traceNilCard : Claim7 := { stood := { row := traceNilRow, standIns := [], harness := (true, "2764456fb497cc08e667febda4edc5a6d52b6e9eaff14b1a0743184097402670"), looks := true }, kinds := [], alts := [], laidByText := true, laidKinds := [.data, .data, .data, .sentinel, .sentinel], laidTests := true, laidLooks := .later }
def TraceNilCardSaid : Prop := Claim7.holds Tryz.pinned (.plain (OpenSpec.ofChange traceNilSpec)) traceNilCard

/-- THE SECOND FORM's CARD OF 'armadalaw07.LangNil'. -/
def langNilUptoCard : Claim7 := { stood := { row := langNilUptoRow, standIns := [], harness := (true, "2764456fb497cc08e667febda4edc5a6d52b6e9eaff14b1a0743184097402670"), looks := true }, kinds := [], alts := [], laidByText := true, laidKinds := [.data, .data, .data, .sentinel, .sentinel], laidTests := true, laidLooks := .later }
def LangNilUptoCardSaid : Prop := Claim7.holds Tryz.pinned (.plain (OpenSpec.upto langNilSpec)) langNilUptoCard

/-- THE SECOND FORM's CARD OF 'armadalaw15.TraceNil'. -/
def traceNilUptoCard : Claim7 := { stood := { row := traceNilUptoRow, standIns := [], harness := (true, "2764456fb497cc08e667febda4edc5a6d52b6e9eaff14b1a0743184097402670"), looks := true }, kinds := [], alts := [], laidByText := true, laidKinds := [.data, .data, .data, .sentinel, .sentinel], laidTests := true, laidLooks := .later }
def TraceNilUptoCardSaid : Prop := Claim7.holds Tryz.pinned (.plain (OpenSpec.upto traceNilSpec)) traceNilUptoCard
end Rows
end Go.Proofs.YtjbhoagglhhlbaaGreatDoor
