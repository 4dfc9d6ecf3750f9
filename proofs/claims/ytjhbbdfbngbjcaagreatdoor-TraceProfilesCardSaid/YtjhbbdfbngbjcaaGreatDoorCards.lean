/-
  DERIVED. GIVEN WITH THE SEED: THE CARDS: each row of YtjhbbdfbngbjcaaGreatDoorRows.lean that lists a variable, with what it lists TIED to the program's text (the seventh form; the later family's looks); each row that meets fmt, with fmt's text TOLD by the authors' own Lean function (tested against real Go, not proved from fmt's source: count such statements apart). THE CARD IS WHAT COUNTS. Prove the row's statement (the work); the ties are given (YtjhbbdfbngbjcaaGreatDoorTie.lean); close each card by the builder's one call (the guide's Derived/Test/ToyasCard.lean, 'card_holds'). Laid BY PROGRAM, IN A SANDBOX (cutbox-door.mjs). By AI agents, Wed Nov 11 2026. No macro, syntax, notation, axiom, sorry.
-/
import Derived.Test.YtjhbbdfbngbjcaaGreatDoorRows
import GoSem.ClaimSeven
namespace Go.Proofs.YtjhbbdfbngbjcaaGreatDoor
namespace Rows

/-- THE TIED CARD OF 'armadalaw15.TraceProfiles'. -/
def traceProfilesCard : Claim7 := { stood := { row := traceProfilesRow, standIns := [], harness := (true, "8e38b11da57b1a57c16b617e244b5979edc620266a2adf7b2a74aa860de50801"), looks := true }, kinds := [], alts := [], laidByText := true, laidKinds := [.data, .data, .data, .sentinel, .sentinel], laidTests := true, laidLooks := .later }
def TraceProfilesCardSaid : Prop := Claim7.holds Tryz.pinned (.plain (OpenSpec.ofChange traceProfilesSpec)) traceProfilesCard

/-- THE SECOND FORM's CARD OF 'armadalaw15.TraceProfiles'. -/
def traceProfilesUptoCard : Claim7 := { stood := { row := traceProfilesUptoRow, standIns := [], harness := (true, "8e38b11da57b1a57c16b617e244b5979edc620266a2adf7b2a74aa860de50801"), looks := true }, kinds := [], alts := [], laidByText := true, laidKinds := [.data, .data, .data, .sentinel, .sentinel], laidTests := true, laidLooks := .later }
def TraceProfilesUptoCardSaid : Prop := Claim7.holds Tryz.pinned (.plain (OpenSpec.upto traceProfilesSpec)) traceProfilesUptoCard
end Rows
end Go.Proofs.YtjhbbdfbngbjcaaGreatDoor
