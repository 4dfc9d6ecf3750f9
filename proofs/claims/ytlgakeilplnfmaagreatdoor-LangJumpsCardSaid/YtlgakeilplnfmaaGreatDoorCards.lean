/-
  DERIVED. GIVEN WITH THE SEED: THE CARDS: each row of YtlgakeilplnfmaaGreatDoorRows.lean that lists a variable, with what it lists TIED to the program's text (the seventh form; the later family's looks); each row that meets fmt, with fmt's text TOLD by the authors' own Lean function (tested against real Go, not proved from fmt's source: count such statements apart). THE CARD IS WHAT COUNTS. Prove the row's statement (the work); the ties are given (YtlgakeilplnfmaaGreatDoorTie.lean); close each card by the builder's one call (the guide's Derived/Test/ToyasCard.lean, 'card_holds'). Laid BY PROGRAM, IN A SANDBOX (cutbox-door.mjs). By AI agents, Wed Nov 11 2026. No macro, syntax, notation, axiom, sorry.
-/
import Derived.Test.YtlgakeilplnfmaaGreatDoorRows
import GoSem.ClaimSeven
namespace Go.Proofs.YtlgakeilplnfmaaGreatDoor
namespace Rows

/-- THE TIED CARD OF 'armadalaw07.LangTexts'. -/
def langTextsCard : Claim7 := { stood := { row := langTextsRow, standIns := [], harness := (true, "37362f865d4acf4039bd6c02cd88a75a224a78db09d041960aa07d274588765c"), looks := true }, kinds := [], alts := [], laidByText := true, laidKinds := [.data, .data, .data, .sentinel, .sentinel], laidTests := true, laidLooks := .later }
def LangTextsCardSaid : Prop := Claim7.holds Tryz.pinned (.plain (OpenSpec.ofChange langTextsSpec)) langTextsCard

/-- THE TIED CARD OF 'armadalaw07.LangJumps'. -/
def langJumpsCard : Claim7 := { stood := { row := langJumpsRow, standIns := [], harness := (true, "37362f865d4acf4039bd6c02cd88a75a224a78db09d041960aa07d274588765c"), looks := true }, kinds := [], alts := [], laidByText := true, laidKinds := [.data, .data, .data, .sentinel, .sentinel], laidTests := true, laidLooks := .later }
def LangJumpsCardSaid : Prop := Claim7.holds Tryz.pinned (.plain (OpenSpec.ofChange langJumpsSpec)) langJumpsCard

/-- THE TIED CARD OF 'armadalaw07.LangNumbers'. -/
def langNumbersCard : Claim7 := { stood := { row := langNumbersRow, standIns := [], harness := (true, "37362f865d4acf4039bd6c02cd88a75a224a78db09d041960aa07d274588765c"), looks := true }, kinds := [], alts := [], laidByText := true, laidKinds := [.data, .data, .data, .sentinel, .sentinel], laidTests := true, laidLooks := .later }
def LangNumbersCardSaid : Prop := Claim7.holds Tryz.pinned (.plain (OpenSpec.ofChange langNumbersSpec)) langNumbersCard

/-- THE SECOND FORM's CARD OF 'armadalaw07.LangTexts'. -/
def langTextsUptoCard : Claim7 := { stood := { row := langTextsUptoRow, standIns := [], harness := (true, "37362f865d4acf4039bd6c02cd88a75a224a78db09d041960aa07d274588765c"), looks := true }, kinds := [], alts := [], laidByText := true, laidKinds := [.data, .data, .data, .sentinel, .sentinel], laidTests := true, laidLooks := .later }
def LangTextsUptoCardSaid : Prop := Claim7.holds Tryz.pinned (.plain (OpenSpec.upto langTextsSpec)) langTextsUptoCard

/-- THE SECOND FORM's CARD OF 'armadalaw07.LangJumps'. -/
def langJumpsUptoCard : Claim7 := { stood := { row := langJumpsUptoRow, standIns := [], harness := (true, "37362f865d4acf4039bd6c02cd88a75a224a78db09d041960aa07d274588765c"), looks := true }, kinds := [], alts := [], laidByText := true, laidKinds := [.data, .data, .data, .sentinel, .sentinel], laidTests := true, laidLooks := .later }
def LangJumpsUptoCardSaid : Prop := Claim7.holds Tryz.pinned (.plain (OpenSpec.upto langJumpsSpec)) langJumpsUptoCard

/-- THE SECOND FORM's CARD OF 'armadalaw07.LangNumbers'. -/
def langNumbersUptoCard : Claim7 := { stood := { row := langNumbersUptoRow, standIns := [], harness := (true, "37362f865d4acf4039bd6c02cd88a75a224a78db09d041960aa07d274588765c"), looks := true }, kinds := [], alts := [], laidByText := true, laidKinds := [.data, .data, .data, .sentinel, .sentinel], laidTests := true, laidLooks := .later }
def LangNumbersUptoCardSaid : Prop := Claim7.holds Tryz.pinned (.plain (OpenSpec.upto langNumbersSpec)) langNumbersUptoCard
end Rows
end Go.Proofs.YtlgakeilplnfmaaGreatDoor
