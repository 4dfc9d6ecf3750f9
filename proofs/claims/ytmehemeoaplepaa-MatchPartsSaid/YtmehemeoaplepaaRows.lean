/-
  No cell of these rows narrows 'for every input' (looked for: loops, veiled, ifaces, maps, wideKeys, modest, calm, conditions, laid).
  DERIVED. THE GIVEN ROWS OF THIS SEAT. 5 by the template 'for every input the law returns true; each argument reads behind the call as it read before'; 0 by the template 'total and deterministic' (their statements: YtmehemeoaplepaaTotals.lean).
  GIVEN WITH THE SEED: the statements are not yours to turn. If you find one false, say at which input.
  Laid BY PROGRAM, IN A SANDBOX (cutbox-rows.mjs): the forced cells as the released guide's own fill.sh prints them over the translation 5f61457671d917b5… (all of the seat's roots in one cut). By AI agents, Wed Nov 11 2026. No macro, syntax, notation, axiom, sorry.
-/
import Derived.Test.YtmehemeoaplepaaChecked
import GoSem.Claim
import GoSem.ClaimJoined
import GoSem.ClaimMapViews
import Derived.JoinedTies
import Derived.KernelRfl
namespace Go.Proofs.Ytmehemeoaplepaa
/- THE CELL 'sum', in the pinned program and in every row, IS THE sha256 OF THE DUMP (.gsa) THAT YtmehemeoaplepaaProg.lean LOADS. Nothing in Lean hashes anything: it is a label: what it is worth is what the hold of that sum in a sandbox is worth. -/
noncomputable def Try.pinned : Pinned := { name := "ytmehemeoaplepaa", sum := "5f61457671d917b51bf3e43e0b0e071145674c858ea242c5153041401f5aab43", checked := Try.checked }
namespace Rows
def none {H : Type} : Left H := { results := [], args := [] }

/-- 'armadalaw06.MatchWild': WHATEVER THE INPUT: true; the input reads as it did. -/
def matchWildSpec : ChangeSpec := { name := "matchWild", fn := fun _ => fun
  | [d1, d2, d3, d4, d5] => { results := [.lit (.bool true)], args := [d1, d2, d3, d4, d5] }
  | _ => none }
def matchWildRow : OpenClaim := { program := "ytmehemeoaplepaa", sum := "5f61457671d917b51bf3e43e0b0e071145674c858ea242c5153041401f5aab43", func := "armada/armadalaw06.MatchWild", spec := "matchWild", unfollowed := true, recurses := true, plainKeys := false, apart := false }
def MatchWildSaid : Prop := matchWildRow.holds Try.pinned (OpenSpec.ofChange matchWildSpec)

/-- ITS FALSE NEIGHBOUR: 'it returns false'. Refute it at one input. -/
def matchWildWrong : ChangeSpec := { name := "matchWild", fn := fun _ => fun
  | [d1, d2, d3, d4, d5] => { results := [.lit (.bool false)], args := [d1, d2, d3, d4, d5] }
  | _ => none }
def MatchWildWrongFalsely : Prop := matchWildRow.holds Try.pinned (OpenSpec.ofChange matchWildWrong)

/-- 'armadalaw06.MatchSchedules': WHATEVER THE INPUT: true; the input reads as it did. -/
def matchSchedulesSpec : ChangeSpec := { name := "matchSchedules", fn := fun _ => fun
  | [d1, d2, d3, d4, d5] => { results := [.lit (.bool true)], args := [d1, d2, d3, d4, d5] }
  | _ => none }
def matchSchedulesRow : OpenClaim := { program := "ytmehemeoaplepaa", sum := "5f61457671d917b51bf3e43e0b0e071145674c858ea242c5153041401f5aab43", func := "armada/armadalaw06.MatchSchedules", spec := "matchSchedules", unfollowed := true, recurses := true, plainKeys := false, apart := false }
def MatchSchedulesSaid : Prop := matchSchedulesRow.holds Try.pinned (OpenSpec.ofChange matchSchedulesSpec)

/-- ITS FALSE NEIGHBOUR: 'it returns false'. Refute it at one input. -/
def matchSchedulesWrong : ChangeSpec := { name := "matchSchedules", fn := fun _ => fun
  | [d1, d2, d3, d4, d5] => { results := [.lit (.bool false)], args := [d1, d2, d3, d4, d5] }
  | _ => none }
def MatchSchedulesWrongFalsely : Prop := matchSchedulesRow.holds Try.pinned (OpenSpec.ofChange matchSchedulesWrong)

/-- 'armadalaw06.MatchEager': WHATEVER THE INPUT: true; the input reads as it did. -/
def matchEagerSpec : ChangeSpec := { name := "matchEager", fn := fun _ => fun
  | [d1, d2, d3] => { results := [.lit (.bool true)], args := [d1, d2, d3] }
  | _ => none }
def matchEagerRow : OpenClaim := { program := "ytmehemeoaplepaa", sum := "5f61457671d917b51bf3e43e0b0e071145674c858ea242c5153041401f5aab43", func := "armada/armadalaw06.MatchEager", spec := "matchEager", unfollowed := true, recurses := true, plainKeys := false, apart := false }
def MatchEagerSaid : Prop := matchEagerRow.holds Try.pinned (OpenSpec.ofChange matchEagerSpec)

/-- ITS FALSE NEIGHBOUR: 'it returns false'. Refute it at one input. -/
def matchEagerWrong : ChangeSpec := { name := "matchEager", fn := fun _ => fun
  | [d1, d2, d3] => { results := [.lit (.bool false)], args := [d1, d2, d3] }
  | _ => none }
def MatchEagerWrongFalsely : Prop := matchEagerRow.holds Try.pinned (OpenSpec.ofChange matchEagerWrong)

/-- 'armadalaw06.MatchParts': WHATEVER THE INPUT: true; the input reads as it did. -/
def matchPartsSpec : ChangeSpec := { name := "matchParts", fn := fun _ => fun
  | [d1, d2, d3, d4] => { results := [.lit (.bool true)], args := [d1, d2, d3, d4] }
  | _ => none }
def matchPartsRow : OpenClaim := { program := "ytmehemeoaplepaa", sum := "5f61457671d917b51bf3e43e0b0e071145674c858ea242c5153041401f5aab43", func := "armada/armadalaw06.MatchParts", spec := "matchParts", unfollowed := true, recurses := true, plainKeys := false, apart := false }
def MatchPartsSaid : Prop := matchPartsRow.holds Try.pinned (OpenSpec.ofChange matchPartsSpec)

/-- ITS FALSE NEIGHBOUR: 'it returns false'. Refute it at one input. -/
def matchPartsWrong : ChangeSpec := { name := "matchParts", fn := fun _ => fun
  | [d1, d2, d3, d4] => { results := [.lit (.bool false)], args := [d1, d2, d3, d4] }
  | _ => none }
def MatchPartsWrongFalsely : Prop := matchPartsRow.holds Try.pinned (OpenSpec.ofChange matchPartsWrong)

/-- 'armadalaw06.MatchAgain': WHATEVER THE INPUT: true; the input reads as it did. -/
def matchAgainSpec : ChangeSpec := { name := "matchAgain", fn := fun _ => fun
  | [d1, d2, d3] => { results := [.lit (.bool true)], args := [d1, d2, d3] }
  | _ => none }
def matchAgainRow : OpenClaim := { program := "ytmehemeoaplepaa", sum := "5f61457671d917b51bf3e43e0b0e071145674c858ea242c5153041401f5aab43", func := "armada/armadalaw06.MatchAgain", spec := "matchAgain", unfollowed := true, recurses := true, plainKeys := false, apart := false }
def MatchAgainSaid : Prop := matchAgainRow.holds Try.pinned (OpenSpec.ofChange matchAgainSpec)

/-- ITS FALSE NEIGHBOUR: 'it returns false'. Refute it at one input. -/
def matchAgainWrong : ChangeSpec := { name := "matchAgain", fn := fun _ => fun
  | [d1, d2, d3] => { results := [.lit (.bool false)], args := [d1, d2, d3] }
  | _ => none }
def MatchAgainWrongFalsely : Prop := matchAgainRow.holds Try.pinned (OpenSpec.ofChange matchAgainWrong)

/- THE SECOND FORM. 'bulk': how many values and letters a reading holds, each counted each time it is reached (what is shared counts as often as it is met; a slice's spare places count too). A statement '..UptoSaid' is the law's where the arguments, and the package variables that the reading takes, are together of bulk at most 1048576: NARROWER than '..Said'. Prove '..Said' where nothing that the law and all that it calls make is longer than what came in: it says more and counts as full. Else prove '..UptoSaid'. A law counts once. -/
mutual
def uptoBulk {H : Type} : DataW H → Nat
  | .lit (.string bytes) => bytes.length + 1
  | .lit _ => 1
  | .nil => 1
  | .ptr d => uptoBulk d + 1
  | .slice elems spare => uptoBulkAll elems + uptoBulkAll spare + 1
  | .agg parts => uptoBulkAll parts + 1
  | .iface _ d => uptoBulk d + 1
  | .map entries => uptoBulkEntries entries + 1
  | .held _ => 1
def uptoBulkAll {H : Type} : List (DataW H) → Nat
  | [] => 0
  | d :: r => uptoBulk d + uptoBulkAll r
def uptoBulkEntries {H : Type} : List (Lit × DataW H) → Nat
  | [] => 0
  | x :: r => uptoBulkEntry x + uptoBulkEntries r
def uptoBulkEntry {H : Type} : Lit × DataW H → Nat
  | (.string bytes, d) => bytes.length + uptoBulk d + 1
  | (_, d) => uptoBulk d + 1
 end
def uptoSmall : (H : Type) → List (DataW H) → Bool := fun _ ds => decide (uptoBulkAll ds ≤ 1048576)
def OpenSpec.upto (s : _root_.Go.ChangeSpec) : _root_.Go.OpenSpec := { _root_.Go.OpenSpec.ofChange s with cond := some uptoSmall }

/-- 'armadalaw06.MatchWild', WHERE WHAT IT READS IS OF BULK AT MOST 1048576: true; the input reads as it did. -/
def matchWildUptoRow : OpenClaim := { program := "ytmehemeoaplepaa", sum := "5f61457671d917b51bf3e43e0b0e071145674c858ea242c5153041401f5aab43", func := "armada/armadalaw06.MatchWild", spec := "matchWild", unfollowed := true, recurses := true, plainKeys := false, apart := false, narrowed := true }
def MatchWildUptoSaid : Prop := matchWildUptoRow.holds Try.pinned (OpenSpec.upto matchWildSpec)

/-- 'armadalaw06.MatchSchedules', WHERE WHAT IT READS IS OF BULK AT MOST 1048576: true; the input reads as it did. -/
def matchSchedulesUptoRow : OpenClaim := { program := "ytmehemeoaplepaa", sum := "5f61457671d917b51bf3e43e0b0e071145674c858ea242c5153041401f5aab43", func := "armada/armadalaw06.MatchSchedules", spec := "matchSchedules", unfollowed := true, recurses := true, plainKeys := false, apart := false, narrowed := true }
def MatchSchedulesUptoSaid : Prop := matchSchedulesUptoRow.holds Try.pinned (OpenSpec.upto matchSchedulesSpec)

/-- 'armadalaw06.MatchEager', WHERE WHAT IT READS IS OF BULK AT MOST 1048576: true; the input reads as it did. -/
def matchEagerUptoRow : OpenClaim := { program := "ytmehemeoaplepaa", sum := "5f61457671d917b51bf3e43e0b0e071145674c858ea242c5153041401f5aab43", func := "armada/armadalaw06.MatchEager", spec := "matchEager", unfollowed := true, recurses := true, plainKeys := false, apart := false, narrowed := true }
def MatchEagerUptoSaid : Prop := matchEagerUptoRow.holds Try.pinned (OpenSpec.upto matchEagerSpec)

/-- 'armadalaw06.MatchParts', WHERE WHAT IT READS IS OF BULK AT MOST 1048576: true; the input reads as it did. -/
def matchPartsUptoRow : OpenClaim := { program := "ytmehemeoaplepaa", sum := "5f61457671d917b51bf3e43e0b0e071145674c858ea242c5153041401f5aab43", func := "armada/armadalaw06.MatchParts", spec := "matchParts", unfollowed := true, recurses := true, plainKeys := false, apart := false, narrowed := true }
def MatchPartsUptoSaid : Prop := matchPartsUptoRow.holds Try.pinned (OpenSpec.upto matchPartsSpec)

/-- 'armadalaw06.MatchAgain', WHERE WHAT IT READS IS OF BULK AT MOST 1048576: true; the input reads as it did. -/
def matchAgainUptoRow : OpenClaim := { program := "ytmehemeoaplepaa", sum := "5f61457671d917b51bf3e43e0b0e071145674c858ea242c5153041401f5aab43", func := "armada/armadalaw06.MatchAgain", spec := "matchAgain", unfollowed := true, recurses := true, plainKeys := false, apart := false, narrowed := true }
def MatchAgainUptoSaid : Prop := matchAgainUptoRow.holds Try.pinned (OpenSpec.upto matchAgainSpec)

end Rows
end Go.Proofs.Ytmehemeoaplepaa
