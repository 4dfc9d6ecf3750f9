/-
  No cell of these rows narrows 'for every input' (looked for: loops, veiled, ifaces, maps, wideKeys, modest, calm, conditions, laid).
  DERIVED. THE GIVEN ROWS OF THIS SEAT. 7 by the template 'for every input the law returns true; each argument reads behind the call as it read before'; 0 by the template 'total and deterministic' (their statements: YtdaedcoolcicoaaGreatTotals.lean).
  GIVEN WITH THE SEED: the statements are not yours to turn. If you find one false, say at which input.
  Laid BY PROGRAM, IN A SANDBOX (cutbox-rows.mjs): the forced cells as the released guide's own fill.sh prints them over the translation d146a35bcf0ad232… (all of the seat's roots in one cut). By AI agents, Wed Nov 11 2026. No macro, syntax, notation, axiom, sorry.
-/
import Derived.Test.YtdaedcoolcicoaaGreatChecked
import GoSem.Claim
import GoSem.ClaimJoined
import GoSem.ClaimMapViews
import Derived.JoinedTies
import Derived.KernelRfl
namespace Go.Proofs.YtdaedcoolcicoaaGreat
/- THE CELL 'sum', in the pinned program and in every row, IS THE sha256 OF THE DUMP (.gsa) THAT YtdaedcoolcicoaaGreatProg.lean LOADS. Nothing in Lean hashes anything: it is a label: what it is worth is what the hold of that sum in a sandbox is worth. -/
noncomputable def Tryz.pinned : Pinned := { name := "ytdaedcoolcicoaagreat", sum := "d146a35bcf0ad232f5d6c15c655d6cefc914e3f2e4b7af56228bb703832285bc", checked := Tryz.checked }
namespace Rows
def none {H : Type} : Left H := { results := [], args := [] }

/-- 'armadalaw14.CheckBlocks': WHATEVER THE INPUT: true; the input reads as it did. -/
def checkBlocksSpec : ChangeSpec := { name := "checkBlocks", fn := fun _ => fun
  | [d1, d2, d3, d4] => { results := [.lit (.bool true)], args := [d1, d2, d3, d4] }
  | _ => none }
def checkBlocksRow : OpenClaim := { program := "ytdaedcoolcicoaagreat", sum := "d146a35bcf0ad232f5d6c15c655d6cefc914e3f2e4b7af56228bb703832285bc", func := "armada/armadalaw14.CheckBlocks", spec := "checkBlocks", unfollowed := true, recurses := true, plainKeys := false, apart := false }
def CheckBlocksSaid : Prop := checkBlocksRow.holds Tryz.pinned (OpenSpec.ofChange checkBlocksSpec)

/-- ITS FALSE NEIGHBOUR: 'it returns false'. Refute it at one input. -/
def checkBlocksWrong : ChangeSpec := { name := "checkBlocks", fn := fun _ => fun
  | [d1, d2, d3, d4] => { results := [.lit (.bool false)], args := [d1, d2, d3, d4] }
  | _ => none }
def CheckBlocksWrongFalsely : Prop := checkBlocksRow.holds Tryz.pinned (OpenSpec.ofChange checkBlocksWrong)

/-- 'armadalaw14.CheckRepairs': WHATEVER THE INPUT: true; the input reads as it did. -/
def checkRepairsSpec : ChangeSpec := { name := "checkRepairs", fn := fun _ => fun
  | [d1, d2, d3] => { results := [.lit (.bool true)], args := [d1, d2, d3] }
  | _ => none }
def checkRepairsRow : OpenClaim := { program := "ytdaedcoolcicoaagreat", sum := "d146a35bcf0ad232f5d6c15c655d6cefc914e3f2e4b7af56228bb703832285bc", func := "armada/armadalaw14.CheckRepairs", spec := "checkRepairs", unfollowed := true, recurses := true, plainKeys := false, apart := false }
def CheckRepairsSaid : Prop := checkRepairsRow.holds Tryz.pinned (OpenSpec.ofChange checkRepairsSpec)

/-- ITS FALSE NEIGHBOUR: 'it returns false'. Refute it at one input. -/
def checkRepairsWrong : ChangeSpec := { name := "checkRepairs", fn := fun _ => fun
  | [d1, d2, d3] => { results := [.lit (.bool false)], args := [d1, d2, d3] }
  | _ => none }
def CheckRepairsWrongFalsely : Prop := checkRepairsRow.holds Tryz.pinned (OpenSpec.ofChange checkRepairsWrong)

/-- 'armadalaw14.CheckLosses': WHATEVER THE INPUT: true; the input reads as it did. -/
def checkLossesSpec : ChangeSpec := { name := "checkLosses", fn := fun _ => fun
  | [d1, d2, d3, d4, d5] => { results := [.lit (.bool true)], args := [d1, d2, d3, d4, d5] }
  | _ => none }
def checkLossesRow : OpenClaim := { program := "ytdaedcoolcicoaagreat", sum := "d146a35bcf0ad232f5d6c15c655d6cefc914e3f2e4b7af56228bb703832285bc", func := "armada/armadalaw14.CheckLosses", spec := "checkLosses", unfollowed := true, recurses := true, plainKeys := false, apart := false }
def CheckLossesSaid : Prop := checkLossesRow.holds Tryz.pinned (OpenSpec.ofChange checkLossesSpec)

/-- ITS FALSE NEIGHBOUR: 'it returns false'. Refute it at one input. -/
def checkLossesWrong : ChangeSpec := { name := "checkLosses", fn := fun _ => fun
  | [d1, d2, d3, d4, d5] => { results := [.lit (.bool false)], args := [d1, d2, d3, d4, d5] }
  | _ => none }
def CheckLossesWrongFalsely : Prop := checkLossesRow.holds Tryz.pinned (OpenSpec.ofChange checkLossesWrong)

/-- 'armadalaw14.CheckLines': WHATEVER THE INPUT: true; the input reads as it did. -/
def checkLinesSpec : ChangeSpec := { name := "checkLines", fn := fun _ => fun
  | [d1, d2] => { results := [.lit (.bool true)], args := [d1, d2] }
  | _ => none }
def checkLinesRow : OpenClaim := { program := "ytdaedcoolcicoaagreat", sum := "d146a35bcf0ad232f5d6c15c655d6cefc914e3f2e4b7af56228bb703832285bc", func := "armada/armadalaw14.CheckLines", spec := "checkLines", unfollowed := true, recurses := true, plainKeys := false, apart := false }
def CheckLinesSaid : Prop := checkLinesRow.holds Tryz.pinned (OpenSpec.ofChange checkLinesSpec)

/-- ITS FALSE NEIGHBOUR: 'it returns false'. Refute it at one input. -/
def checkLinesWrong : ChangeSpec := { name := "checkLines", fn := fun _ => fun
  | [d1, d2] => { results := [.lit (.bool false)], args := [d1, d2] }
  | _ => none }
def CheckLinesWrongFalsely : Prop := checkLinesRow.holds Tryz.pinned (OpenSpec.ofChange checkLinesWrong)

/-- 'armadalaw14.CheckBlames': WHATEVER THE INPUT: true; the input reads as it did. -/
def checkBlamesSpec : ChangeSpec := { name := "checkBlames", fn := fun _ => fun
  | [d1, d2] => { results := [.lit (.bool true)], args := [d1, d2] }
  | _ => none }
def checkBlamesRow : OpenClaim := { program := "ytdaedcoolcicoaagreat", sum := "d146a35bcf0ad232f5d6c15c655d6cefc914e3f2e4b7af56228bb703832285bc", func := "armada/armadalaw14.CheckBlames", spec := "checkBlames", unfollowed := true, recurses := true, plainKeys := false, apart := false }
def CheckBlamesSaid : Prop := checkBlamesRow.holds Tryz.pinned (OpenSpec.ofChange checkBlamesSpec)

/-- ITS FALSE NEIGHBOUR: 'it returns false'. Refute it at one input. -/
def checkBlamesWrong : ChangeSpec := { name := "checkBlames", fn := fun _ => fun
  | [d1, d2] => { results := [.lit (.bool false)], args := [d1, d2] }
  | _ => none }
def CheckBlamesWrongFalsely : Prop := checkBlamesRow.holds Tryz.pinned (OpenSpec.ofChange checkBlamesWrong)

/-- 'armadalaw14.CheckFlows': WHATEVER THE INPUT: true; the input reads as it did. -/
def checkFlowsSpec : ChangeSpec := { name := "checkFlows", fn := fun _ => fun
  | [d1, d2] => { results := [.lit (.bool true)], args := [d1, d2] }
  | _ => none }
def checkFlowsRow : OpenClaim := { program := "ytdaedcoolcicoaagreat", sum := "d146a35bcf0ad232f5d6c15c655d6cefc914e3f2e4b7af56228bb703832285bc", func := "armada/armadalaw14.CheckFlows", spec := "checkFlows", inPlace := ["maps.clone"], unfollowed := true, recurses := true, plainKeys := false, apart := false }
def CheckFlowsSaid : Prop := checkFlowsRow.holds Tryz.pinned (OpenSpec.ofChange checkFlowsSpec)

/-- ITS FALSE NEIGHBOUR: 'it returns false'. Refute it at one input. -/
def checkFlowsWrong : ChangeSpec := { name := "checkFlows", fn := fun _ => fun
  | [d1, d2] => { results := [.lit (.bool false)], args := [d1, d2] }
  | _ => none }
def CheckFlowsWrongFalsely : Prop := checkFlowsRow.holds Tryz.pinned (OpenSpec.ofChange checkFlowsWrong)

/-- 'armadalaw14.CheckNil': WHATEVER THE INPUT: true; the input reads as it did. -/
def checkNilSpec : ChangeSpec := { name := "checkNil", fn := fun _ => fun
  | [d1, d2, d3] => { results := [.lit (.bool true)], args := [d1, d2, d3] }
  | _ => none }
def checkNilRow : OpenClaim := { program := "ytdaedcoolcicoaagreat", sum := "d146a35bcf0ad232f5d6c15c655d6cefc914e3f2e4b7af56228bb703832285bc", func := "armada/armadalaw14.CheckNil", spec := "checkNil", inPlace := ["maps.clone"], unfollowed := true, recurses := true, plainKeys := false, apart := false }
def CheckNilSaid : Prop := checkNilRow.holds Tryz.pinned (OpenSpec.ofChange checkNilSpec)

/-- ITS FALSE NEIGHBOUR: 'it returns false'. Refute it at one input. -/
def checkNilWrong : ChangeSpec := { name := "checkNil", fn := fun _ => fun
  | [d1, d2, d3] => { results := [.lit (.bool false)], args := [d1, d2, d3] }
  | _ => none }
def CheckNilWrongFalsely : Prop := checkNilRow.holds Tryz.pinned (OpenSpec.ofChange checkNilWrong)

/- THE SECOND FORM. 'bulk': how many values and letters a reading holds, each counted each time it is reached (what is shared counts as often as it is met; a slice's spare places count too). A statement '..UptoSaid' is the law's where the arguments, and the package variables that the reading takes, are together of bulk at most 1048576: NARROWER than '..Said'. Prove '..Said' where nothing that the law and all that it calls make is longer than what came in: it says more and counts as full. Else prove '..UptoSaid'. A law counts once. -/
mutual
def uptoBulk {H : Type} : DataW H → Nat
  | .lit (.string bytes) => bytes.length + 1
  | .lit _ => 1
  | .nil => 1
  | .ptr d => uptoBulk d + 1
  | .slice elems spare => uptoBulkAll elems + uptoBulkAll spare + 1
  | .agg parts => uptoBulkAll parts + 1
  | .iface _ d => uptoBulk d + 1
  | .map entries => uptoBulkEntries entries + 1
  | .held _ => 1
def uptoBulkAll {H : Type} : List (DataW H) → Nat
  | [] => 0
  | d :: r => uptoBulk d + uptoBulkAll r
def uptoBulkEntries {H : Type} : List (Lit × DataW H) → Nat
  | [] => 0
  | x :: r => uptoBulkEntry x + uptoBulkEntries r
def uptoBulkEntry {H : Type} : Lit × DataW H → Nat
  | (.string bytes, d) => bytes.length + uptoBulk d + 1
  | (_, d) => uptoBulk d + 1
 end
def uptoSmall : (H : Type) → List (DataW H) → Bool := fun _ ds => decide (uptoBulkAll ds ≤ 1048576)
def OpenSpec.upto (s : _root_.Go.ChangeSpec) : _root_.Go.OpenSpec := { _root_.Go.OpenSpec.ofChange s with cond := some uptoSmall }

/-- 'armadalaw14.CheckBlocks', WHERE WHAT IT READS IS OF BULK AT MOST 1048576: true; the input reads as it did. -/
def checkBlocksUptoRow : OpenClaim := { program := "ytdaedcoolcicoaagreat", sum := "d146a35bcf0ad232f5d6c15c655d6cefc914e3f2e4b7af56228bb703832285bc", func := "armada/armadalaw14.CheckBlocks", spec := "checkBlocks", unfollowed := true, recurses := true, plainKeys := false, apart := false, narrowed := true }
def CheckBlocksUptoSaid : Prop := checkBlocksUptoRow.holds Tryz.pinned (OpenSpec.upto checkBlocksSpec)

/-- 'armadalaw14.CheckRepairs', WHERE WHAT IT READS IS OF BULK AT MOST 1048576: true; the input reads as it did. -/
def checkRepairsUptoRow : OpenClaim := { program := "ytdaedcoolcicoaagreat", sum := "d146a35bcf0ad232f5d6c15c655d6cefc914e3f2e4b7af56228bb703832285bc", func := "armada/armadalaw14.CheckRepairs", spec := "checkRepairs", unfollowed := true, recurses := true, plainKeys := false, apart := false, narrowed := true }
def CheckRepairsUptoSaid : Prop := checkRepairsUptoRow.holds Tryz.pinned (OpenSpec.upto checkRepairsSpec)

/-- 'armadalaw14.CheckLosses', WHERE WHAT IT READS IS OF BULK AT MOST 1048576: true; the input reads as it did. -/
def checkLossesUptoRow : OpenClaim := { program := "ytdaedcoolcicoaagreat", sum := "d146a35bcf0ad232f5d6c15c655d6cefc914e3f2e4b7af56228bb703832285bc", func := "armada/armadalaw14.CheckLosses", spec := "checkLosses", unfollowed := true, recurses := true, plainKeys := false, apart := false, narrowed := true }
def CheckLossesUptoSaid : Prop := checkLossesUptoRow.holds Tryz.pinned (OpenSpec.upto checkLossesSpec)

/-- 'armadalaw14.CheckLines', WHERE WHAT IT READS IS OF BULK AT MOST 1048576: true; the input reads as it did. -/
def checkLinesUptoRow : OpenClaim := { program := "ytdaedcoolcicoaagreat", sum := "d146a35bcf0ad232f5d6c15c655d6cefc914e3f2e4b7af56228bb703832285bc", func := "armada/armadalaw14.CheckLines", spec := "checkLines", unfollowed := true, recurses := true, plainKeys := false, apart := false, narrowed := true }
def CheckLinesUptoSaid : Prop := checkLinesUptoRow.holds Tryz.pinned (OpenSpec.upto checkLinesSpec)

/-- 'armadalaw14.CheckBlames', WHERE WHAT IT READS IS OF BULK AT MOST 1048576: true; the input reads as it did. -/
def checkBlamesUptoRow : OpenClaim := { program := "ytdaedcoolcicoaagreat", sum := "d146a35bcf0ad232f5d6c15c655d6cefc914e3f2e4b7af56228bb703832285bc", func := "armada/armadalaw14.CheckBlames", spec := "checkBlames", unfollowed := true, recurses := true, plainKeys := false, apart := false, narrowed := true }
def CheckBlamesUptoSaid : Prop := checkBlamesUptoRow.holds Tryz.pinned (OpenSpec.upto checkBlamesSpec)

/-- 'armadalaw14.CheckFlows', WHERE WHAT IT READS IS OF BULK AT MOST 1048576: true; the input reads as it did. -/
def checkFlowsUptoRow : OpenClaim := { program := "ytdaedcoolcicoaagreat", sum := "d146a35bcf0ad232f5d6c15c655d6cefc914e3f2e4b7af56228bb703832285bc", func := "armada/armadalaw14.CheckFlows", spec := "checkFlows", inPlace := ["maps.clone"], unfollowed := true, recurses := true, plainKeys := false, apart := false, narrowed := true }
def CheckFlowsUptoSaid : Prop := checkFlowsUptoRow.holds Tryz.pinned (OpenSpec.upto checkFlowsSpec)

/-- 'armadalaw14.CheckNil', WHERE WHAT IT READS IS OF BULK AT MOST 1048576: true; the input reads as it did. -/
def checkNilUptoRow : OpenClaim := { program := "ytdaedcoolcicoaagreat", sum := "d146a35bcf0ad232f5d6c15c655d6cefc914e3f2e4b7af56228bb703832285bc", func := "armada/armadalaw14.CheckNil", spec := "checkNil", inPlace := ["maps.clone"], unfollowed := true, recurses := true, plainKeys := false, apart := false, narrowed := true }
def CheckNilUptoSaid : Prop := checkNilUptoRow.holds Tryz.pinned (OpenSpec.upto checkNilSpec)

end Rows
end Go.Proofs.YtdaedcoolcicoaaGreat
