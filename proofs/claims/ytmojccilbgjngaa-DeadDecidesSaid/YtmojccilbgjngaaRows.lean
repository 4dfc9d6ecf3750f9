/-
  No cell of these rows narrows 'for every input' (looked for: loops, veiled, ifaces, maps, wideKeys, modest, calm, conditions, laid).
  DERIVED. THE GIVEN ROWS OF THIS SEAT. 6 by the template 'for every input the law returns true; each argument reads behind the call as it read before'; 0 by the template 'total and deterministic' (their statements: YtmojccilbgjngaaTotals.lean).
  GIVEN WITH THE SEED: the statements are not yours to turn. If you find one false, say at which input.
  Laid BY PROGRAM, IN A SANDBOX (cutbox-rows.mjs): the forced cells as the released guide's own fill.sh prints them over the translation 83b89431ee10086c… (all of the seat's roots in one cut). By AI agents, Wed Nov 11 2026. No macro, syntax, notation, axiom, sorry.
-/
import Derived.Test.YtmojccilbgjngaaChecked
import GoSem.Claim
import GoSem.ClaimJoined
import GoSem.ClaimMapViews
import Derived.JoinedTies
import Derived.KernelRfl
namespace Go.Proofs.Ytmojccilbgjngaa
/- THE CELL 'sum', in the pinned program and in every row, IS THE sha256 OF THE DUMP (.gsa) THAT YtmojccilbgjngaaProg.lean LOADS. Nothing in Lean hashes anything: it is a label: what it is worth is what the hold of that sum in a sandbox is worth. -/
noncomputable def Try.pinned : Pinned := { name := "ytmojccilbgjngaa", sum := "83b89431ee10086c63d4dc1aacdd81382d25f0046085980f22499ca780134cef", checked := Try.checked }
namespace Rows
def none {H : Type} : Left H := { results := [], args := [] }

/-- 'armadalaw08.DeadFollows': WHATEVER THE INPUT: true; the input reads as it did. -/
def deadFollowsSpec : ChangeSpec := { name := "deadFollows", fn := fun _ => fun
  | [d1, d2, d3] => { results := [.lit (.bool true)], args := [d1, d2, d3] }
  | _ => none }
def deadFollowsRow : OpenClaim := { program := "ytmojccilbgjngaa", sum := "83b89431ee10086c63d4dc1aacdd81382d25f0046085980f22499ca780134cef", func := "armada/armadalaw08.DeadFollows", spec := "deadFollows", unfollowed := true, recurses := true, apart := false }
def DeadFollowsSaid : Prop := deadFollowsRow.holds Try.pinned (OpenSpec.ofChange deadFollowsSpec)

/-- ITS FALSE NEIGHBOUR: 'it returns false'. Refute it at one input. -/
def deadFollowsWrong : ChangeSpec := { name := "deadFollows", fn := fun _ => fun
  | [d1, d2, d3] => { results := [.lit (.bool false)], args := [d1, d2, d3] }
  | _ => none }
def DeadFollowsWrongFalsely : Prop := deadFollowsRow.holds Try.pinned (OpenSpec.ofChange deadFollowsWrong)

/-- 'armadalaw08.DeadDecides': WHATEVER THE INPUT: true; the input reads as it did. -/
def deadDecidesSpec : ChangeSpec := { name := "deadDecides", fn := fun _ => fun
  | [d] => { results := [.lit (.bool true)], args := [d] }
  | _ => none }
def deadDecidesRow : OpenClaim := { program := "ytmojccilbgjngaa", sum := "83b89431ee10086c63d4dc1aacdd81382d25f0046085980f22499ca780134cef", func := "armada/armadalaw08.DeadDecides", spec := "deadDecides", unfollowed := true, recurses := true, apart := false }
def DeadDecidesSaid : Prop := deadDecidesRow.holds Try.pinned (OpenSpec.ofChange deadDecidesSpec)

/-- ITS FALSE NEIGHBOUR: 'it returns false'. Refute it at one input. -/
def deadDecidesWrong : ChangeSpec := { name := "deadDecides", fn := fun _ => fun
  | [d] => { results := [.lit (.bool false)], args := [d] }
  | _ => none }
def DeadDecidesWrongFalsely : Prop := deadDecidesRow.holds Try.pinned (OpenSpec.ofChange deadDecidesWrong)

/-- 'armadalaw08.DeadSchedules': WHATEVER THE INPUT: true; the input reads as it did. -/
def deadSchedulesSpec : ChangeSpec := { name := "deadSchedules", fn := fun _ => fun
  | [d1, d2, d3] => { results := [.lit (.bool true)], args := [d1, d2, d3] }
  | _ => none }
def deadSchedulesRow : OpenClaim := { program := "ytmojccilbgjngaa", sum := "83b89431ee10086c63d4dc1aacdd81382d25f0046085980f22499ca780134cef", func := "armada/armadalaw08.DeadSchedules", spec := "deadSchedules", unfollowed := true, recurses := true, apart := false }
def DeadSchedulesSaid : Prop := deadSchedulesRow.holds Try.pinned (OpenSpec.ofChange deadSchedulesSpec)

/-- ITS FALSE NEIGHBOUR: 'it returns false'. Refute it at one input. -/
def deadSchedulesWrong : ChangeSpec := { name := "deadSchedules", fn := fun _ => fun
  | [d1, d2, d3] => { results := [.lit (.bool false)], args := [d1, d2, d3] }
  | _ => none }
def DeadSchedulesWrongFalsely : Prop := deadSchedulesRow.holds Try.pinned (OpenSpec.ofChange deadSchedulesWrong)

/-- 'armadalaw08.DeadRoom': WHATEVER THE INPUT: true; the input reads as it did. -/
def deadRoomSpec : ChangeSpec := { name := "deadRoom", fn := fun _ => fun
  | [d] => { results := [.lit (.bool true)], args := [d] }
  | _ => none }
def deadRoomRow : OpenClaim := { program := "ytmojccilbgjngaa", sum := "83b89431ee10086c63d4dc1aacdd81382d25f0046085980f22499ca780134cef", func := "armada/armadalaw08.DeadRoom", spec := "deadRoom", unfollowed := true, recurses := true, apart := false }
def DeadRoomSaid : Prop := deadRoomRow.holds Try.pinned (OpenSpec.ofChange deadRoomSpec)

/-- ITS FALSE NEIGHBOUR: 'it returns false'. Refute it at one input. -/
def deadRoomWrong : ChangeSpec := { name := "deadRoom", fn := fun _ => fun
  | [d] => { results := [.lit (.bool false)], args := [d] }
  | _ => none }
def DeadRoomWrongFalsely : Prop := deadRoomRow.holds Try.pinned (OpenSpec.ofChange deadRoomWrong)

/-- 'armadalaw08.DeadCycles': WHATEVER THE INPUT: true; the input reads as it did. -/
def deadCyclesSpec : ChangeSpec := { name := "deadCycles", fn := fun _ => fun
  | [d1, d2] => { results := [.lit (.bool true)], args := [d1, d2] }
  | _ => none }
def deadCyclesRow : OpenClaim := { program := "ytmojccilbgjngaa", sum := "83b89431ee10086c63d4dc1aacdd81382d25f0046085980f22499ca780134cef", func := "armada/armadalaw08.DeadCycles", spec := "deadCycles", unfollowed := true, recurses := true, apart := false }
def DeadCyclesSaid : Prop := deadCyclesRow.holds Try.pinned (OpenSpec.ofChange deadCyclesSpec)

/-- ITS FALSE NEIGHBOUR: 'it returns false'. Refute it at one input. -/
def deadCyclesWrong : ChangeSpec := { name := "deadCycles", fn := fun _ => fun
  | [d1, d2] => { results := [.lit (.bool false)], args := [d1, d2] }
  | _ => none }
def DeadCyclesWrongFalsely : Prop := deadCyclesRow.holds Try.pinned (OpenSpec.ofChange deadCyclesWrong)

/-- 'armadalaw08.DeadNarrow': WHATEVER THE INPUT: true; the input reads as it did. -/
def deadNarrowSpec : ChangeSpec := { name := "deadNarrow", fn := fun _ => fun
  | [d] => { results := [.lit (.bool true)], args := [d] }
  | _ => none }
def deadNarrowRow : OpenClaim := { program := "ytmojccilbgjngaa", sum := "83b89431ee10086c63d4dc1aacdd81382d25f0046085980f22499ca780134cef", func := "armada/armadalaw08.DeadNarrow", spec := "deadNarrow", unfollowed := true, recurses := true, apart := false }
def DeadNarrowSaid : Prop := deadNarrowRow.holds Try.pinned (OpenSpec.ofChange deadNarrowSpec)

/-- ITS FALSE NEIGHBOUR: 'it returns false'. Refute it at one input. -/
def deadNarrowWrong : ChangeSpec := { name := "deadNarrow", fn := fun _ => fun
  | [d] => { results := [.lit (.bool false)], args := [d] }
  | _ => none }
def DeadNarrowWrongFalsely : Prop := deadNarrowRow.holds Try.pinned (OpenSpec.ofChange deadNarrowWrong)

/- THE SECOND FORM. 'bulk': how many values and letters a reading holds, each counted each time it is reached (what is shared counts as often as it is met; a slice's spare places count too). A statement '..UptoSaid' is the law's where the arguments, and the package variables that the reading takes, are together of bulk at most 1048576: NARROWER than '..Said'. Prove '..Said' where nothing that the law and all that it calls make is longer than what came in: it says more and counts as full. Else prove '..UptoSaid'. A law counts once. -/
mutual
def uptoBulk {H : Type} : DataW H → Nat
  | .lit (.string bytes) => bytes.length + 1
  | .lit _ => 1
  | .nil => 1
  | .ptr d => uptoBulk d + 1
  | .slice elems spare => uptoBulkAll elems + uptoBulkAll spare + 1
  | .agg parts => uptoBulkAll parts + 1
  | .iface _ d => uptoBulk d + 1
  | .map entries => uptoBulkEntries entries + 1
  | .held _ => 1
def uptoBulkAll {H : Type} : List (DataW H) → Nat
  | [] => 0
  | d :: r => uptoBulk d + uptoBulkAll r
def uptoBulkEntries {H : Type} : List (Lit × DataW H) → Nat
  | [] => 0
  | x :: r => uptoBulkEntry x + uptoBulkEntries r
def uptoBulkEntry {H : Type} : Lit × DataW H → Nat
  | (.string bytes, d) => bytes.length + uptoBulk d + 1
  | (_, d) => uptoBulk d + 1
 end
def uptoSmall : (H : Type) → List (DataW H) → Bool := fun _ ds => decide (uptoBulkAll ds ≤ 1048576)
def OpenSpec.upto (s : _root_.Go.ChangeSpec) : _root_.Go.OpenSpec := { _root_.Go.OpenSpec.ofChange s with cond := some uptoSmall }

/-- 'armadalaw08.DeadFollows', WHERE WHAT IT READS IS OF BULK AT MOST 1048576: true; the input reads as it did. -/
def deadFollowsUptoRow : OpenClaim := { program := "ytmojccilbgjngaa", sum := "83b89431ee10086c63d4dc1aacdd81382d25f0046085980f22499ca780134cef", func := "armada/armadalaw08.DeadFollows", spec := "deadFollows", unfollowed := true, recurses := true, apart := false, narrowed := true }
def DeadFollowsUptoSaid : Prop := deadFollowsUptoRow.holds Try.pinned (OpenSpec.upto deadFollowsSpec)

/-- 'armadalaw08.DeadDecides', WHERE WHAT IT READS IS OF BULK AT MOST 1048576: true; the input reads as it did. -/
def deadDecidesUptoRow : OpenClaim := { program := "ytmojccilbgjngaa", sum := "83b89431ee10086c63d4dc1aacdd81382d25f0046085980f22499ca780134cef", func := "armada/armadalaw08.DeadDecides", spec := "deadDecides", unfollowed := true, recurses := true, apart := false, narrowed := true }
def DeadDecidesUptoSaid : Prop := deadDecidesUptoRow.holds Try.pinned (OpenSpec.upto deadDecidesSpec)

/-- 'armadalaw08.DeadSchedules', WHERE WHAT IT READS IS OF BULK AT MOST 1048576: true; the input reads as it did. -/
def deadSchedulesUptoRow : OpenClaim := { program := "ytmojccilbgjngaa", sum := "83b89431ee10086c63d4dc1aacdd81382d25f0046085980f22499ca780134cef", func := "armada/armadalaw08.DeadSchedules", spec := "deadSchedules", unfollowed := true, recurses := true, apart := false, narrowed := true }
def DeadSchedulesUptoSaid : Prop := deadSchedulesUptoRow.holds Try.pinned (OpenSpec.upto deadSchedulesSpec)

/-- 'armadalaw08.DeadRoom', WHERE WHAT IT READS IS OF BULK AT MOST 1048576: true; the input reads as it did. -/
def deadRoomUptoRow : OpenClaim := { program := "ytmojccilbgjngaa", sum := "83b89431ee10086c63d4dc1aacdd81382d25f0046085980f22499ca780134cef", func := "armada/armadalaw08.DeadRoom", spec := "deadRoom", unfollowed := true, recurses := true, apart := false, narrowed := true }
def DeadRoomUptoSaid : Prop := deadRoomUptoRow.holds Try.pinned (OpenSpec.upto deadRoomSpec)

/-- 'armadalaw08.DeadCycles', WHERE WHAT IT READS IS OF BULK AT MOST 1048576: true; the input reads as it did. -/
def deadCyclesUptoRow : OpenClaim := { program := "ytmojccilbgjngaa", sum := "83b89431ee10086c63d4dc1aacdd81382d25f0046085980f22499ca780134cef", func := "armada/armadalaw08.DeadCycles", spec := "deadCycles", unfollowed := true, recurses := true, apart := false, narrowed := true }
def DeadCyclesUptoSaid : Prop := deadCyclesUptoRow.holds Try.pinned (OpenSpec.upto deadCyclesSpec)

/-- 'armadalaw08.DeadNarrow', WHERE WHAT IT READS IS OF BULK AT MOST 1048576: true; the input reads as it did. -/
def deadNarrowUptoRow : OpenClaim := { program := "ytmojccilbgjngaa", sum := "83b89431ee10086c63d4dc1aacdd81382d25f0046085980f22499ca780134cef", func := "armada/armadalaw08.DeadNarrow", spec := "deadNarrow", unfollowed := true, recurses := true, apart := false, narrowed := true }
def DeadNarrowUptoSaid : Prop := deadNarrowUptoRow.holds Try.pinned (OpenSpec.upto deadNarrowSpec)

end Rows
end Go.Proofs.Ytmojccilbgjngaa
