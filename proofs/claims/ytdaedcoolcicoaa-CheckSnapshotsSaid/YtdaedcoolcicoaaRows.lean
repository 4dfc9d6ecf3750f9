/-
  No cell of these rows narrows 'for every input' (looked for: loops, veiled, ifaces, maps, wideKeys, modest, calm, conditions, laid).
  DERIVED. THE GIVEN ROWS OF THIS SEAT. 6 by the template 'for every input the law returns true; each argument reads behind the call as it read before'; 0 by the template 'total and deterministic' (their statements: YtdaedcoolcicoaaTotals.lean).
  GIVEN WITH THE SEED: the statements are not yours to turn. If you find one false, say at which input.
  Laid BY PROGRAM, IN A SANDBOX (cutbox-rows.mjs): the forced cells as the released guide's own fill.sh prints them over the translation 286a82bf3bd50bb8… (all of the seat's roots in one cut). By AI agents, Wed Nov 11 2026. No macro, syntax, notation, axiom, sorry.
-/
import Derived.Test.YtdaedcoolcicoaaChecked
import GoSem.Claim
import GoSem.ClaimJoined
import GoSem.ClaimMapViews
import Derived.JoinedTies
import Derived.KernelRfl
namespace Go.Proofs.Ytdaedcoolcicoaa
/- THE CELL 'sum', in the pinned program and in every row, IS THE sha256 OF THE DUMP (.gsa) THAT YtdaedcoolcicoaaProg.lean LOADS. Nothing in Lean hashes anything: it is a label: what it is worth is what the hold of that sum in a sandbox is worth. -/
noncomputable def Try.pinned : Pinned := { name := "ytdaedcoolcicoaa", sum := "286a82bf3bd50bb801f4bdcb48674aa45585dafcd47c0c3799fbf9f543206376", checked := Try.checked }
namespace Rows
def none {H : Type} : Left H := { results := [], args := [] }

/-- 'armadalaw14.CheckErasures': WHATEVER THE INPUT: true; the input reads as it did. -/
def checkErasuresSpec : ChangeSpec := { name := "checkErasures", fn := fun _ => fun
  | [d1, d2, d3, d4, d5] => { results := [.lit (.bool true)], args := [d1, d2, d3, d4, d5] }
  | _ => none }
def checkErasuresRow : OpenClaim := { program := "ytdaedcoolcicoaa", sum := "286a82bf3bd50bb801f4bdcb48674aa45585dafcd47c0c3799fbf9f543206376", func := "armada/armadalaw14.CheckErasures", spec := "checkErasures", unfollowed := true, recurses := true, plainKeys := false, apart := false }
def CheckErasuresSaid : Prop := checkErasuresRow.holds Try.pinned (OpenSpec.ofChange checkErasuresSpec)

/-- ITS FALSE NEIGHBOUR: 'it returns false'. Refute it at one input. -/
def checkErasuresWrong : ChangeSpec := { name := "checkErasures", fn := fun _ => fun
  | [d1, d2, d3, d4, d5] => { results := [.lit (.bool false)], args := [d1, d2, d3, d4, d5] }
  | _ => none }
def CheckErasuresWrongFalsely : Prop := checkErasuresRow.holds Try.pinned (OpenSpec.ofChange checkErasuresWrong)

/-- 'armadalaw14.CheckBest': WHATEVER THE INPUT: true; the input reads as it did. -/
def checkBestSpec : ChangeSpec := { name := "checkBest", fn := fun _ => fun
  | [d1, d2, d3, d4, d5] => { results := [.lit (.bool true)], args := [d1, d2, d3, d4, d5] }
  | _ => none }
def checkBestRow : OpenClaim := { program := "ytdaedcoolcicoaa", sum := "286a82bf3bd50bb801f4bdcb48674aa45585dafcd47c0c3799fbf9f543206376", func := "armada/armadalaw14.CheckBest", spec := "checkBest", unfollowed := true, recurses := true, plainKeys := false, apart := false }
def CheckBestSaid : Prop := checkBestRow.holds Try.pinned (OpenSpec.ofChange checkBestSpec)

/-- ITS FALSE NEIGHBOUR: 'it returns false'. Refute it at one input. -/
def checkBestWrong : ChangeSpec := { name := "checkBest", fn := fun _ => fun
  | [d1, d2, d3, d4, d5] => { results := [.lit (.bool false)], args := [d1, d2, d3, d4, d5] }
  | _ => none }
def CheckBestWrongFalsely : Prop := checkBestRow.holds Try.pinned (OpenSpec.ofChange checkBestWrong)

/-- 'armadalaw14.CheckConsistent': WHATEVER THE INPUT: true; the input reads as it did. -/
def checkConsistentSpec : ChangeSpec := { name := "checkConsistent", fn := fun _ => fun
  | [d1, d2, d3] => { results := [.lit (.bool true)], args := [d1, d2, d3] }
  | _ => none }
def checkConsistentRow : OpenClaim := { program := "ytdaedcoolcicoaa", sum := "286a82bf3bd50bb801f4bdcb48674aa45585dafcd47c0c3799fbf9f543206376", func := "armada/armadalaw14.CheckConsistent", spec := "checkConsistent", unfollowed := true, recurses := true, plainKeys := false, apart := false }
def CheckConsistentSaid : Prop := checkConsistentRow.holds Try.pinned (OpenSpec.ofChange checkConsistentSpec)

/-- ITS FALSE NEIGHBOUR: 'it returns false'. Refute it at one input. -/
def checkConsistentWrong : ChangeSpec := { name := "checkConsistent", fn := fun _ => fun
  | [d1, d2, d3] => { results := [.lit (.bool false)], args := [d1, d2, d3] }
  | _ => none }
def CheckConsistentWrongFalsely : Prop := checkConsistentRow.holds Try.pinned (OpenSpec.ofChange checkConsistentWrong)

/-- 'armadalaw14.CheckCuts': WHATEVER THE INPUT: true; the input reads as it did. -/
def checkCutsSpec : ChangeSpec := { name := "checkCuts", fn := fun _ => fun
  | [d1, d2, d3, d4] => { results := [.lit (.bool true)], args := [d1, d2, d3, d4] }
  | _ => none }
def checkCutsRow : OpenClaim := { program := "ytdaedcoolcicoaa", sum := "286a82bf3bd50bb801f4bdcb48674aa45585dafcd47c0c3799fbf9f543206376", func := "armada/armadalaw14.CheckCuts", spec := "checkCuts", unfollowed := true, recurses := true, plainKeys := false, apart := false }
def CheckCutsSaid : Prop := checkCutsRow.holds Try.pinned (OpenSpec.ofChange checkCutsSpec)

/-- ITS FALSE NEIGHBOUR: 'it returns false'. Refute it at one input. -/
def checkCutsWrong : ChangeSpec := { name := "checkCuts", fn := fun _ => fun
  | [d1, d2, d3, d4] => { results := [.lit (.bool false)], args := [d1, d2, d3, d4] }
  | _ => none }
def CheckCutsWrongFalsely : Prop := checkCutsRow.holds Try.pinned (OpenSpec.ofChange checkCutsWrong)

/-- 'armadalaw14.CheckSnapshots': WHATEVER THE INPUT: true; the input reads as it did. -/
def checkSnapshotsSpec : ChangeSpec := { name := "checkSnapshots", fn := fun _ => fun
  | [d1, d2, d3] => { results := [.lit (.bool true)], args := [d1, d2, d3] }
  | _ => none }
def checkSnapshotsRow : OpenClaim := { program := "ytdaedcoolcicoaa", sum := "286a82bf3bd50bb801f4bdcb48674aa45585dafcd47c0c3799fbf9f543206376", func := "armada/armadalaw14.CheckSnapshots", spec := "checkSnapshots", unfollowed := true, recurses := true, plainKeys := false, apart := false }
def CheckSnapshotsSaid : Prop := checkSnapshotsRow.holds Try.pinned (OpenSpec.ofChange checkSnapshotsSpec)

/-- ITS FALSE NEIGHBOUR: 'it returns false'. Refute it at one input. -/
def checkSnapshotsWrong : ChangeSpec := { name := "checkSnapshots", fn := fun _ => fun
  | [d1, d2, d3] => { results := [.lit (.bool false)], args := [d1, d2, d3] }
  | _ => none }
def CheckSnapshotsWrongFalsely : Prop := checkSnapshotsRow.holds Try.pinned (OpenSpec.ofChange checkSnapshotsWrong)

/-- 'armadalaw14.CheckFinds': WHATEVER THE INPUT: true; the input reads as it did. -/
def checkFindsSpec : ChangeSpec := { name := "checkFinds", fn := fun _ => fun
  | [d1, d2, d3, d4, d5, d6] => { results := [.lit (.bool true)], args := [d1, d2, d3, d4, d5, d6] }
  | _ => none }
def checkFindsRow : OpenClaim := { program := "ytdaedcoolcicoaa", sum := "286a82bf3bd50bb801f4bdcb48674aa45585dafcd47c0c3799fbf9f543206376", func := "armada/armadalaw14.CheckFinds", spec := "checkFinds", unfollowed := true, recurses := true, plainKeys := false, apart := false }
def CheckFindsSaid : Prop := checkFindsRow.holds Try.pinned (OpenSpec.ofChange checkFindsSpec)

/-- ITS FALSE NEIGHBOUR: 'it returns false'. Refute it at one input. -/
def checkFindsWrong : ChangeSpec := { name := "checkFinds", fn := fun _ => fun
  | [d1, d2, d3, d4, d5, d6] => { results := [.lit (.bool false)], args := [d1, d2, d3, d4, d5, d6] }
  | _ => none }
def CheckFindsWrongFalsely : Prop := checkFindsRow.holds Try.pinned (OpenSpec.ofChange checkFindsWrong)

/- THE SECOND FORM. 'bulk': how many values and letters a reading holds, each counted each time it is reached (what is shared counts as often as it is met; a slice's spare places count too). A statement '..UptoSaid' is the law's where the arguments, and the package variables that the reading takes, are together of bulk at most 1048576: NARROWER than '..Said'. Prove '..Said' where nothing that the law and all that it calls make is longer than what came in: it says more and counts as full. Else prove '..UptoSaid'. A law counts once. -/
mutual
def uptoBulk {H : Type} : DataW H → Nat
  | .lit (.string bytes) => bytes.length + 1
  | .lit _ => 1
  | .nil => 1
  | .ptr d => uptoBulk d + 1
  | .slice elems spare => uptoBulkAll elems + uptoBulkAll spare + 1
  | .agg parts => uptoBulkAll parts + 1
  | .iface _ d => uptoBulk d + 1
  | .map entries => uptoBulkEntries entries + 1
  | .held _ => 1
def uptoBulkAll {H : Type} : List (DataW H) → Nat
  | [] => 0
  | d :: r => uptoBulk d + uptoBulkAll r
def uptoBulkEntries {H : Type} : List (Lit × DataW H) → Nat
  | [] => 0
  | x :: r => uptoBulkEntry x + uptoBulkEntries r
def uptoBulkEntry {H : Type} : Lit × DataW H → Nat
  | (.string bytes, d) => bytes.length + uptoBulk d + 1
  | (_, d) => uptoBulk d + 1
 end
def uptoSmall : (H : Type) → List (DataW H) → Bool := fun _ ds => decide (uptoBulkAll ds ≤ 1048576)
def OpenSpec.upto (s : _root_.Go.ChangeSpec) : _root_.Go.OpenSpec := { _root_.Go.OpenSpec.ofChange s with cond := some uptoSmall }

/-- 'armadalaw14.CheckErasures', WHERE WHAT IT READS IS OF BULK AT MOST 1048576: true; the input reads as it did. -/
def checkErasuresUptoRow : OpenClaim := { program := "ytdaedcoolcicoaa", sum := "286a82bf3bd50bb801f4bdcb48674aa45585dafcd47c0c3799fbf9f543206376", func := "armada/armadalaw14.CheckErasures", spec := "checkErasures", unfollowed := true, recurses := true, plainKeys := false, apart := false, narrowed := true }
def CheckErasuresUptoSaid : Prop := checkErasuresUptoRow.holds Try.pinned (OpenSpec.upto checkErasuresSpec)

/-- 'armadalaw14.CheckBest', WHERE WHAT IT READS IS OF BULK AT MOST 1048576: true; the input reads as it did. -/
def checkBestUptoRow : OpenClaim := { program := "ytdaedcoolcicoaa", sum := "286a82bf3bd50bb801f4bdcb48674aa45585dafcd47c0c3799fbf9f543206376", func := "armada/armadalaw14.CheckBest", spec := "checkBest", unfollowed := true, recurses := true, plainKeys := false, apart := false, narrowed := true }
def CheckBestUptoSaid : Prop := checkBestUptoRow.holds Try.pinned (OpenSpec.upto checkBestSpec)

/-- 'armadalaw14.CheckConsistent', WHERE WHAT IT READS IS OF BULK AT MOST 1048576: true; the input reads as it did. -/
def checkConsistentUptoRow : OpenClaim := { program := "ytdaedcoolcicoaa", sum := "286a82bf3bd50bb801f4bdcb48674aa45585dafcd47c0c3799fbf9f543206376", func := "armada/armadalaw14.CheckConsistent", spec := "checkConsistent", unfollowed := true, recurses := true, plainKeys := false, apart := false, narrowed := true }
def CheckConsistentUptoSaid : Prop := checkConsistentUptoRow.holds Try.pinned (OpenSpec.upto checkConsistentSpec)

/-- 'armadalaw14.CheckCuts', WHERE WHAT IT READS IS OF BULK AT MOST 1048576: true; the input reads as it did. -/
def checkCutsUptoRow : OpenClaim := { program := "ytdaedcoolcicoaa", sum := "286a82bf3bd50bb801f4bdcb48674aa45585dafcd47c0c3799fbf9f543206376", func := "armada/armadalaw14.CheckCuts", spec := "checkCuts", unfollowed := true, recurses := true, plainKeys := false, apart := false, narrowed := true }
def CheckCutsUptoSaid : Prop := checkCutsUptoRow.holds Try.pinned (OpenSpec.upto checkCutsSpec)

/-- 'armadalaw14.CheckSnapshots', WHERE WHAT IT READS IS OF BULK AT MOST 1048576: true; the input reads as it did. -/
def checkSnapshotsUptoRow : OpenClaim := { program := "ytdaedcoolcicoaa", sum := "286a82bf3bd50bb801f4bdcb48674aa45585dafcd47c0c3799fbf9f543206376", func := "armada/armadalaw14.CheckSnapshots", spec := "checkSnapshots", unfollowed := true, recurses := true, plainKeys := false, apart := false, narrowed := true }
def CheckSnapshotsUptoSaid : Prop := checkSnapshotsUptoRow.holds Try.pinned (OpenSpec.upto checkSnapshotsSpec)

/-- 'armadalaw14.CheckFinds', WHERE WHAT IT READS IS OF BULK AT MOST 1048576: true; the input reads as it did. -/
def checkFindsUptoRow : OpenClaim := { program := "ytdaedcoolcicoaa", sum := "286a82bf3bd50bb801f4bdcb48674aa45585dafcd47c0c3799fbf9f543206376", func := "armada/armadalaw14.CheckFinds", spec := "checkFinds", unfollowed := true, recurses := true, plainKeys := false, apart := false, narrowed := true }
def CheckFindsUptoSaid : Prop := checkFindsUptoRow.holds Try.pinned (OpenSpec.upto checkFindsSpec)

end Rows
end Go.Proofs.Ytdaedcoolcicoaa
