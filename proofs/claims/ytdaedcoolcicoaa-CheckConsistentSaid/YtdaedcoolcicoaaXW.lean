/- The closed evaluator, part W: pieces of a function that returns true, with what is known of calls. -/
import Derived.Test.YtdaedcoolcicoaaXV
namespace Go.X
noncomputable section
open Go Go.RowKit
variable {w0 w w' : World} {φ φ' : Phi} {h h' : AH} {P : Program} {n : Nat} {t : T Value}

/-- Some pieces of a spine; what is kept of the memory behind them. -/
def aPiece (P : Program) (call : Call1) (n LF k : Nat) (keep : List Nat) (c : Code) (t : T Value) (h : AH) : Option (T Value × List Nat × AH) := match aSpine P call n LF k c t [] h with
  | some (t', ds', h') => some (t', ds', gc keep h')
  | none => none
theorem Good.piece (hN : NoCount P) (hM : P.follows .mixedOrders = true) {call : Call1} (hc : CallsOk w0 P call) {LF : Nat} {Q : Exit → Act → World → Prop} {k : Nat} {keep : List Nat} {c : Code} {t' : T Value} {h' : AH}
    (hs : aPiece P call n LF k keep c t h = some (t', [], h')) (g : Good w0 P n Q (back k c) t' [] h') : Good w0 P n Q c t [] h := by
  unfold aPiece at hs
  split at hs
  · rename_i t1 ds1 h1 he
    simp only [Option.some.injEq, Prod.mk.injEq] at hs
    obtain ⟨rfl, rfl, rfl⟩ := hs
    exact Good.spine hN hM hc LF k he (Good.gc keep g)
  · cases hs
/-- Calls of functions that return true, and of functions that make a block. -/
def ov0 (call : Call1) : Call1 := call
theorem ov0_ok {call : Call1} (hc : CallsOk w0 P call) : CallsOk w0 P (ov0 call) := hc
end
end Go.X
