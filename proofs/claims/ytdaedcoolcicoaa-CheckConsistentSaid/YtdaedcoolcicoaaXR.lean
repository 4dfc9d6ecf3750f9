/- The closed evaluator, part R: laws about functions whose answers are all true. -/
import Derived.Test.YtdaedcoolcicoaaXK
namespace Go.X
noncomputable section
open Go Go.RowKit
variable {w0 : World} {P : Program}

/-- Nothing is known at first. -/
def none0 : Phi := fun _ => none
def ah0 : AH := ⟨.e, 0⟩
theorem R.first (W : World) : R W none0 ah0 W :=
  ⟨fun _ _ _ h => (by cases h), fun _ _ _ h => (by cases h), fun _ _ _ _ _ _ h => (by cases h), fun _ _ h => (by cases h), Nat.zero_le _, Below.refl _ _⟩
def yes : Value → Bool
  | .bool true => true
  | _ => false
def allYes : Option (List (Value × AH)) → Bool
  | some l => l.all fun p => yes p.1
  | none => false
def noCountB (P : Program) : Bool := P.funcs.toList.all fun fn => !(fn.name == "runtime.NumGoroutine")
theorem noCount_of (hb : noCountB P = true) : NoCount P := by
  intro f fn hf _
  have hm : fn ∈ P.funcs.toList := by
    rw [Array.mem_toList_iff]
    exact Array.mem_of_getElem? hf
  have := List.all_eq_true.1 hb fn hm
  simpa using this
theorem yes_calls (hN : NoCount P) (hM : P.follows .mixedOrders = true) (LF k : Nat) {f : FuncId} {args : List Value} {args' : Array Value} {W : World}
    (ha : LR none0 args args'.toList) (hs : allYes (aRun P LF k (.enter f args) ah0) = true) :
    Calls P f args' W fun e w' => e = .returned (.bool true) ∧ Below W.heap.size W w' := by
  cases hl : aRun P LF k (.enter f args) ah0 with
  | none => rw [hl] at hs; cases hs
  | some l =>
    rw [hl] at hs
    have hc := (run_callsOk (w0 := W) hN hM LF k _ _ _ none0 W (.enter f ⟨args'.toList⟩) hl (R.first W) (.enter ha)).1 _ _ rfl
    refine Calls.mono hc fun e w' he => ?_
    obtain ⟨v', rfl, v, h', hm, φ', _, hr, hv⟩ := he
    have := List.all_eq_true.1 hs _ hm
    refine ⟨?_, hr.below⟩
    dsimp only at this
    unfold yes at this
    split at this
    · cases hv; rfl
    · cases this
end
end Go.X
