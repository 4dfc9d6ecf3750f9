/- Parts of the closed evaluator. -/
import Derived.Test.YtmehemeoaplepaaZf
import Derived.RecoverIn
namespace Go.X
noncomputable section
open Go Go.RowKit
variable {w0 : World} {P : Program}
def none0 : Phi := fun _ => none
def ah0 : AH := ⟨.e, 0⟩
theorem R.first (W : World) : R W none0 ah0 W :=
 ⟨fun _ _ _ h => (by cases h), fun _ _ _ h => (by cases h), fun _ _ _ _ _ _ h => (by cases h), fun _ _ h => (by cases h), trivial, Below.refl _ _⟩
def yes : Value → Bool
 | .bool true => true
 | _ => false
def allYes : Option (List (Value × AH)) → Bool
 | some l => l.all fun p => yes p.1
 | none => false
def noCountB (P : Program) : Bool := P.funcs.toList.all fun fn => !(fn.name == "runtime.NumGoroutine")
theorem noCount_of (hb : noCountB P = true) : NoCount P := by
 intro f fn hf _
 have hm : fn ∈ P.funcs.toList := by
  rw [Array.mem_toList_iff]
  exact Array.mem_of_getElem? hf
 have := List.all_eq_true.1 hb fn hm
 simpa using this
theorem yes_calls (hN : NoCount P) (hM : P.follows .mixedOrders = true) (LF k : Nat) {f : FuncId} {args : List Value} {args' : Array Value} {W : World}
  (ha : LR none0 args args'.toList) (hs : allYes (aRun P LF k (.enter f args) ah0) = true) :
  Calls P f args' W fun e w' => e = .returned (.bool true) ∧ Below W.heap.size W w' := by
 cases hl : aRun P LF k (.enter f args) ah0 with
 | none => rw [hl] at hs; cases hs
 | some l =>
  rw [hl] at hs
  have hc := (run_callsOk (w0 := W) hN hM LF k _ _ _ none0 W (.enter f ⟨args'.toList⟩) hl (R.first W) (.enter ha)).1 _ _ rfl
  refine Calls.mono hc fun e w' he => ?_
  obtain ⟨v', rfl, v, h', hm, φ', _, hr, hv⟩ := he
  have := List.all_eq_true.1 hs _ hm
  refine ⟨?_, hr.below⟩
  dsimp only at this
  unfold yes at this
  split at this
  · cases hv; rfl
  · cases this
end
end Go.X

namespace Go.X
noncomputable section
open Go Go.RowKit
variable {w0 w w' : World} {φ φ' : Phi} {h h' : AH} {P : Program} {n : Nat} {t : T Value}
def YesPost (W : World) : Ending → World → Prop := fun e w' => e = .returned (.bool true) ∧ Below W.heap.size W w'
end
end Go.X
namespace Go.X
noncomputable section
open Go Go.RowKit
variable {w0 w w' : World} {φ φ' : Phi} {h h' : AH} {P : Program} {n : Nat} {t : T Value}
def known (f : FuncId) (call : Call1) : Call1 := fun an h => match an with
 | .enter g [] => if g = f then some [(.bool true, h)] else call an h
 | _ => call an h
theorem known_ok {f : FuncId} {call : Call1} (hf : ∀ W, Calls P f #[] W (YesPost W)) (hc : CallsOk w0 P call) : CallsOk w0 P (known f call) := by
 intro an h l φ w nx hs hr hnr
 unfold known at hs
 split at hs
 · rename_i g
   split at hs
   · rename_i hg
     subst hg
     cases hs
     cases hnr with
     | enter hl =>
      cases hl
      refine ⟨?_, fun _ _ _ _ _ e => by cases e⟩
      intro f' args e
      cases e
      refine Calls.mono (hf w) fun e w' he => ?_
      obtain ⟨rfl, hb⟩ := he
      exact ⟨_, rfl, .bool true, h, List.mem_singleton.2 rfl, φ, .refl φ h, hr.grown hb, .bool true⟩
   · exact hc _ _ _ _ _ _ hs hr hnr
 · exact hc _ _ _ _ _ _ hs hr hnr
end
end Go.X






namespace Go.X
noncomputable section
open Go Go.RowKit
variable {w0 w w' : World} {φ φ' : Phi} {h h' : AH} {P : Program} {n : Nat} {t : T Value} {bs : List Deferred}
abbrev PEx := Value → T Value → List Nat → AH → Bool
def FP (φ : Phi) (n : Nat) (S : List Nat) (t : T Value) (a : Array Value) : Prop := a.size = n ∧ ∀ s v, s ∈ S → a[s]? = some v → VR φ (vt t s) v
def PPost (bs : List Deferred) (w0 : World) (φ : Phi) (h : AH) (n : Nat) (S : List Nat) (X : PEx) : Exit → Act → World → Prop := fun e a w =>
 ∃ u t' ds' h' u' φ', X u t' ds' h' = true ∧ e = .panic [{ v := u', recovered := false }] ∧ VR φ' u u' ∧ Nx φ φ' h h' ∧ R w0 φ' h' w ∧ FP φ' n S t' a.tmps ∧ DR bs φ' ds' a.defers
end
end Go.X



