/- The closed evaluator, part U: calls that are already proved. -/
import Derived.Test.YtdaedcoolcicoaaXT
namespace Go.X
noncomputable section
open Go Go.RowKit
variable {w0 w w' : World} {φ φ' : Phi} {h h' : AH} {P : Program} {n : Nat} {t : T Value}

theorem R.grown (r : R w0 φ h w) (b : Below w.heap.size w w') : R w0 φ h w' := by
  have e : ∀ {k i}, φ k = some i → w'.heap[i.c]? = w.heap[i.c]? := fun hk => b.block _ (r.lt _ _ hk).1
  have hs : w.heap.size ≤ w'.heap.size := b.size
  have hb := r.below
  refine ⟨fun k i o hi ho => (r.dom k i o hi ho).world (e hi), r.low, r.inj, fun k i hi => ⟨Nat.lt_of_lt_of_le (r.lt k i hi).1 hs, (r.lt k i hi).2⟩, r.nx, ?_⟩
  exact hb.trans (b.mono hb.size)
/-- Calls of one function that is known to return true. -/
def known (f : FuncId) (call : Call1) : Call1 := fun an h => match an with
  | .enter g [] => if g = f then some [(.bool true, h)] else call an h
  | _ => call an h
theorem known_ok {f : FuncId} {call : Call1} (hf : ∀ W, Calls P f #[] W (YesPost W)) (hc : CallsOk w0 P call) : CallsOk w0 P (known f call) := by
  intro an h l φ w nx hs hr hnr
  unfold known at hs
  split at hs
  · rename_i g
    split at hs
    · rename_i hg
      subst hg
      cases hs
      cases hnr with
      | enter hl =>
        cases hl
        refine ⟨?_, fun _ _ _ _ _ e => by cases e⟩
        intro f' args e
        cases e
        refine Calls.mono (hf w) fun e w' he => ?_
        obtain ⟨rfl, hb⟩ := he
        exact ⟨_, rfl, .bool true, h, List.mem_singleton.2 rfl, φ, .refl φ h, hr.grown hb, .bool true⟩
    · exact hc _ _ _ _ _ _ hs hr hnr
  · exact hc _ _ _ _ _ _ hs hr hnr
end
end Go.X
