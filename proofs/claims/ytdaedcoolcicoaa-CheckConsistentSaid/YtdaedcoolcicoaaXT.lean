/- The closed evaluator, part T: functions without arguments that return true, evaluated in pieces; calls that are already proved. -/
import Derived.Test.YtdaedcoolcicoaaXS
namespace Go.X
noncomputable section
open Go Go.RowKit
variable {w0 w w' : World} {φ φ' : Phi} {h h' : AH} {P : Program} {n : Nat} {t : T Value}

def YesPost (W : World) : Ending → World → Prop := fun e w' => e = .returned (.bool true) ∧ Below W.heap.size W w'
def lastYes (P : Program) (fn : Func) (o : Out) : Bool := match o.ex, o.ds with
  | .exit _, _ => false
  | _, [] => (match aRes P fn.ntmps o.t o.h fn.results.toList with
    | some v => yes v
    | none => false)
  | _, _ => false
def lastYesL (P : Program) (fn : Func) : COuts → Bool
  | some l => l.all (lastYes P fn)
  | none => false
theorem good_yes (hN : NoCount P) (hM : P.follows .mixedOrders = true) {call : Call1} {W : World} (hc : CallsOk W P call) (LF : Nat) {fn : Func} {c : Code} {ds : List Nat}
    (hs : lastYesL P fn (aCode P call fn.ntmps LF none c t ds h) = true) : Good W P fn.ntmps (bodyPostM Fence.wide 0 P fn (YesPost W)) c t ds h := by
  cases hl : aCode P call fn.ntmps LF none c t ds h with
  | none => rw [hl] at hs; cases hs
  | some l =>
    rw [hl] at hs
    refine Good.last hN hM hc LF hl ?_
    rintro e a w ⟨o, ho, hex, φ1, r1, f1, d1⟩
    have hyy := List.all_eq_true.1 hs _ ho
    obtain ⟨ex, t1, ds1, h1⟩ := o
    have fin : (match aRes P fn.ntmps t1 h1 fn.results.toList with
        | some v => yes v
        | none => false) = true → ds1 = [] → LeavesInM Fence.wide 0 P fn a.tmps (YesPost W) a.defers .returning w := by
      intro hy hd
      subst hd
      split at hy
      · rename_i v hv
        obtain ⟨v', h2, h3⟩ := res_ok r1 f1 hv
        have ha : a.defers = [] := by
          revert d1
          generalize a.defers = z
          intro d1
          cases d1; rfl
        rw [ha]
        refine ⟨v', h2, ?_, r1.below⟩
        unfold yes at hy
        split at hy
        · cases h3; rfl
        · cases hy
      · cases hy
    cases ds1 with
    | nil =>
      cases hex with
      | normal => exact fin hyy rfl
      | exit id => cases hyy
      | ret => exact fin hyy rfl
    | cons d ds1 => cases hex <;> cases hyy
theorem good_calls {W : World} {f : FuncId} {fn : Func} {c : Code} {post : Ending → World → Prop} (hf : P.funcs[f]? = some fn) (hb : fn.body = some c) (hn : fn.ntmps ≤ T.top)
    (g : Good W P fn.ntmps (bodyPostM Fence.wide 0 P fn post) c .e [] ah0) : Calls P f #[] W post := by
  refine (callsIn_wide (n := 0)).1 (callsIn_of_wp_marks hf hb trivial ?_ rfl)
  refine g none0 _ W (R.first W) ?_ .nil
  refine ⟨by simp, hn, fun k u hk => ?_⟩
  have : u = undef := by
    simp only [List.size_toArray, List.length_nil, Nat.sub_zero, Array.empty_append] at hk
    rw [Array.getElem?_replicate] at hk
    split at hk
    · cases hk; rfl
    · cases hk
  subst this
  rw [T.get_e]; exact .undef
end
end Go.X
