/- The closed evaluator, part V: calls of a function that makes one block of plain numbers. -/
import Derived.Test.YtdaedcoolcicoaaXU
namespace Go.X
noncomputable section
open Go Go.RowKit
variable {w0 w w' : World} {φ φ' : Phi} {h h' : AH} {P : Program} {n : Nat} {t : T Value}

/-- A block that a call has made is known under a new number. -/
theorem R.adopt (r : R w0 φ h w) (bl : Below w.heap.size w w') {i : Im} {o : AObj} (hc : w.heap.size ≤ i.c) (hl : i.c < w'.heap.size) (hn : h.next < T.top) (hx : ∀ φ', OR φ' i w' o) :
    ∃ φ', Nx φ φ' h ⟨h.m.set h.next (some o), h.next + 1⟩ ∧ φ' h.next = some i ∧ R w0 φ' ⟨h.m.set h.next (some o), h.next + 1⟩ w' := by
  have rg := r.grown bl
  have le : Le φ (fun b => if b = h.next then some i else φ b) := by
    intro b j hj
    have := (r.lt b j hj).2
    show (if b = h.next then some i else φ b) = some j
    rw [if_neg (by omega)]; exact hj
  refine ⟨fun b => if b = h.next then some i else φ b, ⟨le, Nat.le_succ _, fun b hb hlt => ⟨by show (if b = h.next then some i else φ b) = none; rw [if_neg (by omega)]; exact hb, by show (h.m.set h.next (some o)).get b = _; rw [T.get_set hn, if_neg (by omega)]⟩⟩, if_pos rfl, ?_⟩
  have hget : ∀ k, (h.m.set h.next (some o)).get k = if k = h.next then some o else h.m.get k := fun k => T.get_set hn k
  refine ⟨fun k j o2 hj hk => ?_, fun k j o2 hj hk hr => ?_, fun k k' j j' o2 o3 hj hj' hk hk' hcc => ?_, fun k j hj => ?_, hn, rg.below⟩
  · rw [hget] at hk
    by_cases e : k = h.next
    · subst e; rw [if_pos rfl] at hk; cases hk
      rw [if_pos rfl] at hj; cases hj
      exact hx _
    · rw [if_neg e] at hk hj
      exact (rg.dom k j o2 hj hk).mono le
  · rw [hget] at hk
    by_cases e : k = h.next
    · subst e
      rw [if_pos rfl] at hj; cases hj
      exact Nat.le_trans r.below.size hc
    · rw [if_neg e] at hk hj
      exact r.low k j o2 hj hk hr
  · rw [hget] at hk hk'
    by_cases e : k = h.next
    · by_cases e' : k' = h.next
      · rw [e, e']
      · subst e
        rw [if_pos rfl] at hj; cases hj
        rw [if_neg e'] at hj'
        have := (r.lt k' j' hj').1
        omega
    · by_cases e' : k' = h.next
      · subst e'
        rw [if_pos rfl] at hj'; cases hj'
        rw [if_neg e] at hj
        have := (r.lt k j hj).1
        omega
      · rw [if_neg e] at hk hj
        rw [if_neg e'] at hk' hj'
        exact r.inj k k' j j' o2 o3 hj hj' hk hk' hcc
  · by_cases e : k = h.next
    · subst e; rw [if_pos rfl] at hj; cases hj
      exact ⟨hl, Nat.lt_succ_self _⟩
    · rw [if_neg e] at hj
      have := rg.lt k j hj
      exact ⟨this.1, Nat.lt_succ_of_lt this.2⟩

/-- Cells that hold plain values only. -/
def plainT (c : T Value) (n : Nat) : Bool := (List.range n).all fun k => match c.get k with
  | some v => pfv v
  | none => false
/-- The block that a call has made. -/
def boxOf : Option (List (Value × AH)) → Option (T Value × Nat × Nat)
  | some [(.pointer (some ⟨b, 0, none⟩), h)] => (match h.m.get b with
    | some (.cells c n op false) => some (c, n, op)
    | _ => none)
  | _ => none
/-- What is known of a function that makes a block. -/
def BoxPost (W : World) (c : T Value) (n op : Nat) : Ending → World → Prop := fun e w' => ∃ i : Im, e = .returned (.pointer (some ⟨i.c, i.d, none⟩)) ∧ W.heap.size ≤ i.c ∧ i.c < w'.heap.size ∧ (∀ φ, OR φ i w' (.cells c n op false)) ∧ Below W.heap.size W w'
theorem box_calls (hN : NoCount P) (hM : P.follows .mixedOrders = true) (LF k : Nat) {f : FuncId} {c : T Value} {n op : Nat} (hs : boxOf (aRun P LF k (.enter f []) ah0) = some (c, n, op)) (hp : plainT c n = true) (W : World) :
    Calls P f #[] W (BoxPost W c n op) := by
  cases hl : aRun P LF k (.enter f []) ah0 with
  | none => rw [hl] at hs; cases hs
  | some l =>
    rw [hl] at hs
    have hc := (run_callsOk (w0 := W) hN hM LF k _ _ _ none0 W (.enter f ⟨[]⟩) hl (R.first W) (.enter .nil)).1 _ _ rfl
    refine Calls.mono hc fun e w' he => ?_
    obtain ⟨v', rfl, v, h', hm, φ', _, hr, hv⟩ := he
    unfold boxOf at hs
    split at hs
    · rename_i b h2 heq
      cases heq
      cases List.mem_singleton.1 hm
      split at hs
      · rename_i c' n' op' ho
        cases hs
        obtain ⟨i, hi, _, rfl⟩ := hv.ptr_inv
        have hi : φ' b = some i := hi
        have hd := hr.dom _ _ _ hi ho
        refine ⟨i, by simp, hr.low _ _ _ hi ho rfl, (hr.lt _ _ hi).1, fun φ => ?_, hr.below⟩
        obtain ⟨h1, h2, h3, arr, el, h4, h5, h6, h7⟩ := hd
        refine ⟨h1, h2, h3, arr, el, h4, h5, h6, fun k hk => ?_⟩
        obtain ⟨u, u', g1, g2, g3⟩ := h7 k hk
        have hall := List.all_eq_true.1 hp k (List.mem_range.2 hk)
        rw [g1] at hall
        have e := pfv_same hall g3
        subst e
        exact ⟨u', u', g1, g2, pfv_refl φ hall⟩
      · cases hs
    · cases hs
/-- Calls of a function that is known to make such a block. -/
def knownBox (f : FuncId) (c : T Value) (n op : Nat) (call : Call1) : Call1 := fun an h => match an with
  | .enter g [] => if g = f then (if h.next < T.top then some [(.pointer (some ⟨h.next, 0, none⟩), ⟨h.m.set h.next (some (.cells c n op false)), h.next + 1⟩)] else none) else call an h
  | _ => call an h
theorem knownBox_ok {f : FuncId} {c : T Value} {n op : Nat} (hf : ∀ W, Calls P f #[] W (BoxPost W c n op)) {call : Call1} (hc : CallsOk w0 P call) : CallsOk w0 P (knownBox f c n op call) := by
  intro an h l φ w nx hs hr hnr
  unfold knownBox at hs
  split at hs
  · rename_i g
    split at hs
    · rename_i hg
      subst hg
      split at hs
      · rename_i hn
        cases hs
        cases hnr with
        | enter hl =>
          cases hl
          refine ⟨?_, fun _ _ _ _ _ e => by cases e⟩
          intro f' args e
          cases e
          refine Calls.mono (hf w) fun e w' he => ?_
          obtain ⟨i, rfl, h1, h2, h3, hb⟩ := he
          obtain ⟨φ', nx, hi, r'⟩ := hr.adopt hb h1 h2 hn h3
          refine ⟨_, rfl, _, _, List.mem_singleton.2 rfl, φ', nx, r', ?_⟩
          · have := VR.ptr (φ := φ') (a := ⟨h.next, 0, none⟩) i hi rfl
            simpa only [Nat.zero_add] using this
      · cases hs
    · exact hc _ _ _ _ _ _ hs hr hnr
  · exact hc _ _ _ _ _ _ hs hr hnr
end
end Go.X
