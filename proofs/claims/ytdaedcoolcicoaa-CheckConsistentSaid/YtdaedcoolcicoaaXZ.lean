/- The closed evaluator, part Z: calls whose new blocks are not needed any more. -/
import Derived.Test.YtdaedcoolcicoaaXY
namespace Go.X
noncomputable section
open Go Go.RowKit
variable {w0 w w' : World} {φ φ' : Phi} {h h' : AH} {P : Program} {n : Nat} {t : T Value}

namespace T
variable {α : Type}
def smart (l : T α) (v : Option α) (r : T α) : T α := match l, v, r with
  | .e, none, .e => .e
  | l, v, r => .n l v r
theorem get_smart (l r : T α) (v : Option α) (k : Nat) : (smart l v r).get k = (T.n l v r).get k := by
  unfold smart
  split
  · rw [get_n]; split
    · rfl
    · split <;> rfl
  · rfl
def del (t : T α) : Nat → T α := T.rec (motive := fun _ => Nat → T α) (fun _ => .e)
  (fun l v r dl dr k => Bool.rec (Bool.rec (smart (dl (Nat.sub (Nat.div k (nat_lit 2)) (nat_lit 1))) v r) (smart l v (dr (Nat.div k (nat_lit 2)))) (Nat.beq (Nat.mod k (nat_lit 2)) (nat_lit 1))) (smart l none r) (Nat.beq k (nat_lit 0))) t
theorem del_n (l r : T α) (v : Option α) (k : Nat) : (T.n l v r).del k = if k = 0 then smart l none r else if k % 2 = 1 then smart l v (r.del (k / 2)) else smart (l.del (k / 2 - 1)) v r := by
  show Bool.rec (motive := fun _ => T α) (Bool.rec (motive := fun _ => T α) (smart (l.del (k / 2 - 1)) v r) (smart l v (r.del (k / 2))) (Nat.beq (k % 2) 1)) (smart l none r) (Nat.beq k 0) = _
  rw [beq_ite, beq_ite]
theorem get_del : ∀ (t : T α) (k j : Nat), (t.del k).get j = if j = k then none else t.get j
  | .e, k, j => by
    show (T.e : T α).get j = _
    rw [get_e]; simp
  | .n l v r, k, j => by
    have il := get_del l
    have ir := get_del r
    rw [del_n]
    by_cases hk : k = 0
    · subst hk
      rw [if_pos rfl, get_smart, get_n, get_n]
      by_cases hj : j = 0 <;> simp [hj]
    · rw [if_neg hk]
      by_cases ho : k % 2 = 1
      · rw [if_pos ho, get_smart, get_n, get_n, ir]
        by_cases hj : j = 0
        · subst hj; rw [if_pos rfl, if_pos rfl, if_neg (by omega)]
        · rw [if_neg hj, if_neg hj]
          by_cases hjo : j % 2 = 1
          · rw [if_pos hjo, if_pos hjo]
            by_cases e : j = k
            · subst e; simp
            · rw [if_neg e, if_neg (by omega)]
          · rw [if_neg hjo, if_neg hjo, if_neg (by intro e; subst e; exact hjo ho)]
      · rw [if_neg ho, get_smart, get_n, get_n, il]
        by_cases hj : j = 0
        · subst hj; rw [if_pos rfl, if_pos rfl, if_neg (by omega)]
        · rw [if_neg hj, if_neg hj]
          by_cases hjo : j % 2 = 1
          · rw [if_pos hjo, if_pos hjo, if_neg (by intro e; subst e; exact ho hjo)]
          · rw [if_neg hjo, if_neg hjo]
            by_cases e : j = k
            · subst e; simp
            · rw [if_neg e, if_neg (by omega)]
end T
/-- The blocks that a value names. -/
def blocksV : Nat → Value → List Nat
  | _, .pointer (some a) => [a.block]
  | _, .slice (some a) _ _ => [a.block]
  | _, .map (some r) => [r]
  | k + 1, .iface _ v => blocksV k v
  | k + 1, .agg ⟨l⟩ => l.flatMap (blocksV k)
  | k + 1, .tuple ⟨l⟩ => l.flatMap (blocksV k)
  | _, _ => []
def blocksT : T Value → List Nat
  | .e => []
  | .n l v r => blocksT l ++ ((match v with
    | some v => blocksV 9 v
    | none => []) ++ blocksT r)
def blocksO : AObj → List Nat
  | .cells c _ _ _ => blocksT c
  | .map es _ _ => es.flatMap fun e => blocksV 9 e.1 ++ blocksV 9 e.2.1
  | _ => []
def memN (k : Nat) : List Nat → Bool
  | [] => false
  | x :: l => if Nat.beq k x then true else memN k l
/-- The blocks from a number on that can be come to from some. -/
def reachF (h : AH) (lo : Nat) : Nat → List Nat → List Nat → List Nat
  | 0, _, done => done
  | _, [], done => done
  | f + 1, b :: todo, done => if Nat.ble lo b then (if memN b done then reachF h lo f todo done else (match h.m.get b with
      | some o => reachF h lo f (blocksO o ++ todo) (b :: done)
      | none => reachF h lo f todo done)) else reachF h lo f todo done
/-- The blocks from a number on, so many, but for some. -/
def delN (keep : List Nat) (lo : Nat) (k : Nat) (t : T AObj) : T AObj := Nat.rec (motive := fun _ => T AObj) t (fun i ih => match memN (Nat.add lo i) keep with
  | true => ih
  | false => ih.del (Nat.add lo i)) k
theorem delN_get (keep : List Nat) (lo : Nat) : ∀ (k : Nat) (t : T AObj) (j : Nat), (∀ o, (delN keep lo k t).get j = some o → t.get j = some o) ∧ (j < lo → (delN keep lo k t).get j = t.get j)
  | 0, t, j => ⟨fun _ h => h, fun _ => rfl⟩
  | k + 1, t, j => by
    obtain ⟨h1, h2⟩ := delN_get keep lo k t j
    have e : delN keep lo (k + 1) t = match memN (lo + k) keep with
      | true => delN keep lo k t
      | false => (delN keep lo k t).del (lo + k) := rfl
    rw [e]
    cases memN (lo + k) keep with
    | true => exact ⟨h1, h2⟩
    | false =>
      dsimp only
      rw [T.get_del]
      refine ⟨fun o ho => ?_, fun hj => by rw [if_neg (by omega)]; exact h2 hj⟩
      split at ho
      · cases ho
      · exact h1 o ho
def dropNew (keep : List Nat) (h h' : AH) : AH := ⟨delN keep h.next (Nat.sub h'.next h.next) h'.m, h'.next⟩
theorem dropNew_get {keep : List Nat} {b : Nat} {o : AObj} (hb : (dropNew keep h h').m.get b = some o) : h'.m.get b = some o := (delN_get keep h.next (h'.next - h.next) h'.m b).1 o hb
theorem R.dropNew {keep : List Nat} (r : R w0 φ h' w) : R w0 φ (dropNew keep h h') w :=
  ⟨fun b i o hi ho => r.dom b i o hi (dropNew_get ho), fun b i o hi ho => r.low b i o hi (dropNew_get ho), fun b b' i i' o o' hi hi' ho ho' => r.inj b b' i i' o o' hi hi' (dropNew_get ho) (dropNew_get ho'), r.lt, r.nx, r.below⟩
/-- Calls of some functions behind which of what they laid only that is needed that their result names. -/
def dropCall (fs : List FuncId) (call : Call1) : Call1 := fun an h => match an with
  | .enter g args => (match memN g fs with
    | true => (match call (.enter g args) h with
      | some l => some (l.map fun p => (p.1, dropNew (reachF p.2 h.next 10000 (blocksV 9 p.1) []) h p.2))
      | none => none)
    | false => call (.enter g args) h)
  | an => call an h
theorem dropCall_ok {fs : List FuncId} {call : Call1} (hc : CallsOk w0 P call) : CallsOk w0 P (dropCall fs call) := by
  intro an h l φ w nx hs hr hnr
  unfold dropCall at hs
  split at hs
  · rename_i g args
    split at hs
    · split at hs
      · rename_i l0 h0
        cases hs
        obtain ⟨c1, c2⟩ := hc _ _ _ _ _ _ h0 hr hnr
        refine ⟨fun f args' e => (c1 f args' e).mono ?_, fun b f tmps asg body e m => (by subst e; cases hnr)⟩
        rintro e w' ⟨v', rfl, v, h', hm, φ', nx', r', hv⟩
        refine ⟨v', rfl, v, dropNew _ h h', List.mem_map.2 ⟨_, hm, rfl⟩, φ', ⟨nx'.le, nx'.next, fun b hb hlt => ?_⟩, r'.dropNew, hv⟩
        obtain ⟨g1, g2⟩ := nx'.ghost b hb hlt
        exact ⟨g1, ((delN_get _ h.next (h'.next - h.next) h'.m b).2 hlt).trans g2⟩
      · cases hs
    · exact hc _ _ _ _ _ _ hs hr hnr
  · exact hc _ _ _ _ _ _ hs hr hnr
theorem yes_calls_ov (hN : NoCount P) (hM : P.follows .mixedOrders = true) (LF : Nat) {call : Call1} (hcall : ∀ W, CallsOk W P call) {f : FuncId} {args : List Value} {args' : Array Value} {W : World}
    (ha : LR none0 args args'.toList) (hs : allYes (aFun P LF call (.enter f args) ah0) = true) :
    Calls P f args' W fun e w' => e = .returned (.bool true) ∧ Below W.heap.size W w' := by
  cases hl : aFun P LF call (.enter f args) ah0 with
  | none => rw [hl] at hs; cases hs
  | some l =>
    rw [hl] at hs
    have hc := (fun_ok (w0 := W) hN hM LF (hcall W) _ _ _ none0 W (.enter f ⟨args'.toList⟩) hl (R.first W) (.enter ha)).1 _ _ rfl
    refine Calls.mono hc fun e w' he => ?_
    obtain ⟨v', rfl, v, h', hm, φ', _, hr, hv⟩ := he
    have := List.all_eq_true.1 hs _ hm
    refine ⟨?_, hr.below⟩
    dsimp only at this
    unfold yes at this
    split at this
    · cases hv; rfl
    · cases this
end
end Go.X
