/- A part of the core: rules for steps of the code over memory with claims. -/
import Derived.Test.YtmojccilbgjngaaCore9
namespace Go.Arm
open Go Go.RowKit
theorem get_skip {a r : List Value} {n k : Nat} (h : a.length = n) : (a ++ r)[n + k]? = r[k]? := by
 rw [List.getElem?_append_right (by omega)]; congr 1; omega
theorem get_here {b c : List Value} {j : Nat} (hj : j < b.length) : (b ++ c)[j]? = some b[j] := by
 rw [List.getElem?_append_left hj, List.getElem?_eq_getElem hj]
theorem splice_fields {cs cs' b ks : List Value} {a c : List (List Value)} {off : Nat} (ha : a.flatten.length = off) (hb : b.length = ks.length)
  (h1 : cs = a.flatten ++ b ++ c.flatten) (h2 : cs' = a.flatten ++ ks ++ c.flatten) : splice cs off ks = cs' := by
 subst h1 h2 ha
 unfold splice
 simp only [List.append_assoc]
 rw [List.take_left, ← List.drop_drop, List.drop_left, ← hb, List.drop_left]
theorem V.one {α : Type} [Rep α] {s : St} {v : Value} {x : α} (h : V s v x) (ha : Rep.agg α = false) : Rep.rel s [v] x := by
 obtain ⟨cs, h1, e⟩ := h
 have hl := Rep.len h1
 rw [Rep.single ha] at hl
 match cs, hl with
 | [c], _ =>
  rw [ha] at e
  simp [pack] at e
  rw [e]; exact h1
end Go.Arm
namespace Go.Arm
open Go Go.RowKit

structure PV where
 p : Value → St → Prop
 m : ∀ v s s', p v s → Ext s s' → p v s'
def PV.eq (x : Value) : PV := ⟨fun v _ => v = x, fun _ _ _ h _ => h⟩
def PV.any : PV := ⟨fun _ _ => True, fun _ _ _ h _ => h⟩
def PV.data {α : Type} [Rep α] (x : α) : PV := ⟨fun v s => V s v x, fun _ _ _ h e => h.mono e.le⟩
def PV.ptr {α : Type} [Rep α] (x : α) : PV := ⟨fun v s => Ptr s v x, fun _ _ _ h e => h.mono e.le⟩
def PV.two (a b : PV) : PV := ⟨fun v s => ∃ x y, v = .tuple #[x, y] ∧ a.p x s ∧ b.p y s, fun _ s s' ⟨x, y, e, h, k⟩ l => ⟨x, y, e, a.m x s s' h l, b.m y s s' k l⟩⟩
def PV.three (a b c : PV) : PV := ⟨fun v s => ∃ x y z, v = .tuple #[x, y, z] ∧ a.p x s ∧ b.p y s ∧ c.p z s, fun _ s s' ⟨x, y, z, e, h, k, j⟩ l => ⟨x, y, z, e, a.m x s s' h l, b.m y s s' k l, c.m z s s' j l⟩⟩

def dstOf (ops : Array Oper) (j : Nat) : Option Nat := (ops[j]?).bind (·.dst)
def unwritten (ops : Array Oper) (t : Nat) : Bool := ops.toList.all fun o => o.dst != some t

section
variable {P : Program} {n : Nat} {Q : Post} {f : Fr}
def Steps (P : Program) (n : Nat) (ops : Array Oper) (pvs : List PV) (f : Fr) (s : St) : List Oper → Nat → Prop
 | [], _ => True
 | o :: r, i => (∀ f' s', Ext s s' → (∀ j d, aheadOf o j = true → dstOf ops j = some d → (pvs.getD j PV.any).p (f' d) s') → (∀ t, slotFree ops i t = true → f' t = f t) →
   StepAt P n ops o f' s' (pvs.getD i PV.any).p) ∧ Steps P n ops pvs f s r (i + 1)
theorem Steps_nil {ops : Array Oper} {pvs : List PV} {s : St} {i : Nat} : Steps P n ops pvs f s [] i := trivial
theorem Steps_cons {ops : Array Oper} {pvs : List PV} {s : St} {i : Nat} {o : Oper} {r : List Oper}
  (h : ∀ f' s', Ext s s' → (∀ j d, aheadOf o j = true → dstOf ops j = some d → (pvs.getD j PV.any).p (f' d) s') → (∀ t, slotFree ops i t = true → f' t = f t) →
   StepAt P n ops o f' s' (pvs.getD i PV.any).p) (k : Steps P n ops pvs f s r (i + 1)) : Steps P n ops pvs f s (o :: r) i := ⟨h, k⟩

theorem Steps.get {ops : Array Oper} {pvs : List PV} {s : St} : ∀ {l : List Oper} {k : Nat}, Steps P n ops pvs f s l k → ∀ (i : Nat) (o : Oper), l[i]? = some o → ∀ f' s', Ext s s' →
   (∀ j d, aheadOf o j = true → dstOf ops j = some d → (pvs.getD j PV.any).p (f' d) s') → (∀ t, slotFree ops (k + i) t = true → f' t = f t) → StepAt P n ops o f' s' (pvs.getD (k + i) PV.any).p
 | [], _, _, i, o, h => by simp at h
 | a :: l, k, ⟨h1, h2⟩, 0, o, h => by simp at h; subst h; exact h1
 | a :: l, k, ⟨h1, h2⟩, i + 1, o, h => by
  have := Steps.get h2 i o (by simpa using h)
  rw [show k + 1 + i = k + (i + 1) by omega] at this
  exact this

theorem W_draws {id : Nat} {s : St} {l : List Oper} (hm : P.follows .mixedOrders = true) (hok : drawOk n l.toArray = true) (pvs : List PV) (steps : Steps P n l.toArray pvs f s l 0)
  (fin : ∀ f' s', Ext s s' → (∀ j d, dstOf l.toArray j = some d → (pvs.getD j PV.any).p (f' d) s') → (∀ t, unwritten l.toArray t = true → f' t = f t) → Q .normal f' s'.w) :
  W P n (.region id l.toArray true) Q f s.w := by
 refine W_draw hm hok (fun i => (pvs.getD i PV.any).p) (fun i v s s' h e => (pvs.getD i PV.any).m v s s' h e) ?_ ?_
 ·intro i o ho f' s' hE hA hB
  have := Steps.get steps i o (by simpa using ho) f' s' hE ?_ (by simpa using hB)
  ·simpa using this
  ·intro j d h1 h2
   unfold dstOf at h2
   obtain ⟨o', h3, h4⟩ := Option.bind_eq_some_iff.1 h2
   exact hA j o' d h1 h3 h4
 ·intro f' s' hE hA hB
  refine fin f' s' hE ?_ ?_
  ·intro j d h2
   unfold dstOf at h2
   obtain ⟨o', h3, h4⟩ := Option.bind_eq_some_iff.1 h2
   exact hA j o' d h3 h4
  ·intro t ht
   refine hB t (fun j o' ho hd => ?_)
   unfold unwritten at ht
   rw [List.all_eq_true] at ht
   have := ht o' (by obtain ⟨h1, h2⟩ := Array.getElem?_eq_some_iff.1 ho; rw [← h2]; simp)
   rw [hd] at this
   simp at this
end
end Go.Arm
namespace Go.Arm
theorem W_cut {P : Program} {n : Nat} {Q : Post} {f : Fr} {w : World} {c : Code} (J : Fr → World → Prop) (h : W P n c (Then J Q) f w) (k : ∀ f w, J f w → Q .normal f w) : W P n c Q f w :=
 W_mono h fun e f w q => by cases e with | normal => exact k _ _ q | _ => exact q
end Go.Arm
