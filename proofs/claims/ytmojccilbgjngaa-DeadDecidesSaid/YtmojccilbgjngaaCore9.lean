/- Small words that the printed proofs use. -/
import Derived.Test.YtmojccilbgjngaaCore8
namespace Go.Arm
open Go Go.RowKit

def chk {α : Type} (p : Prop) [Decidable p] (k : Option α) : Option α := if p then k else none
theorem chk_some {α : Type} {p : Prop} [Decidable p] {k : Option α} {r : α} (h : chk p k = some r) : p ∧ k = some r := by
 unfold chk at h
 split at h
 ·exact ⟨‹_›, h⟩
 ·cases h
theorem ite_t {α : Type} {b : Bool} {x y : Option α} {r : α} (h : b = true) (hr : (if b = true then x else y) = some r) : x = some r := by rw [if_pos h] at hr; exact hr
theorem ite_f {α : Type} {b : Bool} {x y : Option α} {r : α} (h : b = false) (hr : (if b = true then x else y) = some r) : y = some r := by rw [if_neg (by simp [h])] at hr; exact hr

section
variable {Q : Post} {f : Fr} {w : World} {nx : Fr → World → Prop} {k id : Nat}
theorem then_n (h : nx f w) : Then nx Q .normal f w := h
theorem then_x (h : Q (.exit k) f w) : Then nx Q (.exit k) f w := h
theorem then_r (h : Q .ret f w) : Then nx Q .ret f w := h
theorem block_n (h : Q .normal f w) : InBlock id Q .normal f w := h
theorem block_r (h : Q .ret f w) : InBlock id Q .ret f w := h
theorem block_here (h : Q .normal f w) : InBlock id Q (.exit id) f w := by simp only [InBlock, if_true]; exact h
theorem block_x (hk : k ≠ id) (h : Q (.exit k) f w) : InBlock id Q (.exit k) f w := by simp only [InBlock, hk, if_false]; exact h
end

section
variable {P : Program} {n : Nat} {Q : Post} {f : Fr} {w : World} {ops : Array Oper} {rest : List Oper} {s : St}
variable {d : Nat} {ty : TypeId} {pos : String} {aft : Array Edge} {α β : Type} [Rep α] [Rep β]

theorem Calls_of {k : FuncId} {fn : Func} {c : Code} {args : List Value} {R : Ending → World → Prop}
  (hf : P.funcs[k]? = some fn) (hb : fn.body = some c) (hn : fn.ntmps = n) (hl : args.length ≤ n)
  (h : W P n c (Done P n fn R) (entry args) w) : Calls P k args.toArray w R := Calls_of_W hf hb hn hl h

theorem L_pick_t {c x y : Operand} {b : Bool} {v : Value} (hc : ev f c = .bool b) (hb : b = true) (hv : ev f x = v) (hd : d < n)
  (h : L P n ops Q rest (upd f d v) w) : L P n ops Q (⟨some d, .pick c x y, ty, pos, aft, none⟩ :: rest) f w :=
 L_pick hc (by rw [hb]; exact hv) hd h
theorem L_pick_f {c x y : Operand} {b : Bool} {v : Value} (hc : ev f c = .bool b) (hb : b = false) (hv : ev f y = v) (hd : d < n)
  (h : L P n ops Q rest (upd f d v) w) : L P n ops Q (⟨some d, .pick c x y, ty, pos, aft, none⟩ :: rest) f w :=
 L_pick hc (by rw [hb]; exact hv) hd h

theorem L_gt {op : Op} {dst : Option Nat} {j : Nat} {b c : Bool} {e : Nat} (hj : (ops[j]?).bind (·.dst) = some e) (he : e < n) (hv : f e = .bool c) (hc : c = b)
  (h : L P n ops Q (⟨dst, op, ty, pos, aft, none⟩ :: rest) f w) : L P n ops Q (⟨dst, op, ty, pos, aft, some (j, b)⟩ :: rest) f w :=
 L_guard (o := ⟨dst, op, ty, pos, aft, some (j, b)⟩) rfl hj he (by rw [hv, hc]) h
theorem L_gf {op : Op} {j : Nat} {b c : Bool} {e : Nat} (hj : (ops[j]?).bind (·.dst) = some e) (he : e < n) (hv : f e = .bool c) (hc : c = !b) (hd : d < n)
  (h : L P n ops Q rest (upd f d undef) w) : L P n ops Q (⟨some d, op, ty, pos, aft, some (j, b)⟩ :: rest) f w :=
 L_unguard (o := ⟨some d, op, ty, pos, aft, some (j, b)⟩) rfl hj he hv (by rw [hc]; cases b <;> rfl) (fun k e => by cases e; exact hd) h
theorem L_gu {op : Op} {j : Nat} {b : Bool} {e : Nat} (hj : (ops[j]?).bind (·.dst) = some e) (hv : f e = undef) (hd : d < n)
  (h : L P n ops Q rest (upd f d undef) w) : L P n ops Q (⟨some d, op, ty, pos, aft, some (j, b)⟩ :: rest) f w :=
 L_unguard' (o := ⟨some d, op, ty, pos, aft, some (j, b)⟩) rfl hj hv (fun k e => by cases e; exact hd) h

theorem L_box {T : TypeId} {x : Operand} {v : Value} {y : α} (hx : ev f x = v) (hV : V s v y) (hd : d < n)
  (h : ∀ s' p, Ext s s' → Ptr s' p y → L P n ops Q rest (upd f d p) s'.w) :
  L P n ops Q (⟨some d, .box T x, ty, pos, aft, none⟩ :: rest) f s.w := by
 obtain ⟨cs, hrel, hcs, hlen, hpack⟩ := rel_cells hV
 refine L_val (v := .pointer (some ⟨s.w.heap.size, 0, none⟩)) rfl (fun k e => by cases e; exact hd) (w' := s.w.alloc (.cells cs.toArray T)) ?_ ?_
 ·have : v.cells = cs.toArray := by rw [← hcs]
  simp [execOp, Instr.box, hx, newVar, newRow, this]
 ·have hE := Ext.new s (.cells cs.toArray T) (Rep.size α)
  refine h (s.new (.cells cs.toArray T) (Rep.size α)) _ hE ⟨s.w.heap.size, 0, cs, rfl, Rep.mono hE.le hrel, ?_⟩
  exact atRO_new s cs T _ 0 (Rep.size α) cs (by rw [List.drop_zero, List.take_of_length_le (by omega)]) (by omega)

theorem Grows.keep {B B' : Nat} {E E' : TypeId} {v v' u : Value} {zs : List α} {us : List β} {s' : St} (g : Grows s B E v v' zs s') (h : Bld s B' E' u us) (ha : ∀ b, Arm.own u b → ¬ Arm.own v b) : Bld s' B' E' u us :=
 h.tch g.tch ha
theorem Grows.apart {B B' : Nat} {E E' : TypeId} {v v' u : Value} {zs : List α} {us : List β} {s' : St} (g : Grows s B E v v' zs s') (h : Bld s B' E' u us) (ha : ∀ b, Arm.own u b → ¬ Arm.own v b) : ∀ b, Arm.own u b → ¬ Arm.own v' b := by
 intro b hu hv
 rcases g.own b hv with h1 | h1
 ·exact ha b hu h1
 ·have := (h.lt hu).2; omega
theorem Grows.ext {B : Nat} {E : TypeId} {v v' : Value} {zs : List α} {s0 s' : St} (g : Grows s B E v v' zs s') {xs : List α} (h : Bld s B E v xs) (hE : Ext s0 s) (hB : s0.w.heap.size ≤ B) : Ext s0 s' :=
 Tch.trans hE g.tch (fun _ hb => .inr (Nat.le_trans hB (h.lt hb).1))
theorem own_nil {b : Nat} : ¬ own (.slice none 0 0) b := by intro h; cases h

def VT2 (s : St) (v : Value) (r : α × β) : Prop := ∃ a b, v = .tuple #[a, b] ∧ V s a r.1 ∧ V s b r.2
end
end Go.Arm
