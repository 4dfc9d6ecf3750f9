/- Slices that are grown ahead (append of a make), nil slices. -/
import Derived.Test.YtmojccilbgjngaaCoreI
import Derived.Lib.AppendZeros
namespace Go.Arm
open Go Go.RowKit
theorem lt_at {k b n : Nat} (h : k = b) (l : b < n) : k < n := h ▸ l

section
variable {P : Program} {n : Nat} {Q : Post} {f : Fr} {w : World} {ops : Array Oper} {rest : List Oper} {s : St}
variable {d : Nat} {ty : TypeId} {pos : String} {aft : Array Edge} {α : Type} [Rep α]

theorem L_capNil {T E : TypeId} {x : Operand} (hT : P.underlying T = some (.slice E)) (hx : ev f x = .slice none 0 0) (hd : d < n)
  (h : L P n ops Q rest (upd f d (.int .i64 0)) w) : L P n ops Q (⟨some d, .call ⟨.builtin .cap, #[x], #[T]⟩, ty, pos, aft, none⟩ :: rest) f w := by
 refine L_val (v := .int .i64 0) rfl (fun k e => by cases e; exact hd) ?_ h
 simp [execOp, resolve, invoke, builtin, Builtin.cap_, hx, run_underlying hT, goInt]

theorem L_sliceNil {T E : TypeId} {sz : Nat} {x h : Operand} {hi : Int} {kh : IntKind} (hT : P.underlying T = some (.slice E)) (hE : (P.info? E).map (·.size) = some sz) (hx : ev f x = .slice none 0 0) (hh : ev f h = .int kh hi) (h0 : hi = 0) (hd : d < n)
  (hk : L P n ops Q rest (upd f d (.slice none 0 0)) w) : L P n ops Q (⟨some d, .slice T x none (some h) none, ty, pos, aft, none⟩ :: rest) f w := by
 subst h0
 refine L_val (v := .slice none 0 0) rfl (fun k e => by cases e; exact hd) ?_ hk
 simp [execOp, Instr.sliceAt, Instr.slice, Instr.sliceBounds, Instr.sliceBound, run_underlying hT, hx, hh, asIntOf, run_sizeOf hE]

theorem L_slice0 {T E : TypeId} {sz b len cap : Nat} {x h : Operand} {hi : Int} {kh : IntKind} (hT : P.underlying T = some (.slice E)) (hE : (P.info? E).map (·.size) = some sz) (hx : ev f x = .slice (some ⟨b, 0, none⟩) len cap) (hh : ev f h = .int kh hi) (h0 : hi = 0) (hd : d < n)
  (hk : L P n ops Q rest (upd f d (.slice (some ⟨b, 0, none⟩) 0 cap)) w) : L P n ops Q (⟨some d, .slice T x none (some h) none, ty, pos, aft, none⟩ :: rest) f w := by
 subst h0
 refine L_val (v := .slice (some ⟨b, 0, none⟩) 0 cap) rfl (fun k e => by cases e; exact hd) ?_ hk
 simp [execOp, Instr.sliceAt, Instr.slice, Instr.sliceBounds, Instr.sliceBound, run_underlying hT, hx, hh, asIntOf, run_sizeOf hE, Addr.add_eq]

theorem L_growNil {T U E : TypeId} {bytes : Nat} {z : Value} {x y : Operand} {k : Int} {ku : IntKind} (hT : P.underlying T = some (.slice E)) (hU : P.underlying U = some (.int ku)) (hZ : TyZ P E α bytes z)
  (hx : ev f x = .slice none 0 0) (hy : ev f y = .int .i64 k) (h0 : 0 < k) (hb : k.toNat * bytes ≤ 140737488355328) (hmax : k.toNat ≤ maxLen) (hd : d < n)
  (h : ∀ s' b cap, Ext s s' → Bld s' s.w.heap.size E (.slice (some ⟨b, 0, none⟩) 0 cap) ([] : List α) → L P n ops Q rest (upd f d (.slice (some ⟨b, 0, none⟩) k.toNat cap)) s'.w) :
  L P n ops Q (⟨some d, .call ⟨.builtin .append, #[x, y], #[T, U]⟩, ty, pos, aft, none⟩ :: rest) f s.w := by
 obtain ⟨i, hi, hz, hsz, hby⟩ := info_parts hZ.info
 have hk : k = (k.toNat : Int) := by omega
 have hr := Lib.run_append_nil_zeros (P := P) s.w T U ty E i z .i64 ku hT hU hi hz k.toNat (by omega) (by rw [hsz]; exact hZ.pos) (by simp only [maxLen] at hmax; omega) (by rw [hby]; omega)
 rw [← hk] at hr
 have hE := (Ext.drew s).trans (Ext.new s.drew (.cells (Builtin.zeroCells z.cells k.toNat ++ Builtin.zeroCells z.cells (grownCap s.w k.toNat 0 E - k.toNat)) E) 0)
 refine L_val (v := .slice (some ⟨s.w.heap.size, 0, none⟩) k.toNat (grownCap s.w k.toNat 0 E)) rfl (fun k e => by cases e; exact hd) (w' := (s.drew.new (.cells (Builtin.zeroCells z.cells k.toNat ++ Builtin.zeroCells z.cells (grownCap s.w k.toNat 0 E - k.toNat)) E) 0).w) ?_ (h _ s.w.heap.size (grownCap s.w k.toNat 0 E) hE (.inr ⟨s.w.heap.size, _, _, rfl, Nat.le_refl _, heap_alloc_new s.w.drew _, by simp, grownCap_le_maxLen _ _ _ _ hmax, ?_, ?_, ?_⟩))
 ·simp only [execOp, resolve, invoke, builtin]
  simp [hx, hy, hr]
  rfl
 ·have := grownCap_ge s.w k.toNat 0 E
  simp only [Array.size_append, size_zeroCells, hZ.zs, ← Nat.add_mul]
  congr 1; omega
 ·show (if s.w.heap.size = s.w.heap.size then _ else _) = _
  rw [if_pos rfl]; simp
 ·intro j hj; simp at hj
end
end Go.Arm
