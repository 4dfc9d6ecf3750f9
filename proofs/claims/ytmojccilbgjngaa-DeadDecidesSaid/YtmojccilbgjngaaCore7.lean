/- Variables in memory that change; results; fields of values; equality of structs. -/
import Derived.Test.YtmojccilbgjngaaCore6
namespace Go.Arm
open Go Go.RowKit

structure Mut (s : St) (b : Nat) (E : TypeId) (cs : List Value) : Prop where
 heap : s.w.heap[b]? = some (.cells cs.toArray E (0, 0))
 g : s.g b = 0

theorem Mut.lt {s : St} {b : Nat} {E : TypeId} {cs : List Value} (h : Mut s b E cs) : b < s.w.heap.size := (Array.getElem?_eq_some_iff.1 h.heap).1
theorem Mut.tch {s s' : St} {b : Nat} {E : TypeId} {cs : List Value} {M : Nat → Prop} (h : Mut s b E cs) (t : Tch M s s') (hb : ¬ M b) : Mut s' b E cs :=
 ⟨(t.block b h.lt hb).trans h.heap, (t.g b h.lt hb).trans h.g⟩
theorem Mut.ext {s s' : St} {b : Nat} {E : TypeId} {cs : List Value} (h : Mut s b E cs) (t : Ext s s') : Mut s' b E cs := h.tch t (fun x => x)
theorem Mut.cell {s : St} {b : Nat} {E : TypeId} {cs : List Value} (h : Mut s b E cs) {o : Nat} : s.w.cell? ⟨b, o, none⟩ = cs[o]? := by
 simp [World.cell?, h.heap]

def splice (cs : List Value) (o : Nat) (ks : List Value) : List Value := cs.take o ++ ks ++ cs.drop (o + ks.length)

theorem Mut.store {P : Program} {s : St} {b : Nat} {E : TypeId} {cs ks : List Value} (h : Mut s b E cs) (o : Nat) (hl : o + ks.length ≤ cs.length) (h1 : ∀ v ∈ ks, v.oneCell' = true) :
  ∃ s', (storeCells ⟨b, o, none⟩ ks 0).run P s.w = .ok () s'.w ∧ Tch (fun k => k = b) s s' ∧ Mut s' b E (splice cs o ks) := by
 have hst := run_storeCells_at P b o E ks 0 cs.toArray s.w h.heap (by simpa using hl) h1
 have ht := Tch.row (s := s) (cs := (splice cs o ks).toArray) (c := 0) h.heap (Nat.le_of_eq h.g) (fun x hx => by rw [h.g] at hx; omega) h.lt
 refine ⟨s.row b (splice cs o ks).toArray 0 h.lt, ?_, ht, setRow_heap s.w b _ _ E _ h.heap, if_pos rfl⟩
 rw [hst]
 simp [splice, St.row]

def St.claim (s : St) (b c : Nat) (hb : b < s.w.heap.size) : St := ⟨s.w, fun k => if k = b then c else s.g k, fun k hk => by rw [if_neg (by omega)]; exact s.ok k hk⟩

theorem Mut.claim {s : St} {b : Nat} {E : TypeId} {cs : List Value} (h : Mut s b E cs) (c : Nat) : ∃ s', s'.w = s.w ∧ Tch (fun k => k = b) s s' ∧ s'.g b = c ∧ ∀ k, k ≠ b → s'.g k = s.g k := by
 refine ⟨s.claim b c h.lt, rfl, ⟨rfl, rfl, rfl, Nat.le_refl _, fun _ _ _ => rfl, fun k _ nk => if_neg nk, fun k => ?_, fun _ _ _ => rfl, fun _ _ _ => rfl⟩, if_pos rfl, fun k nk => if_neg nk⟩
 show s.g k ≤ if k = b then c else s.g k
 split
 ·subst_vars; rw [h.g]; exact Nat.zero_le _
 ·exact Nat.le_refl _

def Var {α : Type} [Rep α] (s : St) (b : Nat) (E : TypeId) (x : α) : Prop := ∃ cs, Mut s b E cs ∧ Rep.rel s cs x

theorem Var.tch {α : Type} [Rep α] {s s' : St} {b : Nat} {E : TypeId} {x : α} {M : Nat → Prop} (h : Var s b E x) (t : Tch M s s') (hb : ¬ M b) : Var s' b E x := by
 obtain ⟨cs, h1, h2⟩ := h; exact ⟨cs, h1.tch t hb, Rep.mono t.le h2⟩
theorem Var.ext {α : Type} [Rep α] {s s' : St} {b : Nat} {E : TypeId} {x : α} (h : Var s b E x) (t : Ext s s') : Var s' b E x := h.tch t (fun x => x)
theorem Var.lt {α : Type} [Rep α] {s : St} {b : Nat} {E : TypeId} {x : α} (h : Var s b E x) : b < s.w.heap.size := by obtain ⟨cs, h1, _⟩ := h; exact h1.lt

theorem Var.ptr {α : Type} [Rep α] {s : St} {b : Nat} {E : TypeId} {x : α} (h : Var s b E x) : ∃ s', s'.w = s.w ∧ Tch (fun k => k = b) s s' ∧ Ptr s' (.pointer (some ⟨b, 0, none⟩)) x ∧ (∀ k, k ≠ b → s'.g k = s.g k) := by
 obtain ⟨cs, h1, h2⟩ := h
 obtain ⟨s', e, t, hg, ho⟩ := h1.claim cs.length
 refine ⟨s', e, t, ⟨b, 0, cs, rfl, Rep.mono t.le h2, fun j hj => ?_⟩, ho⟩
 rw [e, hg, Nat.zero_add]
 exact ⟨by rw [h1.cell]; simp [hj], hj⟩

theorem thaw {s s1 s2 : St} {M : Nat → Prop} (e1 : s1.w = s.w) (t1 : Tch M s s1) (hz : ∀ k, M k → s.g k = 0) (t2 : Ext s1 s2) :
  ∃ s3, s3.w = s2.w ∧ Ext s s3 := by
 classical
 have hsz : s1.w.heap.size = s.w.heap.size := by rw [e1]
 refine ⟨⟨s2.w, fun k => if M k then 0 else s2.g k, fun k hk => by
  show (if M k then 0 else s2.g k) = 0
  split
  ·rfl
  ·exact s2.ok k hk⟩, rfl, ?_⟩
 have hb : ∀ k, k < s.w.heap.size → s2.w.heap[k]? = s.w.heap[k]? := fun k hk => by rw [t2.block k (by omega) (fun x => x), e1]
 have hg : ∀ k, k < s.w.heap.size → (if M k then 0 else s2.g k) = s.g k := fun k hk => by
  split
  ·rename_i hm; exact (hz k hm).symm
  ·rename_i hm; rw [t2.g k (by omega) (fun x => x), t1.g k hk hm]
 refine ⟨by rw [t2.os, e1], by rw [t2.tape, e1], by rw [t2.output, e1], by have := t2.size; rw [hsz] at this; exact this, fun k hk _ => hb k hk, fun k hk _ => hg k hk, le_of_blocks hb (fun k hk => Nat.le_of_eq (hg k hk).symm)⟩

section
variable {P : Program} {n : Nat} {Q : Post} {f : Fr} {w : World} {ops : Array Oper} {rest : List Oper} {s : St}
variable {d : Nat} {ty : TypeId} {pos : String} {aft : Array Edge} {α β : Type} [Rep α] [Rep β]

theorem L_alloc {T : TypeId} {z : Value} {x : α} (hz : (P.info? T).map (·.zero) = some (some z)) (hrel : ∀ s, Rep.rel s z.cells.toList x) (hd : d < n)
  (h : ∀ s' b, Ext s s' → s.w.heap.size ≤ b → Var s' b T x → L P n ops Q rest (upd f d (.pointer (some ⟨b, 0, none⟩))) s'.w) :
  L P n ops Q (⟨some d, .alloc T, ty, pos, aft, none⟩ :: rest) f s.w := by
 refine L_val (v := .pointer (some ⟨s.w.heap.size, 0, none⟩)) rfl (fun k e => by cases e; exact hd) (w' := s.w.alloc (.cells z.cells T)) ?_ ?_
 ·simp [execOp, run_alloc hz]
 ·refine h (s.new (.cells z.cells T) 0) s.w.heap.size (Ext.new _ _ _) (Nat.le_refl _) ⟨z.cells.toList, ⟨?_, if_pos rfl⟩, hrel _⟩
  simpa [St.new] using heap_alloc_new s.w (.cells z.cells T)

theorem L_store {T E : TypeId} {x a : Operand} {v : Value} {b : Nat} {old y : α} (hT : Ty P T α) (ha : ev f a = .pointer (some ⟨b, 0, none⟩)) (hx : ev f x = v) (hV : V s v y) (hM : Var s b E old)
  (h : ∀ s', Tch (fun k => k = b) s s' → Var s' b E y → L P n ops Q rest f s'.w) :
  L P n ops Q (⟨none, .store T a x, ty, pos, aft, none⟩ :: rest) f s.w := by
 obtain ⟨ks, hrel, hcs, hlen, hpack⟩ := rel_cells hV
 obtain ⟨cs, hm, ho⟩ := hM
 have hol := Rep.len ho
 obtain ⟨s', hr, ht, hm'⟩ := hm.store (P := P) (ks := ks) 0 (by omega) (Rep.one hrel)
 refine L_skip rfl rfl (w' := s'.w) ?_ (h s' ht ⟨_, hm', ?_⟩)
 ·have hsz : v.cells.size = Rep.size α := by rw [← hlen, ← hcs]; simp
  simp only [execOp, Instr.storeAt, Instr.sureAddr, ha, hx, storeVar, Sem.run_bind, Sem.run_pure, Result.andThen_ok, run_sizeOf hT.inf, hsz, hcs]
  simp [hr]
 ·have : splice cs 0 ks = ks := by
   simp only [splice, List.take_zero, List.nil_append, Nat.zero_add]
   rw [List.drop_eq_nil_of_le (by omega), List.append_nil]
  rw [this]; exact Rep.mono ht.le hrel

def FieldSet (set : α → β → α) (off : Nat) : Prop := ∀ s cs ks x y, Rep.rel s cs x → Rep.rel s ks y → Rep.rel s (splice cs off ks) (set x y) ∧ off + ks.length ≤ cs.length

theorem run_fieldAddr {T : TypeId} {k off sz : Nat} {ft : TypeId} {x : Operand} {b o : Nat} (hT : fieldAt P T k = some (off, ft, sz + 1)) (hx : ev f x = .pointer (some ⟨b, o, none⟩)) :
  (execOp (ev f) ⟨some d, .fieldAddr T x k, ty, pos, aft, none⟩).run P w = .ok (.value (.pointer (some ⟨b, o + off, none⟩))) w := by
 obtain ⟨fields, fd, h1, h2, h3, h4, h5⟩ := fieldAt_some hT
 subst h4
 simp [execOp, Instr.fieldAt, run_underlying h1, h2, Instr.sureAddr, hx, fieldPlace, run_sizeOf h5, h3, Addr.add_eq]

theorem L_fieldAddr_var {T : TypeId} {k off sz : Nat} {ft : TypeId} {x : Operand} {b : Nat} (hT : fieldAt P T k = some (off, ft, sz + 1)) (hx : ev f x = .pointer (some ⟨b, 0, none⟩)) (hd : d < n)
  (h : L P n ops Q rest (upd f d (.pointer (some ⟨b, off, none⟩))) w) : L P n ops Q (⟨some d, .fieldAddr T x k, ty, pos, aft, none⟩ :: rest) f w :=
 L_val (v := .pointer (some ⟨b, off, none⟩)) rfl (fun k e => by cases e; exact hd) (by have := run_fieldAddr (P := P) (d := d) (ty := ty) (pos := pos) (aft := aft) (w := w) hT hx; rw [Nat.zero_add] at this; exact this) h

theorem L_store_field {T E : TypeId} {x a : Operand} {v : Value} {b off : Nat} {old : α} {y : β} {set : α → β → α} (hT : Ty P T β) (hF : FieldSet set off) (ha : ev f a = .pointer (some ⟨b, off, none⟩)) (hx : ev f x = v) (hV : V s v y) (hM : Var s b E old)
  (h : ∀ s', Tch (fun k => k = b) s s' → Var s' b E (set old y) → L P n ops Q rest f s'.w) :
  L P n ops Q (⟨none, .store T a x, ty, pos, aft, none⟩ :: rest) f s.w := by
 obtain ⟨ks, hrel, hcs, hlen, hpack⟩ := rel_cells hV
 obtain ⟨cs, hm, ho⟩ := hM
 obtain ⟨hset, hle⟩ := hF s cs ks old y ho hrel
 obtain ⟨s', hr, ht, hm'⟩ := hm.store (P := P) (ks := ks) off hle (Rep.one hrel)
 refine L_skip rfl rfl (w' := s'.w) ?_ (h s' ht ⟨_, hm', Rep.mono ht.le hset⟩)
 have hsz : v.cells.size = Rep.size β := by rw [← hlen, ← hcs]; simp
 simp only [execOp, Instr.storeAt, Instr.sureAddr, ha, hx, storeVar, Sem.run_bind, Sem.run_pure, Result.andThen_ok, run_sizeOf hT.inf, hsz, hcs]
 simp [hr]

theorem L_load_var {T E : TypeId} {x : Operand} {b : Nat} {y : α} (hT : Ty P T α) (hx : ev f x = .pointer (some ⟨b, 0, none⟩)) (hM : Var s b E y) (hd : d < n)
  (h : ∀ v, V s v y → L P n ops Q rest (upd f d v) s.w) : L P n ops Q (⟨some d, .load T x, ty, pos, aft, none⟩ :: rest) f s.w := by
 obtain ⟨s', e, t, ⟨b', o', cs, e', hrel, hat⟩, _⟩ := hM.ptr
 obtain ⟨cs0, hm0, hr0⟩ := hM
 cases e'
 have hcs : cs = cs0 := by
  apply List.ext_getElem
  ·rw [Rep.len hrel, Rep.len hr0]
  ·intro j h1 h2
   have := (hat j h1).1
   rw [e, Nat.zero_add, hm0.cell, List.getElem?_eq_getElem h2] at this
   exact (Option.some.inj this).symm
 subst hcs
 refine L_val (v := pack (Rep.agg α) cs) rfl (fun k e => by cases e; exact hd) ?_ (h _ ⟨cs, hr0, rfl⟩)
 have := run_load_ro (P := P) hT hrel hat
 rw [e] at this
 simp [execOp, Instr.loadAt, Instr.sureAddr, hx, this]

theorem L_load_field {T E : TypeId} {x : Operand} {b off : Nat} {y : α} {proj : α → β} (hT : Ty P T β) (hF : FieldOf proj off) (hx : ev f x = .pointer (some ⟨b, off, none⟩)) (hM : Var s b E y) (hd : d < n)
  (h : ∀ v, V s v (proj y) → L P n ops Q rest (upd f d v) s.w) : L P n ops Q (⟨some d, .load T x, ty, pos, aft, none⟩ :: rest) f s.w := by
 obtain ⟨cs, hm, hr⟩ := hM
 obtain ⟨ks, hk, hks⟩ := hF _ _ _ hr
 obtain ⟨s', e, t, hg, ho⟩ := hm.claim cs.length
 have hat : AtRO s' b off ks := by
  intro j hj
  have h1 := hks j hj
  refine ⟨by rw [e, hm.cell]; exact h1, ?_⟩
  rw [hg]; exact (List.getElem?_eq_some_iff.1 h1).1
 have := run_load_ro (P := P) hT (Rep.mono t.le hk) hat
 rw [e] at this
 refine L_val (v := pack (Rep.agg β) ks) rfl (fun k e => by cases e; exact hd) ?_ (h _ ⟨ks, hk, rfl⟩)
 simp [execOp, Instr.loadAt, Instr.sureAddr, hx, this]

/-! The end of a function. -/
def Done (P : Program) (n : Nat) (fn : Func) (R : Ending → World → Prop) : Post := fun e f w =>
 (e = .ret ∨ e = .normal) ∧ ∀ a : Array Value, a.size = n → (∀ t, a.getD t undef = f t) → ∃ v, (results fn a).run P w = .ok v w ∧ R (.returned v) w

theorem done1 {fn : Func} {R : Ending → World → Prop} {e : Exit} {t : Nat} {v : Value} (he : e = .ret ∨ e = .normal) (hr : fn.results = #[.tmp t]) (hv : f t = v) (h : R (.returned v) w) : Done P n fn R e f w :=
 ⟨he, fun a _ ha => ⟨v, by rw [results_tmp hr, ha, hv], h⟩⟩
theorem done2 {fn : Func} {R : Ending → World → Prop} {e : Exit} {t u : Nat} {v v' : Value} (he : e = .ret ∨ e = .normal) (hr : fn.results = #[.tmp t, .tmp u]) (hv : f t = v) (hv' : f u = v')
  (h : R (.returned (.tuple #[v, v'])) w) : Done P n fn R e f w :=
 ⟨he, fun a _ ha => ⟨_, by rw [results_tmp2 hr, ha, ha, hv, hv'], h⟩⟩
theorem done3 {fn : Func} {R : Ending → World → Prop} {e : Exit} {t u x : Nat} {v v' v'' : Value} (he : e = .ret ∨ e = .normal) (hr : fn.results = #[.tmp t, .tmp u, .tmp x]) (hv : f t = v) (hv' : f u = v') (hv'' : f x = v'')
  (h : R (.returned (.tuple #[v, v', v''])) w) : Done P n fn R e f w :=
 ⟨he, fun a _ ha => ⟨_, by simp [results, hr, ha, hv, hv', hv''], h⟩⟩

theorem run_load_var {T E : TypeId} {b : Nat} {y : α} (hT : Ty P T α) (hM : Var s b E y) : ∃ v, (loadVar T ⟨b, 0, none⟩).run P s.w = .ok v s.w ∧ V s v y := by
 obtain ⟨cs, hm, hr⟩ := hM
 obtain ⟨s', e, t, hg, ho⟩ := hm.claim cs.length
 have hat : AtRO s' b 0 cs := by
  intro j hj
  rw [e, hg, hm.cell]
  exact ⟨by simp [hj], by omega⟩
 have := run_load_ro (P := P) hT (Rep.mono t.le hr) hat
 rw [e] at this
 exact ⟨_, this, cs, hr, rfl⟩

theorem done_c {fn : Func} {R : Ending → World → Prop} {e : Exit} {t : Nat} {T E : TypeId} {b : Nat} {y : α} (he : e = .ret ∨ e = .normal) (hr : fn.results = #[.cell t T]) (hT : Ty P T α) (hv : f t = .pointer (some ⟨b, 0, none⟩)) (hM : Var s b E y)
  (h : ∀ v, V s v y → R (.returned v) s.w) : Done P n fn R e f s.w := by
 obtain ⟨v, h1, h2⟩ := run_load_var (P := P) hT hM
 exact ⟨he, fun a _ ha => ⟨v, by simp [results, hr, ha, hv, asAddr, h1], h v h2⟩⟩

theorem done_ct {fn : Func} {R : Ending → World → Prop} {e : Exit} {t u : Nat} {T E : TypeId} {b : Nat} {y : α} {v' : Value} (he : e = .ret ∨ e = .normal) (hr : fn.results = #[.cell t T, .tmp u]) (hT : Ty P T α) (hv : f t = .pointer (some ⟨b, 0, none⟩)) (hM : Var s b E y) (hv' : f u = v')
  (h : ∀ v, V s v y → R (.returned (.tuple #[v, v'])) s.w) : Done P n fn R e f s.w := by
 obtain ⟨v, h1, h2⟩ := run_load_var (P := P) hT hM
 exact ⟨he, fun a _ ha => ⟨_, by simp [results, hr, ha, hv, hv', asAddr, h1], h v h2⟩⟩

end
end Go.Arm
