/- Operations that make memory, calls, results. -/
import Derived.Test.YtmojccilbgjngaaCore3
namespace Go.Arm
open Go Go.RowKit

/-! New blocks. -/

def St.new (s : St) (o : Obj) (c : Nat) : St :=
 ⟨s.w.alloc o, fun b => if b = s.w.heap.size then c else s.g b, fun b hb => by
  simp only [World.size_alloc] at hb
  rw [if_neg (by omega)]
  exact s.ok b (by omega)⟩

theorem Ext.new (s : St) (o : Obj) (c : Nat) : Ext s (s.new o c) := by
 have hb : ∀ k, k < s.w.heap.size → (s.new o c).w.heap[k]? = s.w.heap[k]? := fun k hk => Below.heap_alloc _ _ _ hk
 have hg : ∀ k, k < s.w.heap.size → (s.new o c).g k = s.g k := fun k hk => by
  show (if k = s.w.heap.size then c else s.g k) = _
  rw [if_neg (by omega)]
 exact ⟨rfl, rfl, rfl, by show _ ≤ (s.w.alloc o).heap.size; simp, fun k hk _ => hb k hk, fun k hk _ => hg k hk, le_of_blocks hb (fun k hk => Nat.le_of_eq (hg k hk).symm)⟩

def St.drew (s : St) : St := ⟨s.w.drew, s.g, s.ok⟩
theorem Ext.drew (s : St) : Ext s s.drew :=
 ⟨rfl, rfl, rfl, Nat.le_refl _, fun _ _ _ => rfl, fun _ _ _ => rfl, ⟨fun _ => Nat.le_refl _, fun _ _ _ => rfl, fun _ _ _ => rfl⟩⟩

theorem atRO_new (s : St) (cs : List Value) (e : TypeId) (c : Nat) (o k : Nat) (ks : List Value) (hk : ks = (cs.drop o).take k) (hc : o + k ≤ c) :
  AtRO (s.new (.cells cs.toArray e) c) s.w.heap.size o ks := by
 intro j hj
 subst hk
 simp only [List.length_take, List.length_drop] at hj
 constructor
 ·show (s.w.alloc _).cell? _ = _
  rw [World.cell?_alloc_new]
  rw [List.getElem_take, List.getElem_drop]
  rw [List.getElem?_toArray, List.getElem?_eq_getElem (by omega)]
 ·show o + j < if s.w.heap.size = s.w.heap.size then c else _
  rw [if_pos rfl]; omega

section
variable {P : Program} {n : Nat} {Q : Post} {f : Fr} {w : World} {ops : Array Oper} {rest : List Oper} {s : St}
variable {d : Nat} {ty ty' : TypeId} {pos pos' : String} {aft aft' : Array Edge}

theorem rel_cells {α : Type} [Rep α] {v : Value} {x : α} (h : V s v x) : ∃ cs, Rep.rel s cs x ∧ v.cells.toList = cs ∧ cs.length = Rep.size α ∧ v = pack (Rep.agg α) cs := by
 obtain ⟨cs, h1, h2, h3⟩ := h.cells
 exact ⟨cs, h1, by rw [h2], Rep.len h1, h3⟩

theorem run_alloc {T : TypeId} {z : Value} (hz : (P.info? T).map (·.zero) = some (some z)) :
  (Instr.alloc T true (.tuple #[])).run P w = .ok (.pointer (some ⟨w.heap.size, 0, none⟩)) (w.alloc (.cells z.cells T)) := by
 obtain ⟨i, h1, h2⟩ := Option.map_eq_some_iff.1 hz
 simp [Instr.alloc, zeroValue, typeInfo, h1, h2, newVar, newRow]

theorem run_storeCells_new (g : Nat) (t : TypeId) (vs : List Value) (cur : Array Value) (w : World) (hg : w.heap[g]? = some (.cells cur t (0, 0))) (hl : vs.length = cur.size)
  (h1 : ∀ v ∈ vs, v.oneCell' = true) : (storeCells ⟨g, 0, none⟩ vs 0).run P w = .ok () (w.setRow g vs.toArray) := by
 have := run_storeCells_at P g 0 t vs 0 cur w hg (by omega) h1
 rw [this]
 have e : List.drop (0 + 0 + vs.length) cur.toList = [] := List.drop_eq_nil_of_le (by simp [hl])
 rw [e]
 simp

theorem setRow_alloc (w : World) (c cs : Array Value) (t : TypeId) : (w.alloc (.cells c t)).setRow w.heap.size cs = w.alloc (.cells cs t) := by
 simp only [World.setRow, World.alloc]
 congr 1
 apply Array.ext_getElem?
 intro i
 rw [Array.getElem?_modify, Array.getElem?_push, Array.getElem?_push]
 by_cases h : w.heap.size = i
 ·subst h; simp
 ·rw [if_neg h, if_neg (fun e => h e.symm), if_neg (fun e => h e.symm)]

theorem L_var {α : Type} [Rep α] {T : TypeId} {x : Operand} {v z : Value} {y : α} (hT : Ty P T α) (hz : (P.info? T).map (·.zero) = some (some z)) (hzs : z.cells.size = Rep.size α)
  (hx : ev (upd f d (.pointer (some ⟨s.w.heap.size, 0, none⟩))) x = v) (hV : V s v y) (hd : d < n)
  (h : ∀ s' p, Ext s s' → Ptr s' p y → L P n ops Q rest (upd f d p) s'.w) :
  L P n ops Q (⟨some d, .alloc T, ty, pos, aft, none⟩ :: ⟨none, .store T (.tmp d) x, ty', pos', aft', none⟩ :: rest) f s.w := by
 obtain ⟨cs, hrel, hcs, hlen, hpack⟩ := rel_cells hV
 refine L_val (v := .pointer (some ⟨s.w.heap.size, 0, none⟩)) rfl (fun k e => by cases e; exact hd) (w' := s.w.alloc (.cells z.cells T)) ?_ ?_
 ·simp [execOp, run_alloc hz]
 refine L_skip rfl rfl (w' := s.w.alloc (.cells cs.toArray T)) ?_ ?_
 ·have e0 : ev (upd f d (.pointer (some ⟨s.w.heap.size, 0, none⟩))) (.tmp d) = .pointer (some ⟨s.w.heap.size, 0, none⟩) := by simp [ev, upd]
  have hst := run_storeCells_new (P := P) s.w.heap.size T cs z.cells (s.w.alloc (.cells z.cells T)) (heap_alloc_new s.w _) (by rw [hlen, hzs]) (Rep.one hrel)
  rw [setRow_alloc] at hst
  have hsz : v.cells.size = Rep.size α := by rw [← hlen, ← hcs]; simp
  simp only [execOp, updO, Instr.storeAt, Instr.sureAddr, e0, hx, storeVar, Sem.run_bind, Sem.run_pure, Result.andThen_ok, run_sizeOf hT.inf, hsz, hcs]
  simp [hst]
 ·have hE := Ext.new s (.cells cs.toArray T) (Rep.size α)
  refine h (s.new (.cells cs.toArray T) (Rep.size α)) _ hE ⟨s.w.heap.size, 0, cs, rfl, Rep.mono hE.le hrel, ?_⟩
  exact atRO_new s cs T _ 0 (Rep.size α) cs (by rw [List.drop_zero, List.take_of_length_le (by omega)]) (by omega)

/-! Slices by their elements. -/

def Vs {α : Type} [Rep α] (s : St) : List Value → List α → Prop
 | [], [] => True
 | v :: vs, x :: xs => V s v x ∧ Vs s vs xs
 | _, _ => False

theorem Vs.nil {α : Type} [Rep α] : Vs s [] ([] : List α) := trivial
theorem Vs.cons {α : Type} [Rep α] {v : Value} {vs : List Value} {x : α} {xs : List α} (h : V s v x) (k : Vs s vs xs) : Vs s (v :: vs) (x :: xs) := ⟨h, k⟩

theorem Vs.get {α : Type} [Rep α] : ∀ {vs : List Value} {xs : List α}, Vs s vs xs → vs.length = xs.length ∧ ∀ i (h : i < xs.length) (h' : i < vs.length), V s vs[i] xs[i]
 | [], [], _ => ⟨rfl, fun i h => by simp at h⟩
 | v :: vs, x :: xs, ⟨h, k⟩ => by
  obtain ⟨h1, h2⟩ := Vs.get k
  refine ⟨by simp [h1], fun i hi hi' => ?_⟩
  cases i with
  | zero => exact h
  | succ i => exact h2 i (by simpa using hi) (by simpa using hi')
 | [], _ :: _, h => h.elim
 | _ :: _, [], h => h.elim

theorem foldl_set (cells : List Value) : ∀ (k : Nat) (arr : Array Value) (off : Nat), off + k + cells.length ≤ arr.size →
  ((cells.zipIdx k).foldl (fun (cs : Array Value) (x : Value × Nat) => cs.setIfInBounds (off + x.2) x.1) arr).toList = arr.toList.take (off + k) ++ cells ++ arr.toList.drop (off + k + cells.length) := by
 induction cells with
 | nil => intro k arr off h; simp
 | cons c cs ih =>
  intro k arr off h
  simp only [List.length_cons] at h
  rw [List.zipIdx_cons, List.foldl_cons, ih (k + 1) _ off (by simp; omega)]
  have e1 : (arr.setIfInBounds (off + k) c).toList = arr.toList.set (off + k) c := by simp
  simp only [e1]
  have hl : off + k < arr.toList.length := by simp; omega
  rw [show off + (k + 1) = off + k + 1 by omega]
  rw [List.take_set, List.drop_set, if_pos (by omega)]
  rw [List.take_succ_eq_append_getElem (by simpa using hl)]
  rw [List.set_append_right _ _ (by simp only [List.length_take]; exact Nat.min_le_left _ _)]
  simp only [List.length_take, Array.length_toList]
  rw [Nat.min_eq_left (by simp at hl; omega)]
  rw [show off + k + (c :: cs).length = off + k + 1 + cs.length by simp only [List.length_cons]; omega]
  simp only [Nat.sub_self, List.set_cons_zero, List.append_assoc, List.cons_append, List.nil_append]

theorem fill_rows {size : Nat} : ∀ (vs : List Value) (k : Nat) (arr : Array Value), (∀ v, v ∈ vs → v.cells.size = size) → (k + vs.length) * size ≤ arr.size →
  ∃ out, Instr.fill (fun i => some (i * size, size)) arr ((vs.zipIdx k).map fun x => (x.2, x.1)) = some out ∧
   out.toList = arr.toList.take (k * size) ++ vs.flatMap (fun v => v.cells.toList) ++ arr.toList.drop ((k + vs.length) * size)
 | [], k, arr, _, _ => ⟨arr, by simp [Instr.fill], by simp⟩
 | v :: vs, k, arr, hv, hl => by
  have h1 := hv v (by simp)
  have hle : k * size + size ≤ arr.size := by
   refine Nat.le_trans ?_ hl
   rw [← Nat.succ_mul]
   exact Nat.mul_le_mul_right _ (by simp only [List.length_cons]; omega)
  have hf := foldl_set v.cells.toList 0 arr (k * size) (by simp [h1]; exact hle)
  obtain ⟨out, ho, he⟩ := fill_rows vs (k + 1) (v.cells.zipIdx.foldl (fun cs (c, j) => cs.setIfInBounds (k * size + j) c) arr) (fun u hu => hv u (by simp [hu]))
   (by
    have : ∀ (l : List (Value × Nat)) (a : Array Value), (l.foldl (fun (cs : Array Value) (x : Value × Nat) => cs.setIfInBounds (k * size + x.2) x.1) a).size = a.size := by
     intro l; induction l with
     | nil => intro a; rfl
     | cons x l ih => intro a; rw [List.foldl_cons, ih]; simp
    rw [← Array.foldl_toList, this]
    refine Nat.le_trans (Nat.le_of_eq ?_) hl
    simp only [List.length_cons]; congr 1; omega)
  refine ⟨out, ?_, ?_⟩
  ·rw [List.zipIdx_cons, List.map_cons, Instr.fill]
   simp only [h1]
   rw [if_neg (by simp; omega)]
   exact ho
  ·rw [he]
   rw [← Array.foldl_toList, Array.toList_zipIdx]
   rw [show (fun (cs : Array Value) (x : Value × Nat) => match x with | (c, j) => cs.setIfInBounds (k * size + j) c) = (fun (cs : Array Value) (x : Value × Nat) => cs.setIfInBounds (k * size + x.2) x.1) from rfl]
   rw [hf]
   simp only [Nat.add_zero, Array.length_toList, h1, List.flatMap_cons]
   have hs : (v.cells.toList).length = size := by simp [h1]
   have ht : (List.take (k * size) arr.toList).length = k * size := by simp; omega
   rw [show (k + 1) * size = k * size + size from Nat.succ_mul k size]
   rw [List.take_append_of_le_length (by simp only [List.length_append, ht, hs]; omega)]
   rw [List.take_of_length_le (by simp only [List.length_append, ht, hs]; omega)]
   rw [List.drop_append, List.drop_eq_nil_of_le (by
    simp only [List.length_append, ht, hs]
    rw [show k + 1 + vs.length = (k + 1) + vs.length from rfl, Nat.add_mul, Nat.succ_mul]; omega)]
   simp only [List.length_append, ht, hs, List.nil_append, List.drop_drop, List.length_cons, List.append_assoc]
   congr 4
   have : (k + 1 + vs.length) * size = k * size + size + vs.length * size := by rw [Nat.add_mul, Nat.succ_mul]
   have h3 : (k + (vs.length + 1)) * size = k * size + size + vs.length * size := by rw [Nat.add_mul, Nat.succ_mul]; omega
   omega

end
end Go.Arm
