/- Arrays of the call's own whose elements are set; calls while blocks of one's own are claimed. -/
import Derived.Test.YtmojccilbgjngaaCoreC
namespace Go.Arm
open Go Go.RowKit

def Arr {α : Type} [Rep α] (s : St) (b : Nat) (E : TypeId) (len : Nat) (xs : List α) : Prop :=
 xs.length = len ∧ ∃ cells, Mut s b E cells ∧ cells.length = xs.length * Rep.size α ∧ (∀ u, u ∈ cells → u.oneCell' = true) ∧
  ∀ i (h : i < xs.length), Rep.rel s ((cells.drop (i * Rep.size α)).take (Rep.size α)) xs[i]

section
variable {α β : Type} [Rep α] [Rep β] {s s' : St} {b : Nat} {E : TypeId} {len : Nat} {xs : List α} {M : Nat → Prop}
theorem Arr.tch (h : Arr s b E len xs) (t : Tch M s s') (hb : ¬ M b) : Arr s' b E len xs := by
 obtain ⟨h0, cells, h1, h2, h3, h4⟩ := h
 exact ⟨h0, cells, h1.tch t hb, h2, h3, fun i hi => Rep.mono t.le (h4 i hi)⟩
theorem Arr.ext (h : Arr s b E len xs) (t : Ext s s') : Arr s' b E len xs := h.tch t (fun x => x)
theorem Arr.lt (h : Arr s b E len xs) : b < s.w.heap.size := by obtain ⟨_, cells, h1, _⟩ := h; exact h1.lt
theorem Arr.g (h : Arr s b E len xs) : s.g b = 0 := by obtain ⟨_, cells, h1, _⟩ := h; exact h1.g
theorem Var.g {x : α} (h : Var s b E x) : s.g b = 0 := by obtain ⟨cells, h1, _⟩ := h; exact h1.g

theorem Arr.freeze (h : Arr s b E len xs) : ∃ s', s'.w = s.w ∧ Tch (fun k => k = b) s s' ∧ V s' (.slice (some ⟨b, 0, none⟩) len len) xs := by
 obtain ⟨h0, cells, h1, h2, h3, h4⟩ := h
 obtain ⟨s', e, t, hg, ho⟩ := h1.claim cells.length
 refine ⟨s', e, t, Vslice h0.symm (by omega) (fun _ => ⟨b, 0, rfl, RowAt.of_cells (cells := cells) ?_ h2 (fun i hi => Rep.mono t.le (h4 i hi))⟩)⟩
 intro j hj
 rw [e, hg, Nat.zero_add, h1.cell]
 exact ⟨by simp [hj], hj⟩
theorem Var.freeze {x : α} (h : Var s b E x) : ∃ s', s'.w = s.w ∧ Tch (fun k => k = b) s s' ∧ Ptr s' (.pointer (some ⟨b, 0, none⟩)) x := by
 obtain ⟨s', h1, h2, h3, _⟩ := h.ptr; exact ⟨s', h1, h2, h3⟩
end

section
variable {P : Program} {n : Nat} {Q : Post} {f : Fr} {w : World} {ops : Array Oper} {rest : List Oper} {s : St}
variable {d : Nat} {ty : TypeId} {pos : String} {aft : Array Edge} {α β : Type} [Rep α] [Rep β]

theorem madeCells_get {z : Array Value} {k i : Nat} {size : Nat} (hz : z.size = size) (hp : 0 < size) (hi : i < k) : ((madeCells z (k * size)).toList.drop (i * size)).take size = z.toList := by
 apply List.ext_getElem
 ·have : (i + 1) * size ≤ k * size := Nat.mul_le_mul_right _ hi
  rw [Nat.succ_mul] at this
  simp [size_madeCells, hz]; omega
 ·intro j h1 h2
  simp only [Array.length_toList, hz] at h2
  simp only [List.getElem_take, List.getElem_drop, madeCells, Array.getElem_toList, Array.getElem_map, Array.getElem_range]
  have : (i * size + j) % z.size = j := by rw [hz, Nat.mul_add_mod_self_right]; exact Nat.mod_eq_of_lt h2
  rw [this]
  exact getElem!_pos z j (by omega)

theorem L_makeArr {T E : TypeId} {x : Operand} {k : Int} {bytes : Nat} {z : Value} {x0 : α} (hT : P.underlying T = some (.slice E)) (hZ : TyZ P E α bytes z) (hx : ev f x = .int .i64 k) (h0 : 0 ≤ k)
  (hb : (bytes : Int) * k ≤ 281474976710656) (h63 : k ≤ 9223372036854775807) (hz0 : ∀ s, Rep.rel s z.cells.toList x0) (hd : d < n)
  (h : ∀ s' b, Ext s s' → s.w.heap.size ≤ b → Arr s' b E k.toNat (List.replicate k.toNat x0) → L P n ops Q rest (upd f d (.slice (some ⟨b, 0, none⟩) k.toNat k.toNat)) s'.w) :
  L P n ops Q (⟨some d, .makeSlice T x x, ty, pos, aft, none⟩ :: rest) f s.w := by
 obtain ⟨i, hi, hz, hsz, hby⟩ := info_parts hZ.info
 have hr := run_make (P := P) s.w T E i z hT hi hz .i64 .i64 k k h0 (Int.le_refl _) (by rw [hby]; exact hb) h63
 refine L_val (v := .slice (some ⟨s.w.heap.size, 0, none⟩) k.toNat k.toNat) rfl (fun k e => by cases e; exact hd) (w' := s.w.alloc (.cells (madeCells z.cells (k.toNat * i.size)) E)) (by simp [execOp, hx, hr]) ?_
 refine h (s.new (.cells (madeCells z.cells (k.toNat * i.size)) E) 0) s.w.heap.size (Ext.new _ _ _) (Nat.le_refl _) ⟨by simp, (madeCells z.cells (k.toNat * i.size)).toList, ⟨?_, if_pos rfl⟩, ?_, ?_, ?_⟩
 ·simpa [St.new] using heap_alloc_new s.w (.cells (madeCells z.cells (k.toNat * i.size)) E)
 ·simp [size_madeCells, hsz]
 ·intro u hu
  simp only [madeCells, Array.toList_map, List.mem_map] at hu
  obtain ⟨j, hj, rfl⟩ := hu
  have hone := Rep.one (hz0 s)
  have hlt : j % z.cells.size < z.cells.size := Nat.mod_lt _ (by rw [hZ.zs]; exact hZ.pos)
  rw [getElem!_pos z.cells _ hlt]
  exact hone _ (by simp)
 ·intro j hj
  simp only [List.length_replicate] at hj
  rw [hsz, madeCells_get hZ.zs hZ.pos hj]
  simpa using hz0 _

theorem L_indexA {T E : TypeId} {x i : Operand} {b len cap sz : Nat} {k : IntKind} {j : Int} (hT : P.underlying T = some (.slice E)) (hE : (P.info? E).map (·.size) = some sz)
  (hx : ev f x = .slice (some ⟨b, 0, none⟩) len cap) (hi : ev f i = .int k j) (h0 : 0 ≤ j) (h1 : j < len) (hd : d < n)
  (h : L P n ops Q rest (upd f d (.pointer (some ⟨b, j.toNat * sz, none⟩))) w) : L P n ops Q (⟨some d, .indexAddr T x i, ty, pos, aft, none⟩ :: rest) f w := by
 refine L_val (v := .pointer (some ⟨b, j.toNat * sz, none⟩)) rfl (fun k e => by cases e; exact hd) ?_ h
 simp [execOp, Instr.indexAt, hx, hi, asIntOf, run_underlying hT, h0, h1, run_sizeOf hE, Addr.add_eq]

theorem L_lenA {T E : TypeId} {x : Operand} {a : Option Addr} {len cap : Nat} (hT : P.underlying T = some (.slice E)) (hx : ev f x = .slice a len cap) (hd : d < n)
  (h : L P n ops Q rest (upd f d (.int .i64 len)) w) : L P n ops Q (⟨some d, .call ⟨.builtin .len, #[x], #[T]⟩, ty, pos, aft, none⟩ :: rest) f w := by
 refine L_val (v := .int .i64 len) rfl (fun k e => by cases e; exact hd) ?_ h
 simp [execOp, resolve, invoke, builtin, Builtin.len_, hx, run_underlying hT, goInt]

theorem Arr.part {b len : Nat} {E : TypeId} {xs : List α} {j : Nat} {y : α} (h : Arr s b E len xs) (hj : xs[j]? = some y) : ∃ cells ks : List Value, Mut s b E cells ∧ Rep.rel s ks y ∧ j * Rep.size α + ks.length ≤ cells.length ∧ (∀ i (h : i < ks.length), cells[j * Rep.size α + i]? = some ks[i]) := by
 obtain ⟨h0, cells, h1, h2, h3, h4⟩ := h
 obtain ⟨hlt, he⟩ := List.getElem?_eq_some_iff.1 hj
 have hr := h4 j hlt
 rw [he] at hr
 have hl := Rep.len hr
 have hle : (j + 1) * Rep.size α ≤ xs.length * Rep.size α := Nat.mul_le_mul_right _ hlt
 rw [Nat.succ_mul] at hle
 refine ⟨cells, _, h1, hr, by omega, fun i hi => ?_⟩
 rw [List.getElem_take, List.getElem_drop, List.getElem?_eq_getElem]

theorem L_loadA {T E : TypeId} {x : Operand} {b len : Nat} {xs : List α} {j : Int} {y : α} (hT : Ty P T α) (hx : ev f x = .pointer (some ⟨b, j.toNat * Rep.size α, none⟩)) (hM : Arr s b E len xs) (hy : idx xs j = some y) (hd : d < n)
  (h : ∀ v, V s v y → L P n ops Q rest (upd f d v) s.w) : L P n ops Q (⟨some d, .load T x, ty, pos, aft, none⟩ :: rest) f s.w := by
 obtain ⟨cells, ks, hm, hrel, hle, hks⟩ := hM.part (idx_some hy).2.2
 obtain ⟨s', e, t, hg, ho⟩ := hm.claim cells.length
 have hat : AtRO s' b (j.toNat * Rep.size α) ks := by
  intro i hi
  refine ⟨by rw [e, hm.cell]; exact hks i hi, by rw [hg]; omega⟩
 have := run_load_ro (P := P) hT (Rep.mono t.le hrel) hat
 rw [e] at this
 refine L_val (v := pack (Rep.agg α) ks) rfl (fun k e => by cases e; exact hd) ?_ (h _ ⟨ks, hrel, rfl⟩)
 simp [execOp, Instr.loadAt, Instr.sureAddr, hx, this]

theorem drop_take_splice {cells ks : List Value} {sz j i n : Nat} (hk : ks.length = sz) (hc : cells.length = n * sz) (hj : j < n) (hi : i < n) :
  ((splice cells (j * sz) ks).drop (i * sz)).take sz = if i = j then ks else (cells.drop (i * sz)).take sz := by
 have hj1 : (j + 1) * sz ≤ n * sz := Nat.mul_le_mul_right _ hj
 have hi1 : (i + 1) * sz ≤ n * sz := Nat.mul_le_mul_right _ hi
 rw [Nat.succ_mul] at hj1 hi1
 apply List.ext_getElem?
 intro q
 simp only [List.getElem?_take, List.getElem?_drop, splice]
 by_cases hq : q < sz
 ·rw [if_pos hq]
  by_cases hij : i = j
  ·subst hij
   rw [if_pos rfl, List.append_assoc, List.getElem?_append_right (by simp; omega), List.length_take, Nat.min_eq_left (by omega),
    show i * sz + q - i * sz = q by omega, List.getElem?_append_left (by omega)]
  ·rw [if_neg hij]
   simp only [List.getElem?_take, hq, if_true, List.getElem?_drop]
   rcases Nat.lt_or_ge i j with h | h
   ·have : (i + 1) * sz ≤ j * sz := Nat.mul_le_mul_right _ h
    rw [Nat.succ_mul] at this
    rw [List.append_assoc, List.getElem?_append_left (by simp; omega), List.getElem?_take, if_pos (by omega)]
   ·have : (j + 1) * sz ≤ i * sz := Nat.mul_le_mul_right _ (by omega)
    rw [Nat.succ_mul] at this
    rw [List.getElem?_append_right (by simp; omega), List.getElem?_drop]
    congr 1
    simp only [List.length_append, List.length_take]
    rw [Nat.min_eq_left (by omega)]; omega
 ·rw [if_neg hq]
  split
  ·exact (List.getElem?_eq_none (by omega)).symm
  ·rw [List.getElem?_take, if_neg hq]

theorem Arr.store {b len : Nat} {E : TypeId} {xs : List α} {j : Nat} {y : α} {ks : List Value} (h : Arr s b E len xs) (hj : j < xs.length) (hrel : Rep.rel s ks y) :
  ∃ s', (storeCells ⟨b, j * Rep.size α, none⟩ ks 0).run P s.w = .ok () s'.w ∧ Tch (fun k => k = b) s s' ∧ Arr s' b E len (xs.set j y) := by
 obtain ⟨h0, cells, h1, h2, h3, h4⟩ := h
 have hl := Rep.len hrel
 have hle : (j + 1) * Rep.size α ≤ xs.length * Rep.size α := Nat.mul_le_mul_right _ hj
 rw [Nat.succ_mul] at hle
 obtain ⟨s', hr, ht, hm'⟩ := h1.store (P := P) (ks := ks) (j * Rep.size α) (by omega) (Rep.one hrel)
 have hsl : (splice cells (j * Rep.size α) ks).length = cells.length := by simp [splice]; omega
 refine ⟨s', hr, ht, by simpa using h0, _, hm', by rw [hsl, h2]; simp, ?_, ?_⟩
 ·intro u hu
  simp only [splice, List.mem_append] at hu
  rcases hu with (hu | hu) | hu
  ·exact h3 u (List.mem_of_mem_take hu)
  ·exact Rep.one hrel u hu
  ·exact h3 u (List.mem_of_mem_drop hu)
 ·intro i hi
  simp only [List.length_set] at hi
  rw [drop_take_splice hl h2 hj hi, List.getElem_set]
  by_cases e : i = j
  ·subst e; rw [if_pos rfl, if_pos rfl]; exact Rep.mono ht.le hrel
  ·rw [if_neg e, if_neg (fun x => e x.symm)]; exact Rep.mono ht.le (h4 i hi)

theorem L_storeA {T E : TypeId} {x a : Operand} {v : Value} {b len : Nat} {xs : List α} {j : Int} {y o : α} (hT : Ty P T α) (ha : ev f a = .pointer (some ⟨b, j.toNat * Rep.size α, none⟩)) (hx : ev f x = v) (hV : V s v y) (hM : Arr s b E len xs) (hj : idx xs j = some o)
  (h : ∀ s', Tch (fun k => k = b) s s' → Arr s' b E len (xs.set j.toNat y) → L P n ops Q rest f s'.w) :
  L P n ops Q (⟨none, .store T a x, ty, pos, aft, none⟩ :: rest) f s.w := by
 obtain ⟨ks, hrel, hcs, hlen, hpack⟩ := rel_cells hV
 obtain ⟨s', hr, ht, hm⟩ := hM.store (P := P) (List.getElem?_eq_some_iff.1 (idx_some hj).2.2).1 hrel
 refine L_skip rfl rfl (w' := s'.w) ?_ (h s' ht hm)
 have hsz : v.cells.size = Rep.size α := by rw [← hlen, ← hcs]; simp
 simp only [execOp, Instr.storeAt, Instr.sureAddr, ha, hx, storeVar, Sem.run_bind, Sem.run_pure, Result.andThen_ok, run_sizeOf hT.inf, hsz, hcs]
 simp [hr]

theorem L_calls_fz {k : FuncId} {args : Array Operand} {tys : Array TypeId} {vs : Array Value} {Φ : Value → St → Prop} {s1 : St} {M : Nat → Prop} (hk : Callee P k) (ha : args.map (ev f) = vs)
  (e1 : s1.w = s.w) (t1 : Tch M s s1) (hz : ∀ k, M k → s.g k = 0)
  (hc : Calls P k vs s1.w (Ret s1 Φ)) (hd : d < n) (h : ∀ v s2 s3, s3.w = s2.w → Ext s s3 → Φ v s2 → L P n ops Q rest (upd f d v) s3.w) :
  L P n ops Q (⟨some d, .call ⟨.value (.func k), args, tys⟩, ty, pos, aft, none⟩ :: rest) f s.w := by
 rw [← e1]
 refine L_calls hk ha hc hd (fun v s2 hE hΦ => ?_)
 obtain ⟨s3, e3, x3⟩ := thaw e1 t1 hz hE
 rw [← e3]
 exact h v s2 s3 e3 x3 hΦ
end
end Go.Arm
