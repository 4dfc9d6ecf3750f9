/- Slices that are made, and grow. -/
import Derived.Test.YtmojccilbgjngaaCore4
namespace Go.Arm
open Go Go.RowKit

def Bld {α : Type} [Rep α] (s : St) (B : Nat) (E : TypeId) (v : Value) (xs : List α) : Prop :=
 (v = .slice none 0 0 ∧ xs = []) ∨
 ∃ b cap cur, v = .slice (some ⟨b, 0, none⟩) xs.length cap ∧ B ≤ b ∧ s.w.heap[b]? = some (.cells cur E (0, 0)) ∧ xs.length ≤ cap ∧ cap ≤ maxLen ∧
  cur.size = cap * Rep.size α ∧ s.g b = xs.length * Rep.size α ∧ RowAt s b 0 xs

def own (v : Value) : Nat → Prop := fun b => v.ownBlock = some b

section
variable {α : Type} [Rep α] {s s' : St} {B : Nat} {E : TypeId} {v : Value} {xs : List α}

theorem Bld.nil : Bld s B E (.slice none 0 0) ([] : List α) := .inl ⟨rfl, rfl⟩

theorem Bld.toV (h : Bld s B E v xs) : V s v xs := by
 rcases h with ⟨rfl, rfl⟩ | ⟨b, cap, cur, rfl, _, _, hc, _, _, _, hr⟩
 ·exact Vnil
 ·exact Vslice rfl hc (fun _ => ⟨b, 0, rfl, hr⟩)

theorem Bld.lt {b : Nat} (h : Bld s B E v xs) (e : own v b) : B ≤ b ∧ b < s.w.heap.size := by
 rcases h with ⟨rfl, rfl⟩ | ⟨b', cap, cur, rfl, hb, hh, _⟩
 ·cases e
 ·cases e; exact ⟨hb, (Array.getElem?_eq_some_iff.1 hh).1⟩

theorem Bld.tch {M : Nat → Prop} (h : Bld s B E v xs) (t : Tch M s s') (hn : ∀ b, own v b → ¬ M b) : Bld s' B E v xs := by
 rcases h with ⟨rfl, rfl⟩ | ⟨b, cap, cur, rfl, hb, hh, hc, hm, hs, hg, hr⟩
 ·exact .inl ⟨rfl, rfl⟩
 ·have hlt := (Array.getElem?_eq_some_iff.1 hh).1
  exact .inr ⟨b, cap, cur, rfl, hb, (t.block b hlt (hn b rfl)).trans hh, hc, hm, hs, (t.g b hlt (hn b rfl)).trans hg, hr.mono t.le⟩

theorem Bld.ext (h : Bld s B E v xs) (t : Ext s s') : Bld s' B E v xs := h.tch t (fun _ _ x => x)
theorem Bld.base {B' : Nat} (h : Bld s B E v xs) (hB : B' ≤ B) : Bld s B' E v xs := by
 rcases h with h | ⟨b, cap, cur, h1, hb, r⟩
 ·exact .inl h
 ·exact .inr ⟨b, cap, cur, h1, Nat.le_trans hB hb, r⟩

theorem RowAt.cells {b o : Nat} : ∀ {xs : List α}, RowAt s b o xs → ∃ cells : List Value, cells.length = xs.length * Rep.size α ∧ AtRO s b o cells ∧ (∀ u, u ∈ cells → u.oneCell' = true) ∧
  ∀ i (h : i < xs.length), Rep.rel s ((cells.drop (i * Rep.size α)).take (Rep.size α)) xs[i] := by
 intro xs
 induction xs generalizing o with
 | nil => intro _; exact ⟨[], by simp, fun j hj => by simp at hj, fun u hu => by simp at hu, fun i hi => by simp at hi⟩
 | cons x xs ih =>
  intro h
  obtain ⟨c0, hr0, ha0⟩ := h 0 (by simp)
  have hl0 := Rep.len hr0
  obtain ⟨cells, hl, ha, h1, hr⟩ := ih (o := o + Rep.size α) (fun i hi => by
   obtain ⟨cs, h1, h2⟩ := h (i + 1) (by simpa using hi)
   refine ⟨cs, by simpa using h1, ?_⟩
   rw [show o + Rep.size α + i * Rep.size α = o + (i + 1) * Rep.size α by rw [Nat.succ_mul]; omega]
   exact h2)
  refine ⟨c0 ++ cells, ?_, ?_, ?_, ?_⟩
  ·simp only [List.length_append, hl0, hl, List.length_cons, Nat.succ_mul]; omega
  ·intro j hj
   by_cases hlt : j < c0.length
   ·rw [List.getElem_append_left hlt]
    have := ha0 j hlt
    simpa using this
   ·rw [List.getElem_append_right (by omega)]
    have := ha (j - c0.length) (by simp only [List.length_append] at hj; omega)
    rw [show o + Rep.size α + (j - c0.length) = o + j by omega] at this
    exact this
  ·intro u hu
   rcases List.mem_append.1 hu with hu | hu
   ·exact Rep.one hr0 u hu
   ·exact h1 u hu
  ·intro i hi
   cases i with
   | zero =>
    simp only [Nat.zero_mul, List.drop_zero, List.getElem_cons_zero]
    rw [List.take_append_of_le_length (by omega), List.take_of_length_le (by omega)]
    simpa using hr0
   | succ i =>
    simp only [List.getElem_cons_succ]
    rw [List.drop_append, List.drop_eq_nil_of_le (by rw [hl0, Nat.succ_mul]; omega), List.nil_append, hl0,
     show (i + 1) * Rep.size α - Rep.size α = i * Rep.size α by rw [Nat.succ_mul]; omega]
    exact hr i (by simpa using hi)

theorem RowAt.of_cells {b o : Nat} {cells : List Value} (ha : AtRO s b o cells) (hl : cells.length = xs.length * Rep.size α)
  (hr : ∀ i (h : i < xs.length), Rep.rel s ((cells.drop (i * Rep.size α)).take (Rep.size α)) xs[i]) : RowAt s b o xs := by
 intro i hi
 refine ⟨_, hr i hi, ?_⟩
 intro j hj
 have hlen := Rep.len (hr i hi)
 rw [hlen] at hj
 have hle : (i + 1) * Rep.size α ≤ xs.length * Rep.size α := Nat.mul_le_mul_right _ hi
 rw [Nat.succ_mul] at hle
 have := ha (i * Rep.size α + j) (by omega)
 rw [List.getElem_take, List.getElem_drop]
 rw [show o + i * Rep.size α + j = o + (i * Rep.size α + j) by omega]
 exact this

theorem V.source {ys : List α} {u : Value} (h : V s u ys) (hne : ys ≠ []) : ∃ (ad : Addr) (c : Nat) (cells : List Value), u = .slice (some ad) ys.length c ∧ cells.length = ys.length * Rep.size α ∧
  (∀ j x, cells[j]? = some x → s.w.cell? (ad.add j) = some x) ∧ (∀ x, x ∈ cells → x.oneCell' = true) ∧
  ∀ i (h : i < ys.length), Rep.rel s ((cells.drop (i * Rep.size α)).take (Rep.size α)) ys[i] := by
 obtain ⟨base, cap, rfl, hc, hr⟩ := h.slice
 obtain ⟨b, o, rfl, hrow⟩ := hr hne
 obtain ⟨cells, hl, ha, h1, hrel⟩ := hrow.cells
 refine ⟨⟨b, o, none⟩, cap, cells, rfl, hl, ?_, h1, hrel⟩
 intro j x hx
 obtain ⟨h1, h2⟩ := List.getElem?_eq_some_iff.1 hx
 rw [Addr.add_eq, (ha j h1).1, h2]
end

def St.row (s : St) (b : Nat) (cs : Array Value) (c : Nat) (hb : b < s.w.heap.size) : St :=
 ⟨s.w.setRow b cs, fun k => if k = b then c else s.g k, fun k hk => by
  have : (s.w.setRow b cs).heap.size = s.w.heap.size := by simp [World.setRow]
  rw [this] at hk
  rw [if_neg (by omega)]; exact s.ok k hk⟩

theorem Tch.row {s : St} {b : Nat} {old cs : Array Value} {E : TypeId} {fr : Nat × Nat} {c : Nat} (hh : s.w.heap[b]? = some (.cells old E fr)) (hc : s.g b ≤ c)
  (hsame : ∀ o, o < s.g b → cs[o]? = old[o]?) (hb : b < s.w.heap.size) : Tch (fun k => k = b) s (s.row b cs c hb) := by
 have hsz : (s.w.setRow b cs).heap.size = s.w.heap.size := by simp [World.setRow]
 have hoth : ∀ k, k ≠ b → (s.w.setRow b cs).heap[k]? = s.w.heap[k]? := fun k hk => setRow_other s.w b k cs hk
 refine ⟨rfl, rfl, rfl, Nat.le_of_eq hsz.symm, fun k _ nk => hoth k nk, fun k _ nk => if_neg nk, ⟨fun k => ?_, fun k o ho => ?_, fun k _ hn => ?_⟩⟩
 ·show s.g k ≤ if k = b then c else s.g k
  split
  ·subst_vars; exact hc
  ·exact Nat.le_refl _
 ·show (s.w.setRow b cs).cell? _ = _
  by_cases e : k = b
  ·subst e
   simp only [World.cell?, setRow_heap s.w k old cs E fr hh, hh]
   simpa using hsame o ho
  ·simp only [World.cell?]; rw [hoth k e]
 ·by_cases e : k = b
  ·subst e; exact (hn _ _ _ hh).elim
  ·exact hoth k e

theorem RowAt.append {α : Type} [Rep α] {s : St} {b o : Nat} {xs ys : List α} (h : RowAt s b o xs) (k : RowAt s b (o + xs.length * Rep.size α) ys) : RowAt s b o (xs ++ ys) := by
 intro i hi
 by_cases hlt : i < xs.length
 ·obtain ⟨cs, h1, h2⟩ := h i hlt
  exact ⟨cs, by rw [List.getElem_append_left hlt]; exact h1, h2⟩
 ·obtain ⟨cs, h1, h2⟩ := k (i - xs.length) (by simp only [List.length_append] at hi; omega)
  refine ⟨cs, by rw [List.getElem_append_right (by omega)]; exact h1, ?_⟩
  have : o + xs.length * Rep.size α + (i - xs.length) * Rep.size α = o + i * Rep.size α := by
   rw [Nat.add_assoc, ← Nat.add_mul]; congr 2; omega
  rw [← this]; exact h2

theorem RowAt.le {α : Type} [Rep α] {s : St} {b o : Nat} {xs : List α} (h : RowAt s b o xs) (hp : 0 < Rep.size α) (hne : xs ≠ []) : o + xs.length * Rep.size α ≤ s.g b := by
 obtain ⟨cells, hl, ha, _⟩ := h.cells
 have hpos : 0 < xs.length := List.length_pos_iff.2 hne
 have h1 : 0 < xs.length * Rep.size α := Nat.mul_pos hpos hp
 have := (ha (xs.length * Rep.size α - 1) (by omega)).2
 omega

section
variable {P : Program} {n : Nat} {Q : Post} {f : Fr} {ops : Array Oper} {rest : List Oper} {s s0 : St}
variable {d : Nat} {ty : TypeId} {pos : String} {aft : Array Edge} {α : Type} [Rep α]

structure Grows (s : St) (B : Nat) (E : TypeId) (v v' : Value) (zs : List α) (s' : St) : Prop where
 tch : Tch (own v) s s'
 bld : Bld s' B E v' zs
 own : ∀ b, own v' b → Arm.own v b ∨ s.w.heap.size ≤ b

theorem run_append_bld {T E : TypeId} {B bytes : Nat} {z v u : Value} {xs ys : List α} (hT : P.underlying T = some (.slice E)) (hZ : TyZ P E α bytes z)
  (hB : Bld s B E v xs) (hbase : B ≤ s.w.heap.size) (hV : V s u ys) (hlen : (xs.length + ys.length) * bytes ≤ 140737488355328) (hmax : xs.length + ys.length ≤ maxLen) :
  ∃ v' s', (Builtin.append_ #[T, T] ty #[v, u]).run P s.w = .ok v' s'.w ∧ Grows s B E v v' (xs ++ ys) s' := by
 obtain ⟨i, hi, hz, hsz, hby⟩ := info_parts hZ.info
 by_cases hne : ys = []
 ·subst hne
  obtain ⟨base, cap, rfl, _, _⟩ := hV.slice
  refine ⟨v, s, ?_, ⟨Tch.refl _ _, by simpa using hB, fun b hb => .inl hb⟩⟩
  simp only [List.length_nil]
  rcases hB with ⟨rfl, rfl⟩ | ⟨b, cap', cur, rfl, _, _, hnc, _⟩
  ·cases base <;> simp [Builtin.append_, run_underlying hT, sizeOf, typeInfo, hi, Builtin.lenOf, Builtin.firstCells, loadCells, loadCellsFrom]
  ·cases base <;> simp [Builtin.append_, run_underlying hT, sizeOf, typeInfo, hi, Builtin.lenOf, Builtin.firstCells, hnc, storeCells, loadCells, loadCellsFrom]
 obtain ⟨ad, c, news, rfl, hnl, hnews, hn1, hnrel⟩ := hV.source hne
 have hypos : 0 < ys.length := List.length_pos_iff.2 hne
 have hsmall : ((xs.length + ys.length : Nat) : Int) ≤ 9223372036854775807 := by simp only [maxLen] at hmax; omega
 -- a new block
 have fresh : ∀ (olds : List Value) (k : Nat), olds.length = xs.length * Rep.size α → xs.length + ys.length ≤ k → k ≤ maxLen →
   (∀ i (h : i < xs.length), Rep.rel s ((olds.drop (i * Rep.size α)).take (Rep.size α)) xs[i]) → (v = .slice none 0 0 → True) →
   ∃ s' : St, s'.w = s.w.drew.alloc (.cells (olds.toArray ++ news.toArray ++ Builtin.zeroCells z.cells (k - (xs.length + ys.length))) E) ∧
    Grows s B E v (.slice (some ⟨s.w.heap.size, 0, none⟩) (xs.length + ys.length) k) (xs ++ ys) s' := by
  intro olds k hol hk hkm horel _
  have hE := (Ext.drew s).trans (Ext.new s.drew (.cells (olds ++ news ++ (Builtin.zeroCells z.cells (k - (xs.length + ys.length))).toList).toArray E) ((xs.length + ys.length) * Rep.size α))
  have hcl : (olds ++ news).length = (xs ++ ys).length * Rep.size α := by simp [hol, hnl, Nat.add_mul]
  refine ⟨_, ?_, hE.to, .inr ⟨s.w.heap.size, k, (olds ++ news ++ (Builtin.zeroCells z.cells (k - (xs.length + ys.length))).toList).toArray, by simp, hbase, heap_alloc_new s.w.drew _, by simpa using hk, hkm, ?_, ?_, ?_⟩, fun b hb => .inr ?_⟩
  ·show s.w.drew.alloc _ = _
   congr 2
   apply Array.ext'
   simp
  ·simp only [List.size_toArray, List.length_append, Array.length_toList, hol, hnl, size_zeroCells, hZ.zs, ← Nat.add_mul]
   congr 1; omega
  ·show (if s.w.heap.size = s.w.heap.size then _ else _) = _
   rw [if_pos rfl]; simp
  ·refine RowAt.of_cells (cells := olds ++ news) ?_ hcl ?_
   ·refine atRO_new s.drew _ E _ 0 ((xs.length + ys.length) * Rep.size α) _ ?_ (by omega)
    rw [List.drop_zero, List.take_append_of_le_length (by simp [hol, hnl, Nat.add_mul]), List.take_of_length_le (by simp [hol, hnl, Nat.add_mul])]
   ·intro j hj
    by_cases hlt : j < xs.length
    ·rw [List.getElem_append_left hlt]
     have hr := Rep.mono hE.le (horel j hlt)
     have hle : (j + 1) * Rep.size α ≤ olds.length := by rw [hol]; exact Nat.mul_le_mul_right _ hlt
     rw [Nat.succ_mul] at hle
     rw [List.drop_append_of_le_length (by omega), List.take_append_of_le_length (by simp; omega)]
     exact hr
    ·rw [List.getElem_append_right (by omega)]
     have hr := Rep.mono hE.le (hnrel (j - xs.length) (by simp only [List.length_append] at hj; omega))
     have hge : olds.length ≤ j * Rep.size α := by rw [hol]; exact Nat.mul_le_mul_right _ (by omega)
     rw [List.drop_append, List.drop_eq_nil_of_le hge, List.nil_append, hol, ← Nat.sub_mul]
     exact hr
  ·simp only [Arm.own, Value.ownBlock, Option.some.injEq] at hb; omega
 rcases hB with ⟨rfl, rfl⟩ | ⟨b, cap, cur, rfl, hbb, hh, hxc, hcm, hcs, hg, hrow⟩
 ·have hr := run_append_nil (P := P) s.w T ty E i z hT hi hz ad ys.length c news (by rw [hnl, hsz]) hnews hypos (by simpa using hsmall)
   (by rw [hby]; simp only [List.length_nil, Nat.zero_add] at hlen; omega)
  obtain ⟨s', hw, hgr⟩ := fresh [] (grownCap s.w ys.length 0 E) (by simp) (by simp; exact grownCap_ge _ _ _ _) (grownCap_le_maxLen _ _ _ _ (by simpa using hmax)) (fun j hj => by simp at hj) (fun _ => trivial)
  simp only [List.length_nil, Nat.zero_add, Array.empty_append] at hw hgr
  exact ⟨_, s', by rw [hr, hw], hgr⟩
 ·by_cases hroom : xs.length + ys.length ≤ cap
  ·have hfit : xs.length * i.size + news.length ≤ cur.size := by rw [hnl, hcs, hsz, ← Nat.add_mul]; exact Nat.mul_le_mul_right _ hroom
   have hr := run_append_room (P := P) s.w T ty E i hT hi b xs.length cap cur hh ad ys.length c news (by rw [hnl, hsz]) hnews hn1 hroom hfit
   rw [hsz] at hr hfit
   have hlt := (Array.getElem?_eq_some_iff.1 hh).1
   let cs' := (cur.toList.take (xs.length * Rep.size α) ++ news ++ cur.toList.drop (xs.length * Rep.size α + news.length)).toArray
   have htl : (cur.toList.take (xs.length * Rep.size α)).length = xs.length * Rep.size α := by simp; omega
   have hsame : ∀ o, o < s.g b → cs'[o]? = cur[o]? := by
    intro o ho
    rw [hg] at ho
    simp only [cs', List.getElem?_toArray, List.append_assoc]
    rw [List.getElem?_append_left (by omega), List.getElem?_take, if_pos ho]
    simp
   have ht := Tch.row (c := (xs.length + ys.length) * Rep.size α) hh (by rw [hg]; exact Nat.mul_le_mul_right _ (by omega)) hsame hlt
   refine ⟨_, s.row b cs' ((xs.length + ys.length) * Rep.size α) hlt, hr, ht.mono (fun x hx => by subst hx; rfl), .inr ⟨b, cap, cs', by simp, hbb, setRow_heap s.w b cur _ E _ hh, by simpa using hroom, hcm, ?_, ?_, ?_⟩, fun x hx => .inl hx⟩
   ·simp only [cs', List.size_toArray, List.length_append, htl, List.length_drop, Array.length_toList]; omega
   ·show (if b = b then _ else _) = _
    rw [if_pos rfl]; simp
   ·refine RowAt.append (hrow.mono ht.le) ?_
    refine RowAt.of_cells (cells := news) ?_ hnl (fun j hj => Rep.mono ht.le (hnrel j hj))
    intro j hj
    constructor
    ·show (s.w.setRow b cs').cell? _ = _
     simp only [World.cell?, setRow_heap s.w b cur cs' E _ hh]
     simp only [cs', List.getElem?_toArray, List.append_assoc]
     rw [List.getElem?_append_right (by omega), htl, show 0 + xs.length * Rep.size α + j - xs.length * Rep.size α = j by omega, List.getElem?_append_left hj]
     simp
    ·show _ < if b = b then _ else _
     rw [if_pos rfl, Nat.add_mul]; omega
  ·obtain ⟨olds, hol, hoa, _, horel⟩ := hrow.cells
   have hr := run_append_grow (P := P) s.w T ty E i z hT hi hz ⟨b, 0, none⟩ xs.length cap olds (by rw [hol, hsz]) (fun j x hx => by
    obtain ⟨h1, h2⟩ := List.getElem?_eq_some_iff.1 hx
    rw [Addr.add_eq, (hoa j h1).1, h2]) ad ys.length c news (by rw [hnl, hsz]) hnews (by omega) hsmall (growslice_fits (by omega) (by rw [hby]; exact hlen))
   obtain ⟨s', hw, hgr⟩ := fresh olds (grownCap s.w (xs.length + ys.length) cap E) hol (grownCap_ge _ _ _ _) (grownCap_le_maxLen _ _ _ _ hmax) horel (fun _ => trivial)
   exact ⟨_, s', by rw [hr, hw], hgr⟩

theorem L_append {T E : TypeId} {B bytes : Nat} {z v u : Value} {xs ys : List α} {x y : Operand} (hT : P.underlying T = some (.slice E)) (hZ : TyZ P E α bytes z)
  (hx : ev f x = v) (hy : ev f y = u) (hB : Bld s B E v xs) (hbase : B ≤ s.w.heap.size) (hV : V s u ys)
  (hlen : (xs.length + ys.length) * bytes ≤ 140737488355328) (hmax : xs.length + ys.length ≤ maxLen) (hd : d < n)
  (h : ∀ v' s', Grows s B E v v' (xs ++ ys) s' → L P n ops Q rest (upd f d v') s'.w) :
  L P n ops Q (⟨some d, .call ⟨.builtin .append, #[x, y], #[T, T]⟩, ty, pos, aft, none⟩ :: rest) f s.w := by
 obtain ⟨v', s', hr, hg⟩ := run_append_bld (ty := ty) hT hZ hB hbase hV hlen hmax
 refine L_val (v := v') rfl (fun k e => by cases e; exact hd) (w' := s'.w) ?_ (h v' s' hg)
 simp [execOp, resolve, invoke, builtin, hx, hy, hr]

def Parts (f : Fr) : List (Nat × Operand) → List Value → Nat → Prop
 | [], [], _ => True
 | (i, x) :: r, v :: vs, k => i = k ∧ ev f x = v ∧ Parts f r vs (k + 1)
 | _, _, _ => False

theorem Parts.eq : ∀ {ps : List (Nat × Operand)} {vs : List Value} {k : Nat}, Parts f ps vs k → ps.map (fun p => (p.1, ev f p.2)) = (vs.zipIdx k).map fun x => (x.2, x.1)
 | [], [], _, _ => rfl
 | (i, x) :: r, v :: vs, k, ⟨h1, h2, h3⟩ => by
  rw [List.map_cons, List.zipIdx_cons, List.map_cons, Parts.eq h3, h1, h2]
 | [], _ :: _, _, h => h.elim
 | _ :: _, [], _, h => h.elim

theorem L_buildSlice {T E : TypeId} {bytes len : Nat} {z : Value} {vs : List Value} {xs : List α} {parts : List (Nat × Operand)} (hT : P.underlying T = some (.slice E)) (hZ : TyZ P E α bytes z)
  (hp : Parts f parts vs 0) (hVs : Vs s vs xs) (hl : xs.length = len) (hsmall : len * Rep.size α ≤ 16777216) (hd : d < n)
  (h : ∀ s' v, Ext s s' → Bld s' s.w.heap.size E v xs → V s' v xs → L P n ops Q rest (upd f d v) s'.w) :
  L P n ops Q (⟨some d, .buildSlice T len parts.toArray, ty, pos, aft, none⟩ :: rest) f s.w := by
 obtain ⟨i, hi, hz, hsz, hby⟩ := info_parts hZ.info
 obtain ⟨hlv, hgv⟩ := Vs.get hVs
 have hsizes : ∀ v, v ∈ vs → v.cells.size = Rep.size α := by
  intro v hv
  obtain ⟨j, hj, rfl⟩ := List.getElem_of_mem hv
  obtain ⟨cs, _, h2, h3, _⟩ := rel_cells (hgv j (by omega) hj)
  rw [← h3, ← h2]; simp
 have hfill : ∀ A : Array Value, A.size = len * Rep.size α → Instr.fill (fun i => some (i * Rep.size α, Rep.size α)) A (parts.map fun p => (p.1, ev f p.2)) = some (vs.flatMap (fun v => v.cells.toList)).toArray := by
  intro A hA
  obtain ⟨out, ho, he⟩ := fill_rows (size := Rep.size α) vs 0 A hsizes (by simp [hlv, hl, hA])
  rw [Parts.eq hp, ho]
  congr 1
  apply Array.ext'
  rw [he]
  simp only [Nat.zero_mul, List.take_zero, List.nil_append, Nat.zero_add]
  rw [List.drop_eq_nil_of_le (by simp [hlv, hl, hA])]
  simp
 obtain ⟨out, hout'⟩ : ∃ out : Array Value, out = (vs.flatMap (fun v => v.cells.toList)).toArray := ⟨_, rfl⟩
 have hout : out.toList = vs.flatMap (fun v => v.cells.toList) := by rw [hout']
 rw [← hout'] at hfill
 have hrun : (Instr.buildSlice T len (parts.toArray.map fun p => (p.1, ev f p.2))).run P s.w = .ok (.slice (some ⟨s.w.heap.size, 0, none⟩) len len) (s.w.alloc (.cells out E)) := by
  have hn : ¬ (16777216 < len * Rep.size α) := by omega
  unfold Instr.buildSlice
  simp only [Sem.run_bind, run_underlying hT, Result.andThen_ok, sizeOf, typeInfo, run_program, hi, Sem.run_pure, hsz]
  rw [if_neg (by simpa using hn)]
  by_cases h0 : len * Rep.size α = 0
  ·rw [if_pos h0]
   simp only [Sem.run_bind, Sem.run_pure, Result.andThen_ok, List.map_toArray]
   rw [hfill _ (by simp)]
   simp [newRow]
  ·rw [if_neg h0]
   simp only [Sem.run_bind, Sem.run_pure, Result.andThen_ok, List.map_toArray, zeroValue, typeInfo, run_program, hi, hz]
   rw [hfill _ (by simp)]
   simp [newRow]
 have hcl : out.toList.length = xs.length * Rep.size α := by
  rw [hout]
  have : ∀ (l : List Value), (∀ v, v ∈ l → v.cells.size = Rep.size α) → (l.flatMap (fun v => v.cells.toList)).length = l.length * Rep.size α := by
   intro l; induction l with
   | nil => intro _; simp
   | cons v l ih => intro hv; rw [List.flatMap_cons, List.length_append, ih (fun u hu => hv u (by simp [hu])), Array.length_toList, hv v (by simp), List.length_cons, Nat.succ_mul]; omega
  rw [this vs hsizes, hlv]
 have hrelAt : ∀ j (hj : j < xs.length), Rep.rel s ((out.toList.drop (j * Rep.size α)).take (Rep.size α)) xs[j] := by
  intro j hj
  rw [hout]
  have key : ∀ (l : List Value) (j : Nat) (hj : j < l.length), (∀ v, v ∈ l → v.cells.size = Rep.size α) → ((l.flatMap (fun v => v.cells.toList)).drop (j * Rep.size α)).take (Rep.size α) = l[j].cells.toList := by
   intro l; induction l with
   | nil => intro j hj; simp at hj
   | cons v l ih =>
    intro j hj hv
    have hv0 := hv v (by simp)
    rw [List.flatMap_cons]
    cases j with
    | zero => simp only [Nat.zero_mul, List.drop_zero, List.getElem_cons_zero]; rw [List.take_append_of_le_length (by simp [hv0]), List.take_of_length_le (by simp [hv0])]
    | succ j =>
     rw [List.drop_append, List.drop_eq_nil_of_le (by rw [Array.length_toList, hv0, Nat.succ_mul]; omega), List.nil_append, Array.length_toList, hv0,
      show (j + 1) * Rep.size α - Rep.size α = j * Rep.size α by rw [Nat.succ_mul]; omega]
     simpa using ih j (by simpa using hj) (fun u hu => hv u (by simp [hu]))
  rw [key vs j (by omega) hsizes]
  obtain ⟨cs, h1, h2, _⟩ := rel_cells (hgv j hj (by omega))
  rw [h2]; exact h1
 have hE := Ext.new s (.cells out E) (xs.length * Rep.size α)
 have hrow : RowAt (s.new (.cells out E) (xs.length * Rep.size α)) s.w.heap.size 0 xs := by
  refine RowAt.of_cells (cells := out.toList) ?_ hcl (fun j hj => Rep.mono hE.le (hrelAt j hj))
  have := atRO_new s out.toList E (xs.length * Rep.size α) 0 (xs.length * Rep.size α) out.toList (by rw [List.drop_zero, List.take_of_length_le (by omega)]) (by omega)
  simpa using this
 have hB : Bld (s.new (.cells out E) (xs.length * Rep.size α)) s.w.heap.size E (.slice (some ⟨s.w.heap.size, 0, none⟩) len len) xs :=
  .inr ⟨s.w.heap.size, len, out, by rw [hl], Nat.le_refl _, heap_alloc_new s.w _, by omega, by
   have h1 : len ≤ len * Rep.size α := Nat.le_mul_of_pos_right _ hZ.pos
   simp only [maxLen]; omega, by rw [← Array.length_toList, hcl, hl], by
   show (if s.w.heap.size = s.w.heap.size then _ else _) = _
   rw [if_pos rfl], hrow⟩
 refine L_val (v := .slice (some ⟨s.w.heap.size, 0, none⟩) len len) rfl (fun k e => by cases e; exact hd) (w' := s.w.alloc (.cells out E)) ?_ (h _ _ hE hB hB.toV)
 simp only [execOp]
 rw [Sem.run_bind, hrun]; rfl
end
end Go.Arm
