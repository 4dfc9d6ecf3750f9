/- Ranging over a map. -/
import Derived.Test.YtmojccilbgjngaaCoreE
import Derived.Maps.RangeRun
namespace Go.Arm
open Go Go.RowKit

theorem perm_take {κ : Type} (key : κ → Nat) : ∀ (L : List κ) (p : κ), (L.map key).Nodup → p ∈ L → L.Perm (p :: L.filter (fun x => key x != key p))
 | [], p, _, h => by simp at h
 | x :: L, p, hn, h => by
  simp only [List.map_cons, List.nodup_cons] at hn
  rcases List.mem_cons.1 h with rfl | hm
  ·have : L.filter (fun x => key x != key p) = L := by
    rw [List.filter_eq_self]
    intro y hy
    simp only [bne_iff_ne, ne_eq]
    intro e
    exact hn.1 (e ▸ List.mem_map_of_mem hy)
   simp [this]
  ·have hne : key x ≠ key p := fun e => hn.1 (e ▸ List.mem_map_of_mem hm)
   have ih := perm_take key L p hn.2 hm
   rw [List.filter_cons_of_pos (by simpa using hne)]
   exact (ih.cons x).trans (List.Perm.swap p x _)

section
variable {β : Type} [Rep β]
def leftL {β : Type} (es : List MapEntry) (m : List (Int × β)) (seen : Array Nat) : List (Int × β) := ((es.zip m).filter (fun p => !seen.contains p.1.born)).map (·.2)

def Iter (s : St) (r : Nat) (R : List (Int × β)) : Prop :=
 s.g r = 0 ∧ ((R = [] ∧ ∃ a b c, s.w.heap[r]? = some (.mapIter none a b c)) ∨
 ∃ bm es clock seen c0 m, s.w.heap[r]? = some (.mapIter (some bm) clock seen c0) ∧ clock ≤ c0 ∧ s.w.heap[bm]? = some (.map es clock) ∧ 0 < s.g bm ∧ MapRel s es clock m ∧ R = leftL es.toList m seen)

def IterAt (s : St) (r : Nat) (kv : Int × β) (R : List (Int × β)) : Prop :=
 s.g r = 0 ∧ ∃ (bm : Nat) (es : Array MapEntry) (clock : Nat) (seen : Array Nat) (m : List (Int × β)) (i : Nat) (h : i < es.size) (h' : i < m.length), s.w.heap[r]? = some (.mapIter (some bm) clock (seen.push es[i].born) clock) ∧ s.w.heap[bm]? = some (.map es clock) ∧ 0 < s.g bm ∧
  MapRel s es clock m ∧ kv = m[i] ∧ R = leftL es.toList m (seen.push es[i].born)

theorem IterAt.iter {s : St} {r : Nat} {kv : Int × β} {R : List (Int × β)} (h : IterAt s r kv R) : Iter s r R := by
 obtain ⟨hg, bm, es, c, seen, m, i, h1, h2, h3, h4, h5, h6, h7, h8⟩ := h
 exact ⟨hg, .inr ⟨bm, es, c, _, c, m, h3, Nat.le_refl _, h4, h5, h6, h8⟩⟩

theorem Iter.lt {s : St} {r : Nat} {R : List (Int × β)} (h : Iter s r R) : r < s.w.heap.size := by
 obtain ⟨_, ⟨_, a, b, c, h⟩ | ⟨bm, es, c, seen, c0, m, h, _⟩⟩ := h <;> exact (Array.getElem?_eq_some_iff.1 h).1
theorem IterAt.lt {s : St} {r : Nat} {kv : Int × β} {R : List (Int × β)} (h : IterAt s r kv R) : r < s.w.heap.size := h.iter.lt

theorem map_kept {s s' : St} {bm : Nat} {es : Array MapEntry} {c : Nat} (l : Le s s') (h : s.w.heap[bm]? = some (.map es c)) (hg : 0 < s.g bm) : s'.w.heap[bm]? = some (.map es c) ∧ 0 < s'.g bm :=
 ⟨(l.obj bm hg (fun c e z he => by rw [h] at he; cases he)).trans h, Nat.lt_of_lt_of_le hg (l.g bm)⟩

theorem Iter.tch {s s' : St} {r : Nat} {R : List (Int × β)} {M : Nat → Prop} (h : Iter s r R) (t : Tch M s s') (hr : ¬ M r) : Iter s' r R := by
 have hl := h.lt
 obtain ⟨hg, h⟩ := h
 refine ⟨(t.g r hl hr).trans hg, ?_⟩
 rcases h with ⟨e, a, b, c, h⟩ | ⟨bm, es, c, seen, c0, m, h1, h2, h3, h4, h5, h6⟩
 ·exact .inl ⟨e, a, b, c, (t.block r hl hr).trans h⟩
 ·obtain ⟨k1, k2⟩ := map_kept t.le h3 h4
  exact .inr ⟨bm, es, c, seen, c0, m, (t.block r hl hr).trans h1, h2, k1, k2, h5.mono t.le, h6⟩
theorem Iter.ext {s s' : St} {r : Nat} {R : List (Int × β)} (h : Iter s r R) (t : Ext s s') : Iter s' r R := h.tch t (fun x => x)
theorem IterAt.tch {s s' : St} {r : Nat} {kv : Int × β} {R : List (Int × β)} {M : Nat → Prop} (h : IterAt s r kv R) (t : Tch M s s') (hr : ¬ M r) : IterAt s' r kv R := by
 have hl := h.lt
 obtain ⟨hg, bm, es, c, seen, m, i, h1, h2, h3, h4, h5, h6, h7, h8⟩ := h
 obtain ⟨k1, k2⟩ := map_kept t.le h4 h5
 exact ⟨(t.g r hl hr).trans hg, bm, es, c, seen, m, i, h1, h2, (t.block r hl hr).trans h3, k1, k2, h6.mono t.le, h7, h8⟩
theorem IterAt.ext {s s' : St} {r : Nat} {kv : Int × β} {R : List (Int × β)} (h : IterAt s r kv R) (t : Ext s s') : IterAt s' r kv R := h.tch t (fun x => x)

omit [Rep β] in
theorem leftL_nil {es : List MapEntry} {m : List (Int × β)} (h : es.length = m.length) : leftL es m #[] = m := by
 unfold leftL
 rw [List.filter_eq_self.2 (by simp)]
 exact List.map_snd_zip (by omega)

theorem born_nodup {s : St} {es : Array MapEntry} {c : Nat} {m : List (Int × β)} (h : MapRel s es c m) : (es.toList.map (·.born)).Nodup := by
 rw [List.Nodup, List.pairwise_iff_getElem]
 intro i j hi hj hlt e
 simp only [List.length_map, Array.length_toList] at hi hj
 simp only [List.getElem_map, Array.getElem_toList] at e
 have := h.dist i j hi hj e
 omega

theorem leftL_take {s : St} {es : Array MapEntry} {c : Nat} {m : List (Int × β)} {seen : Array Nat} (h : MapRel s es c m) {i : Nat} (hi : i < es.size) (hm : i < m.length) (hs : es[i].born ∉ seen) :
  (leftL es.toList m seen).Perm (m[i] :: leftL es.toList m (seen.push es[i].born)) := by
 unfold leftL
 have hz : (es[i], m[i]) ∈ es.toList.zip m := by
  have : (es.toList.zip m)[i]'(by simp; omega) = (es[i], m[i]) := by simp
  rw [← this]; exact List.getElem_mem _
 have hn : (((es.toList.zip m).filter (fun p => !seen.contains p.1.born)).map (fun p => p.1.born)).Nodup := by
  have h1 : ((es.toList.zip m).map (fun p => p.1.born)).Nodup := by
   have : (es.toList.zip m).map (fun p => p.1.born) = es.toList.map (·.born) := by
    rw [← List.map_fst_zip (l₁ := es.toList) (l₂ := m) (by simp [h.len]), List.map_map]
    congr 1
    rw [List.map_fst_zip (by simp [h.len])]
   rw [this]; exact born_nodup h
  exact List.Sublist.nodup (List.Sublist.map _ List.filter_sublist) h1
 have := perm_take (fun p : MapEntry × (Int × β) => p.1.born) _ (es[i], m[i]) hn (by rw [List.mem_filter]; exact ⟨hz, by simpa using hs⟩)
 have h2 := this.map (·.2)
 simp only [List.map_cons] at h2
 refine h2.trans (List.Perm.cons _ (List.Perm.of_eq ?_))
 rw [List.filter_filter]
 congr 1
 apply List.filter_congr
 intro p _
 rw [Bool.eq_iff_iff]
 simp only [Bool.and_eq_true, bne_iff_ne, ne_eq, Bool.not_eq_true', Array.contains_eq_mem, Array.mem_push, decide_eq_false_iff_not, not_or]
 exact ⟨fun h => ⟨h.2, h.1⟩, fun h => ⟨h.2, h.1⟩⟩
end

section
variable {P : Program} {n : Nat} {Q : Post} {f : Fr} {w : World} {ops : Array Oper} {rest : List Oper} {s : St}
variable {d : Nat} {ty : TypeId} {pos : String} {aft : Array Edge} {β : Type} [Rep β]

theorem L_range {T K E : TypeId} {x : Operand} {v : Value} {m : List (Int × β)} (hT : P.underlying T = some (.map K E)) (hx : ev f x = v) (hM : MapV s v m) (hd : d < n)
  (h : ∀ s' r, Ext s s' → s.w.heap.size ≤ r → Iter s' r m → L P n ops Q rest (upd f d (.pointer (some ⟨r, 0, none⟩))) s'.w) :
  L P n ops Q (⟨some d, .range T x, ty, pos, aft, none⟩ :: rest) f s.w := by
 rcases hM with ⟨rfl, rfl⟩ | ⟨b, es, c, rfl, h1, h2, h3⟩
 ·refine L_val rfl (fun k e => by cases e; exact hd) (w' := s.w.alloc (.mapIter none 0 #[] 0)) (v := .pointer (some ⟨s.w.heap.size, 0, none⟩)) (by simp [execOp, hx, run_range_nilMap _ _ _ _ hT]) ?_
  exact h (s.new (.mapIter none 0 #[] 0) 0) s.w.heap.size (Ext.new _ _ _) (Nat.le_refl _) ⟨if_pos rfl, .inl ⟨rfl, 0, #[], 0, heap_alloc_new s.w _⟩⟩
 ·have hE := Ext.new s (.mapIter (some b) c #[] c) 0
  obtain ⟨k1, k2⟩ := map_kept hE.le h1 h2
  refine L_val rfl (fun k e => by cases e; exact hd) (w' := s.w.alloc (.mapIter (some b) c #[] c)) (v := .pointer (some ⟨s.w.heap.size, 0, none⟩)) (by simp [execOp, hx, run_range_map _ _ _ _ _ _ _ hT h1]) ?_
  exact h (s.new (.mapIter (some b) c #[] c) 0) s.w.heap.size hE (Nat.le_refl _) ⟨if_pos rfl, .inr ⟨b, es, c, #[], c, m, heap_alloc_new s.w _, Nat.le_refl _, k1, k2, h3.mono hE.le, (leftL_nil (by simpa using h3.len)).symm⟩⟩

def St.setObj (s : St) (b : Nat) (o : Obj) : St := ⟨{ s.w with heap := s.w.heap.setIfInBounds b o }, s.g, fun k hk => s.ok k (by simpa using hk)⟩
theorem Tch.setObj {b : Nat} {o o' : Obj} (ho : s.w.heap[b]? = some o) (hg : s.g b = 0) : Tch (fun k => k = b) s (s.setObj b o') := by
 have hoth : ∀ k, k ≠ b → (s.w.heap.setIfInBounds b o')[k]? = s.w.heap[k]? := fun k hk => by rw [Array.getElem?_setIfInBounds, if_neg (fun e => hk e.symm)]
 refine ⟨rfl, rfl, rfl, by simp [St.setObj], fun k _ nk => hoth k nk, fun _ _ _ => rfl, fun _ => Nat.le_refl _, fun k o hlt => ?_, fun k hk _ => ?_⟩
 ·by_cases e : k = b
  ·subst e; rw [hg] at hlt; omega
  ·simp only [World.cell?, St.setObj]; rw [hoth k e]
 ·by_cases e : k = b
  ·subst e; rw [hg] at hk; omega
  ·exact hoth k e

theorem L_next {x : Operand} {r : Nat} {R : List (Int × β)} (hx : ev f x = .pointer (some ⟨r, 0, none⟩)) (hI : Iter s r R) (hd : d < n)
  (h0 : R = [] → L P n ops Q rest (upd f d (.tuple #[.bool false])) s.w)
  (h1 : ∀ kv R' s' u, R.Perm (kv :: R') → Tch (fun k => k = r) s s' → IterAt s' r kv R' → L P n ops Q rest (upd f d (.tuple #[.bool true, .int .i64 kv.1, u])) s'.w) :
  L P n ops Q (⟨some d, .next x false, ty, pos, aft, none⟩ :: rest) f s.w := by
 obtain ⟨hg, ⟨hR, a, b, c, hh⟩ | ⟨bm, es, c, seen, c0, m, hh, hc, hm, hgm, hrel, hR⟩⟩ := hI
 ·refine L_val rfl (fun k e => by cases e; exact hd) (w' := s.w) (v := .tuple #[.bool false]) ?_ (h0 hR)
  have : (Instr.next (.pointer (some ⟨r, 0, none⟩)) false ty).run P s.w = .ok (.tuple #[.bool false]) s.w := by
   simp only [Instr.next, getObj, Sem.run_bind, Sem.run, hh, Result.andThen]; rfl
  simp [execOp, hx, this]
 ·have hold : ∀ x ∈ es.toList, x.born < c := by
   intro e he
   obtain ⟨i, hi, rfl⟩ := List.getElem_of_mem he
   simpa using hrel.born i (by simpa using hi)
  rcases run_next_at (P := P) s.w ty r bm c c0 seen es c hh hm hold hc with ⟨hz, hr⟩ | ⟨e, he, w1, hw1, hr⟩
  ·refine L_val rfl (fun k e => by cases e; exact hd) (w' := s.w) (v := .tuple #[.bool false]) (by simp [execOp, hx, hr]) (h0 ?_)
   rw [hR]
   unfold leftL
   rw [List.map_eq_nil_iff, List.filter_eq_nil_iff]
   intro p hp
   have hp1 : p.1 ∈ es.toList := (List.of_mem_zip hp).1
   unfold leftOf at hz
   have hz' := Array.eq_empty_of_size_eq_zero hz
   rw [Array.filter_eq_empty_iff] at hz'
   exact hz' p.1 (by simpa using hp1)
  ·unfold leftOf at he
   simp only [Array.toList_filter, List.mem_filter] at he
   obtain ⟨hmem, hns⟩ := he
   obtain ⟨i, hi, rfl⟩ := List.getElem_of_mem hmem
   simp only [Array.length_toList] at hi
   simp only [Array.getElem_toList] at hns hr
   have him : i < m.length := by have := hrel.len; omega
   have hkey := (hrel.ent i him hi).1
   obtain ⟨s1, hs1w, hs1E⟩ : ∃ s1 : St, s1.w = w1 ∧ Ext s s1 := by
    rcases hw1 with rfl | rfl
    ·exact ⟨s, rfl, Ext.refl s⟩
    ·exact ⟨s.drew, rfl, Ext.drew s⟩
   have hlt := (Array.getElem?_eq_some_iff.1 hh).1
   have hh1 : s1.w.heap[r]? = some (.mapIter (some bm) c seen c0) := (hs1E.block r hlt (fun x => x)).trans hh
   have hg1 : s1.g r = 0 := (hs1E.g r hlt (fun x => x)).trans hg
   have ht := Tch.setObj (s := s1) (o' := .mapIter (some bm) c (seen.push es[i].born) c) hh1 hg1
   have htt : Tch (fun k => k = r) s (s1.setObj r (.mapIter (some bm) c (seen.push es[i].born) c)) := Tch.trans hs1E.to ht (fun x hx => .inl hx)
   obtain ⟨k1, k2⟩ := map_kept htt.le hm hgm
   refine L_val rfl (fun k e => by cases e; exact hd) (w' := (s1.setObj r (.mapIter (some bm) c (seen.push es[i].born) c)).w) (v := .tuple #[.bool true, .int .i64 m[i].1, es[i].val]) ?_
    (h1 m[i] (leftL es.toList m (seen.push es[i].born)) _ _ ?_ htt ⟨hg1, bm, es, c, seen, m, i, hi, him, ?_, k1, k2, hrel.mono htt.le, rfl, rfl⟩)
   ·rw [hkey] at hr
    simp only [execOp, hx, Sem.run_bind, hr, Result.andThen_ok, Sem.run_pure]
    rw [← hs1w]; rfl
   ·rw [hR]
    exact leftL_take hrel hi him (by simpa using hns)
   ·have hr1 := (Array.getElem?_eq_some_iff.1 hh1).1
    simp [St.setObj, hr1]

theorem L_entry {x : Operand} {r : Nat} {kv : Int × β} {R : List (Int × β)} (hx : ev f x = .pointer (some ⟨r, 0, none⟩)) (hI : IterAt s r kv R) (hd : d < n)
  (h : ∀ v, V s v kv.2 → L P n ops Q rest (upd f d (.tuple #[.int .i64 kv.1, v])) s.w) : L P n ops Q (⟨some d, .entry x, ty, pos, aft, none⟩ :: rest) f s.w := by
 obtain ⟨hg, bm, es, c, seen, m, i, hi, him, hh, hm, hgm, hrel, rfl, hR⟩ := hI
 have hr := run_entry_at (P := P) s.w r bm c seen es c es[i] hh hm (by simp) (born_nodup hrel)
 obtain ⟨hk, hv⟩ := hrel.ent i him hi
 rw [hk] at hr
 refine L_val rfl (fun k e => by cases e; exact hd) (w' := s.w) (v := .tuple #[.int .i64 m[i].1, es[i].val]) (by simp [execOp, hx, hr]) (h _ hv)
end

/-! The pure side. -/
inductive LR (σ β ρ : Type) where
 | next (s : σ)
 | brk (b : β)
 | ret (r : ρ)
def foldE {κ σ β ρ : Type} (body : κ → σ → Option (LR σ β ρ)) (fin : σ → β) : List κ → σ → Option (Sum β ρ)
 | [], s => some (.inl (fin s))
 | k :: l, s => (body k s).bind fun x => match x with
  | .next s' => foldE body fin l s'
  | .brk b => some (.inl b)
  | .ret r => some (.inr r)
noncomputable def anyPerm {κ γ : Type} (g : List κ → Option γ) (m : List κ) : Option γ := by
 classical exact if h : ∃ r, ∀ l : List κ, l.Perm m → g l = some r then some (Classical.choose h) else none
end Go.Arm
namespace Go.Arm
open Go
theorem cut_in {α : Type} {xs ys : List α} {hi : Int} (h : cut xs 0 hi = some ys) : 0 ≤ hi ∧ hi ≤ xs.length := by
 unfold cut at h
 split at h
 ·rename_i hb; exact hb.2
 ·cases h
def cutV (b len sz : Nat) (hi : Int) : Value := .slice (if len = (0 : Int).toNat then some ⟨b, 0, none⟩ else (some (⟨b, 0, none⟩ : Addr)).map (·.add ((0 : Int).toNat * sz))) (hi.toNat - (0 : Int).toNat) (len - (0 : Int).toNat)
theorem V_cutA {α : Type} [Rep α] {s : St} {b len : Nat} {xs ys : List α} {hi : Int} (h : V s (.slice (some ⟨b, 0, none⟩) len len) xs) (hc : cut xs 0 hi = some ys) : V s (cutV b len (Rep.size α) hi) ys := by
 obtain ⟨base, cap, e, _⟩ := h.slice
 cases e
 exact (V_cut h hc).1
section
variable {P : Program} {n : Nat} {Q : Post} {f : Fr} {w : World} {ops : Array Oper} {rest : List Oper}
variable {d : Nat} {ty : TypeId} {pos : String} {aft : Array Edge}
theorem L_sliceA_h {T E : TypeId} {x h : Operand} {b len sz : Nat} {hi : Int} (hT : P.underlying T = some (.slice E)) (hE : (P.info? E).map (·.size) = some sz)
  (hx : ev f x = .slice (some ⟨b, 0, none⟩) len len) (hh : ev f h = .int .i64 hi) (h0 : 0 ≤ hi) (h1 : hi ≤ len) (hd : d < n)
  (hk : L P n ops Q rest (upd f d (cutV b len sz hi)) w) : L P n ops Q (⟨some d, .slice T x none (some h) none, ty, pos, aft, none⟩ :: rest) f w := by
 refine L_val rfl (fun k e => by cases e; exact hd) ?_ hk
 simp [execOp, Instr.sliceAt, Instr.slice, Instr.sliceBounds, Instr.sliceBound, run_underlying hT, hx, hh, asIntOf, run_sizeOf hE, h1, h0, cutV]
end
end Go.Arm
namespace Go.Arm
def foldK {κ σ β ρ : Type} (body : κ → σ → Option (LR σ β ρ)) (fin : σ → β) (x : LR σ β ρ) (l : List κ) : Option (Sum β ρ) :=
 match x with
 | .next s' => foldE body fin l s'
 | .brk b => some (.inl b)
 | .ret r => some (.inr r)
theorem foldE_cons {κ σ β ρ : Type} {body : κ → σ → Option (LR σ β ρ)} {fin : σ → β} {R R' : List κ} {kv : κ} {q : σ} {o : Sum β ρ} (h : ∀ l : List κ, l.Perm R → foldE body fin l q = some o) (hP : R.Perm (kv :: R')) :
  ∃ x, body kv q = some x ∧ ∀ l : List κ, l.Perm R' → foldK body fin x l = some o := by
 have h0 := h (kv :: R') hP.symm
 unfold foldE at h0
 obtain ⟨x, hx, _⟩ := bind_some h0
 refine ⟨x, hx, fun l hl => ?_⟩
 have h1 := h (kv :: l) ((hl.cons kv).trans hP.symm)
 unfold foldE at h1
 rw [hx] at h1
 exact h1
end Go.Arm
