/- Slices of one's own whose elements are set. -/
import Derived.Test.YtmojccilbgjngaaCoreJ
namespace Go.Arm
open Go Go.RowKit

theorem splice_get? {C ks : List Value} {o p : Nat} (h : o + ks.length ≤ C.length) : (splice C o ks)[p]? = if o ≤ p ∧ p < o + ks.length then ks[p - o]? else C[p]? := by
 unfold splice
 by_cases h1 : p < o
 ·rw [List.append_assoc, List.getElem?_append_left (by simp; omega), List.getElem?_take, if_pos h1, if_neg (by omega)]
 ·by_cases h2 : p < o + ks.length
  ·rw [if_pos (by omega), List.append_assoc, List.getElem?_append_right (by simp; omega), List.length_take, Nat.min_eq_left (by omega), List.getElem?_append_left (by omega)]
  ·rw [if_neg (by omega), List.getElem?_append_right (by simp; omega), List.getElem?_drop]
   congr 1
   simp only [List.length_append, List.length_take]
   rw [Nat.min_eq_left (by omega)]; omega

theorem drop_take_field {C ks : List Value} {sz j i off : Nat} (hf : off + ks.length ≤ sz) (hj : j * sz + sz ≤ C.length) (hi : i * sz + sz ≤ C.length) :
  ((splice C (j * sz + off) ks).drop (i * sz)).take sz = if i = j then splice ((C.drop (j * sz)).take sz) off ks else (C.drop (i * sz)).take sz := by
 apply List.ext_getElem?
 intro q
 rw [List.getElem?_take, List.getElem?_drop, splice_get? (by omega)]
 by_cases hij : i = j
 ·subst hij
  rw [if_pos rfl, splice_get? (by simp; omega), List.getElem?_take, List.getElem?_drop]
  by_cases hq : q < sz
  ·simp only [if_pos hq]
   by_cases h1 : off ≤ q ∧ q < off + ks.length
   ·rw [if_pos (by omega), if_pos h1]; congr 1; omega
   ·rw [if_neg (by omega), if_neg h1]
  ·simp only [if_neg hq]
   rw [if_neg (by omega)]
 ·rw [if_neg hij, List.getElem?_take, List.getElem?_drop]
  by_cases hq : q < sz
  ·simp only [if_pos hq]
   rw [if_neg]
   rintro ⟨h1, h2⟩
   rcases Nat.lt_or_gt_of_ne hij with h | h
   ·have : (i + 1) * sz ≤ j * sz := Nat.mul_le_mul_right _ h
    rw [Nat.succ_mul] at this; omega
   ·have : (j + 1) * sz ≤ i * sz := Nat.mul_le_mul_right _ h
    rw [Nat.succ_mul] at this; omega
  ·simp only [if_neg hq]

def Flat (α : Type) [Rep α] : Prop := ∀ s s' cs (x : α), Rep.rel s cs x → Rep.rel s' cs x

def ArrS {α : Type} [Rep α] (s : St) (B : Nat) (E : TypeId) (v : Value) (xs : List α) : Prop :=
 (v = .slice none 0 0 ∧ xs = []) ∨
 ∃ b cap C, v = .slice (some ⟨b, 0, none⟩) xs.length cap ∧ B ≤ b ∧ xs.length ≤ cap ∧ Mut s b E C ∧ xs.length * Rep.size α ≤ C.length ∧
  ∀ i (h : i < xs.length), Rep.rel s ((C.drop (i * Rep.size α)).take (Rep.size α)) xs[i]

section
variable {α β : Type} [Rep α] [Rep β] {s s' sa s1 s2 : St} {B : Nat} {E : TypeId} {v : Value} {xs : List α} {M : Nat → Prop}
theorem ArrS.lt {b : Nat} (h : ArrS s B E v xs) (e : own v b) : B ≤ b ∧ b < s.w.heap.size := by
 rcases h with ⟨rfl, rfl⟩ | ⟨b', cap, C, rfl, hb, _, hm, _⟩
 ·cases e
 ·cases e; exact ⟨hb, hm.lt⟩
theorem ArrS.tch (h : ArrS s B E v xs) (t : Tch M s s') (hn : ∀ b, own v b → ¬ M b) : ArrS s' B E v xs := by
 rcases h with h | ⟨b, cap, C, rfl, hb, hc, hm, hl, hr⟩
 ·exact .inl h
 ·exact .inr ⟨b, cap, C, rfl, hb, hc, hm.tch t (hn b rfl), hl, fun i hi => Rep.mono t.le (hr i hi)⟩
theorem ArrS.ext (h : ArrS s B E v xs) (t : Ext s s') : ArrS s' B E v xs := h.tch t (fun _ _ x => x)
theorem ArrS.base {B' : Nat} (h : ArrS s B E v xs) (hB : B' ≤ B) : ArrS s B' E v xs := by
 rcases h with h | ⟨b, cap, C, rfl, hb, h⟩
 ·exact .inl h
 ·exact .inr ⟨b, cap, C, rfl, Nat.le_trans hB hb, h⟩
theorem ArrS.freeze (h : ArrS s B E v xs) : ∃ s', s'.w = s.w ∧ Tch (own v) s s' ∧ V s' v xs := by
 rcases h with ⟨rfl, rfl⟩ | ⟨b, cap, C, rfl, hb, hc, hm, hl, hr⟩
 ·exact ⟨s, rfl, Tch.refl _ _, Vnil⟩
 ·obtain ⟨s', e, t, hg, ho⟩ := hm.claim C.length
  refine ⟨s', e, t.mono (fun x hx => by subst hx; rfl), Vslice rfl hc (fun _ => ⟨b, 0, rfl, RowAt.of_cells (cells := C.take (xs.length * Rep.size α)) ?_ (by simp; omega) (fun i hi => ?_)⟩)⟩
  ·intro j hj
   simp only [List.length_take] at hj
   rw [e, hg, Nat.zero_add, hm.cell]
   refine ⟨?_, by omega⟩
   rw [List.getElem_take, List.getElem?_eq_getElem]
  ·have hle : (i + 1) * Rep.size α ≤ xs.length * Rep.size α := Nat.mul_le_mul_right _ hi
   rw [Nat.succ_mul] at hle
   have hd : ((C.take (xs.length * Rep.size α)).drop (i * Rep.size α)).take (Rep.size α) = (C.drop (i * Rep.size α)).take (Rep.size α) := by
    apply List.ext_getElem?
    intro q
    simp only [List.getElem?_take, List.getElem?_drop]
    by_cases hq : q < Rep.size α
    ·rw [if_pos hq, if_pos hq, if_pos (by omega)]
    ·rw [if_neg hq, if_neg hq]
   rw [hd]
   exact Rep.mono t.le (hr i hi)

theorem Bld.rebase {B' : Nat} (h : Bld s B E v xs) (hb : ∀ b, own v b → B' ≤ b) : Bld s B' E v xs := by
 rcases h with h | ⟨b, cap, cur, rfl, _, h⟩
 ·exact .inl h
 ·exact .inr ⟨b, cap, cur, rfl, hb b rfl, h⟩

theorem Bld.thaw (hF : Flat α) (hE : Ext sa s) (h : Bld s sa.w.heap.size E v xs) : ∃ s', s'.w = s.w ∧ Ext sa s' ∧ ArrS s' sa.w.heap.size E v xs := by
 rcases h with ⟨rfl, rfl⟩ | ⟨b, cap, cur, rfl, hb, hh, hxc, hcm, hcs, hg, hrow⟩
 ·exact ⟨s, rfl, hE, .inl ⟨rfl, rfl⟩⟩
 ·let s' : St := ⟨s.w, fun k => if k = b then 0 else s.g k, fun k hk => by
   show (if k = b then 0 else s.g k) = 0
   split
   ·rfl
   ·exact s.ok k hk⟩
  have hEx : Ext sa s' := by
   refine ⟨hE.os, hE.tape, hE.output, hE.size, fun k hk hm => hE.block k hk hm, fun k hk hm => ?_, le_of_blocks (fun k hk => hE.block k hk (fun x => x)) (fun k hk => ?_)⟩
   ·show (if k = b then 0 else s.g k) = sa.g k
    rw [if_neg (by omega)]; exact hE.g k hk hm
   ·show sa.g k ≤ if k = b then 0 else s.g k
    rw [if_neg (by omega)]; exact Nat.le_of_eq (hE.g k hk (fun x => x)).symm
  refine ⟨s', rfl, hEx, .inr ⟨b, cap, cur.toList, rfl, hb, hxc, ⟨by simpa using hh, if_pos rfl⟩, ?_, fun i hi => ?_⟩⟩
  ·simp only [Array.length_toList, hcs]; exact Nat.mul_le_mul_right _ hxc
  ·obtain ⟨cs, h1, h2⟩ := hrow i hi
   have hlen := Rep.len h1
   have hle : (i + 1) * Rep.size α ≤ cap * Rep.size α := Nat.mul_le_mul_right _ (by omega)
   rw [Nat.succ_mul] at hle
   have : (cur.toList.drop (i * Rep.size α)).take (Rep.size α) = cs := by
    apply List.ext_getElem
    ·simp; omega
    ·intro j g1 g2
     have := (h2 j g2).1
     simp only [World.cell?, hh, Nat.zero_add] at this
     simp only [List.getElem_take, List.getElem_drop, Array.getElem_toList]
     have g3 : i * Rep.size α + j < cur.size := by omega
     simp [Array.getElem?_eq_getElem g3] at this
     exact this
   rw [this]
   exact hF _ _ _ _ h1
theorem thaw2 {v1 : Value} {ys zs : List α} (hF : Flat α) (e : Ext sa s1) (hb : Bld s1 sa.w.heap.size E v1 ys) (g : Grows s1 B E v1 v zs s2) : ∃ s', s'.w = s2.w ∧ Ext sa s' ∧ ArrS s' sa.w.heap.size E v zs :=
 Bld.thaw hF (Tch.trans e g.tch (fun k hk => .inr (hb.lt hk).1)) (g.bld.rebase (fun b hv => (g.own b hv).elim (fun h => (hb.lt h).1) (fun h => Nat.le_trans e.size h)))
end

def elemP (v : Value) (j : Int) (sz off : Nat) : Value := match v with | .slice (some a) _ _ => .pointer (some ⟨a.block, j.toNat * sz + off, none⟩) | _ => undef

section
variable {P : Program} {n : Nat} {Q : Post} {f : Fr} {w : World} {ops : Array Oper} {rest : List Oper} {s : St}
variable {d : Nat} {ty : TypeId} {pos : String} {aft : Array Edge} {α β : Type} [Rep α] [Rep β] {B : Nat} {E : TypeId} {v : Value} {xs : List α} {j : Int} {y : α}

theorem ArrS.at (h : ArrS s B E v xs) (hy : idx xs j = some y) : ∃ b cap C, v = .slice (some ⟨b, 0, none⟩) xs.length cap ∧ Mut s b E C ∧ j.toNat * Rep.size α + Rep.size α ≤ C.length ∧
  Rep.rel s ((C.drop (j.toNat * Rep.size α)).take (Rep.size α)) y := by
 obtain ⟨h0, h1, h2⟩ := idx_some hy
 rcases h with ⟨rfl, rfl⟩ | ⟨b, cap, C, rfl, hb, hc, hm, hl, hr⟩
 ·simp at h2
 ·obtain ⟨hlt, he⟩ := List.getElem?_eq_some_iff.1 h2
  have hle : (j.toNat + 1) * Rep.size α ≤ xs.length * Rep.size α := Nat.mul_le_mul_right _ hlt
  rw [Nat.succ_mul] at hle
  exact ⟨b, cap, C, rfl, hm, by omega, by have := hr _ hlt; rw [he] at this; exact this⟩

theorem L_indexS {T : TypeId} {x i : Operand} {k : IntKind} (hT : P.underlying T = some (.slice E)) (hE : (P.info? E).map (·.size) = some (Rep.size α)) (hx : ev f x = v) (hi : ev f i = .int k j) (hA : ArrS s B E v xs) (hy : idx xs j = some y) (hd : d < n)
  (h : L P n ops Q rest (upd f d (elemP v j (Rep.size α) 0)) w) : L P n ops Q (⟨some d, .indexAddr T x i, ty, pos, aft, none⟩ :: rest) f w := by
 obtain ⟨b, cap, C, rfl, _⟩ := hA.at hy
 exact L_indexA hT hE hx hi (idx_some hy).1 (idx_some hy).2.1 hd h

theorem L_fieldS {sz0 : Nat} {T : TypeId} {k off sz : Nat} {ft : TypeId} {o : Operand} (hT : fieldAt P T k = some (off, ft, sz + 1)) (hx : ev f o = elemP v j sz0 0) (hA : ArrS s B E v xs) (hy : idx xs j = some y) (hs : sz0 = Rep.size α) (hd : d < n)
  (h : L P n ops Q rest (upd f d (elemP v j (Rep.size α) off)) w) : L P n ops Q (⟨some d, .fieldAddr T o k, ty, pos, aft, none⟩ :: rest) f w := by
 subst hs
 obtain ⟨b, cap, C, rfl, _⟩ := hA.at hy
 exact L_val rfl (fun k e => by cases e; exact hd) (run_fieldAddr hT hx) h

theorem L_loadS {sz0 : Nat} {T : TypeId} {o : Operand} (hT : Ty P T α) (hx : ev f o = elemP v j sz0 0) (hA : ArrS s B E v xs) (hy : idx xs j = some y) (hs : sz0 = Rep.size α) (hd : d < n)
  (h : ∀ u, V s u y → L P n ops Q rest (upd f d u) s.w) : L P n ops Q (⟨some d, .load T o, ty, pos, aft, none⟩ :: rest) f s.w := by
 subst hs
 obtain ⟨b, cap, C, rfl, hm, hle, hrel⟩ := hA.at hy
 obtain ⟨s', e, t, hg, ho⟩ := hm.claim C.length
 have hat : AtRO s' b (j.toNat * Rep.size α + 0) ((C.drop (j.toNat * Rep.size α)).take (Rep.size α)) := by
  intro i hi
  simp only [List.length_take, List.length_drop] at hi
  refine ⟨?_, by rw [hg]; omega⟩
  rw [e, hm.cell, List.getElem_take, List.getElem_drop, List.getElem?_eq_getElem (by omega)]
  simp
 have := run_load_ro (P := P) hT (Rep.mono t.le hrel) hat
 rw [e, Nat.add_zero] at this
 refine L_val (v := pack (Rep.agg α) ((C.drop (j.toNat * Rep.size α)).take (Rep.size α))) rfl (fun k e => by cases e; exact hd) ?_ (h _ ⟨_, hrel, rfl⟩)
 simp only [elemP] at hx
 simp [execOp, Instr.loadAt, Instr.sureAddr, hx, this]

theorem L_loadS_field {sz0 : Nat} {T : TypeId} {o : Operand} {proj : α → β} {off : Nat} (hT : Ty P T β) (hF : FieldOf proj off) (hx : ev f o = elemP v j sz0 off) (hA : ArrS s B E v xs) (hy : idx xs j = some y) (hs : sz0 = Rep.size α) (hd : d < n)
  (h : ∀ u, V s u (proj y) → L P n ops Q rest (upd f d u) s.w) : L P n ops Q (⟨some d, .load T o, ty, pos, aft, none⟩ :: rest) f s.w := by
 subst hs
 obtain ⟨b, cap, C, rfl, hm, hle, hrel⟩ := hA.at hy
 obtain ⟨s', e, t, hg, ho⟩ := hm.claim C.length
 obtain ⟨ks, hk, hget⟩ := hF s _ _ hrel
 have hat : AtRO s' b (j.toNat * Rep.size α + off) ks := by
  intro i hi
  have h1 := hget i hi
  rw [List.getElem?_take] at h1
  split at h1
  ·rw [List.getElem?_drop] at h1
   refine ⟨?_, by rw [hg]; omega⟩
   rw [e, hm.cell, Nat.add_assoc]; exact h1
  ·cases h1
 have := run_load_ro (P := P) hT (Rep.mono t.le hk) hat
 rw [e] at this
 refine L_val (v := pack (Rep.agg β) ks) rfl (fun k e => by cases e; exact hd) ?_ (h _ ⟨_, hk, rfl⟩)
 simp only [elemP] at hx
 simp [execOp, Instr.loadAt, Instr.sureAddr, hx, this]

theorem L_storeS_field {sz0 : Nat} {T : TypeId} {x a : Operand} {u : Value} {z : β} {set : α → β → α} {off : Nat} (hT : Ty P T β) (hF : FieldSet set off) (ha : ev f a = elemP v j sz0 off) (hx : ev f x = u) (hV : V s u z) (hA : ArrS s B E v xs) (hy : idx xs j = some y) (hs : sz0 = Rep.size α)
  (h : ∀ s', Tch (own v) s s' → ArrS s' B E v (xs.set j.toNat (set y z)) → L P n ops Q rest f s'.w) :
  L P n ops Q (⟨none, .store T a x, ty, pos, aft, none⟩ :: rest) f s.w := by
 subst hs
 obtain ⟨h0, h1, h2⟩ := idx_some hy
 obtain ⟨hlt, he⟩ := List.getElem?_eq_some_iff.1 h2
 rcases hA with ⟨rfl, rfl⟩ | ⟨b, cap, C, rfl, hb, hc, hm, hl, hr⟩
 ·simp at h2
 have hle : (j.toNat + 1) * Rep.size α ≤ xs.length * Rep.size α := Nat.mul_le_mul_right _ hlt
 rw [Nat.succ_mul] at hle
 have hrel := hr _ hlt
 rw [he] at hrel
 obtain ⟨ks, hk, hcs, hlen, hpack⟩ := rel_cells hV
 obtain ⟨hset, hfit⟩ := hF s _ ks y z hrel hk
 have hlr := Rep.len hrel
 rw [hlr] at hfit
 obtain ⟨s', hr', ht, hm'⟩ := hm.store (P := P) (ks := ks) (j.toNat * Rep.size α + off) (by omega) (Rep.one hk)
 have hsl : (splice C (j.toNat * Rep.size α + off) ks).length = C.length := by simp [splice]; omega
 refine L_skip rfl rfl (w' := s'.w) ?_ (h s' (ht.mono (fun x hx => by subst hx; rfl)) (.inr ⟨b, cap, _, by simp, hb, by simpa using hc, hm', by rw [hsl]; simpa using hl, fun i hi => ?_⟩))
 ·have hsz : u.cells.size = Rep.size β := by rw [← hlen, ← hcs]; simp
  simp only [elemP] at ha
  simp only [execOp, Instr.storeAt, Instr.sureAddr, ha, hx, storeVar, Sem.run_bind, Sem.run_pure, Result.andThen_ok, run_sizeOf hT.inf, hsz, hcs]
  simp [hr']
 ·simp only [List.length_set] at hi
  have hi1 : (i + 1) * Rep.size α ≤ xs.length * Rep.size α := Nat.mul_le_mul_right _ hi
  rw [Nat.succ_mul] at hi1
  rw [drop_take_field hfit (by omega) (by omega), List.getElem_set]
  by_cases hij : i = j.toNat
  ·rw [if_pos hij, if_pos hij.symm]; exact Rep.mono ht.le hset
  ·rw [if_neg hij, if_neg (fun h => hij h.symm)]; exact Rep.mono ht.le (hr i hi)

theorem L_lenS {T E' : TypeId} {x : Operand} (hT : P.underlying T = some (.slice E')) (hx : ev f x = v) (hA : ArrS s B E v xs) (hd : d < n)
  (h : L P n ops Q rest (upd f d (.int .i64 xs.length)) w) : L P n ops Q (⟨some d, .call ⟨.builtin .len, #[x], #[T]⟩, ty, pos, aft, none⟩ :: rest) f w := by
 rcases hA with ⟨rfl, rfl⟩ | ⟨b, cap, C, rfl, _⟩
 ·exact L_lenA hT hx hd h
 ·exact L_lenA hT hx hd h
end
end Go.Arm
