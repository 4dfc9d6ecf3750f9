/- Plain laws. -/
import Derived.Test.YtmojccilbgjngaaPl3
namespace Go.Arm
open Go

theorem snocInd {α : Type} {motive : List α → Prop} (nil : motive []) (append_singleton : ∀ (l : List α) (a : α), motive l → motive (l ++ [a])) (l : List α) : motive l := by
 rw [← List.reverse_reverse l]
 induction l.reverse with
 | nil => exact nil
 | cons a t ih => rw [List.reverse_cons]; exact append_singleton _ _ ih
def okR (m : Deed) (rs : List Deed) (s : Int) (out : List Int) (k : Nat) : Bool :=
 match rs[k]? with
 | some g => receivesS g && decide (g.Peer = s) && !decide ((k : Int) ∈ out) && fitsS m g
 | none => false
def pickI (m : Deed) (rs : List Deed) (s : Int) (out : List Int) : Int :=
 match (List.range rs.length).find? (okR m rs s out) with
 | some k => (k : Int)
 | none => -1
theorem pick_spec (m : Deed) (rs : List Deed) (s : Int) (out : List Int) :
  (∃ k : Nat, pickI m rs s out = (k : Int) ∧ k < rs.length ∧ okR m rs s out k = true ∧ ∀ j, j < k → okR m rs s out j = false) ∨ (pickI m rs s out = -1 ∧ ∀ j, j < rs.length → okR m rs s out j = false) := by
 unfold pickI
 cases h : (List.range rs.length).find? (okR m rs s out) with
 | none =>
  right
  rw [List.find?_eq_none] at h
  exact ⟨rfl, fun j hj => by have := h j (List.mem_range.2 hj); simpa using this⟩
 | some k =>
  left
  have h1 := List.find?_some h
  have h2 := List.mem_range.1 (List.mem_of_find?_eq_some h)
  rw [List.find?_range_eq_some] at h
  exact ⟨k, rfl, h2, h1, fun j hj => by have := h.2.2 j hj; simpa using this⟩
theorem okR_lt {m : Deed} {rs : List Deed} {s : Int} {out : List Int} {k : Nat} (h : okR m rs s out k = true) : k < rs.length := by
 unfold okR at h
 split at h
 ·exact (List.getElem?_eq_some_iff.1 ‹_›).1
 ·cases h
theorem pick_some {m : Deed} {rs : List Deed} {s : Int} {out : List Int} {k : Nat} (h1 : okR m rs s out k = true) (h2 : ∀ j, j < k → okR m rs s out j = false) : pickI m rs s out = (k : Int) := by
 rcases pick_spec m rs s out with ⟨k', e, _, h3, h4⟩ | ⟨_, h3⟩
 ·rw [e]
  rcases Nat.lt_trichotomy k k' with h | h | h
  ·rw [h4 k h] at h1; cases h1
  ·rw [h]
  ·rw [h2 k' h] at h3; cases h3
 ·rw [h3 k (okR_lt h1)] at h1; cases h1
theorem pick_none {m : Deed} {rs : List Deed} {s : Int} {out : List Int} (h2 : ∀ j, j < rs.length → okR m rs s out j = false) : pickI m rs s out = -1 := by
 rcases pick_spec m rs s out with ⟨k', e, h5, h3, h4⟩ | ⟨e, h3⟩
 ·rw [h2 k' h5] at h3; cases h3
 ·exact e

def toS (d : Int) (m : Deed) : Bool := sendsS m && decide (m.Peer = d)
def stepP (rs : List Deed) (s d : Int) (out : List Int) (m : Deed) : List Int := out ++ [if toS d m then pickI m rs s out else -1]
def partS (rs : List Deed) (s d : Int) (ms : List Deed) : List Int := ms.foldl (stepP rs s d) []
theorem partS_snoc (rs : List Deed) (s d : Int) (ms : List Deed) (m : Deed) : partS rs s d (ms ++ [m]) = partS rs s d ms ++ [if toS d m then pickI m rs s (partS rs s d ms) else -1] := by
 unfold partS; rw [List.foldl_append]; rfl
theorem partS_len (rs : List Deed) (s d : Int) (ms : List Deed) : (partS rs s d ms).length = ms.length := by
 induction ms using snocInd with
 | nil => rfl
 | append_singleton ms m ih => rw [partS_snoc]; simp [ih]
theorem partS_take (rs : List Deed) (s d : Int) (ms : List Deed) (k : Nat) : partS rs s d (ms.take k) = (partS rs s d ms).take k := by
 induction ms using snocInd with
 | nil => simp [partS]
 | append_singleton ms m ih =>
  have hl := partS_len rs s d ms
  rw [partS_snoc]
  by_cases hk : k ≤ ms.length
  ·rw [List.take_append_of_le_length hk, List.take_append_of_le_length (by omega), ih]
  ·rw [List.take_of_length_le (by simp; omega), List.take_of_length_le (by simp; omega), partS_snoc]
def More (n : Nat) (a b : List Int) : Prop := a.length = b.length ∧ ∀ (i : Nat) (x y : Int), a[i]? = some x → b[i]? = some y → x = y ∨ (x = -1 ∧ y = (n : Int))
theorem More.mem {n : Nat} {a b : List Int} (h : More n a b) {k : Nat} (hk : k < n) : (k : Int) ∈ a ↔ (k : Int) ∈ b := by
 constructor
 ·intro hm
  obtain ⟨i, hi⟩ := List.getElem?_of_mem hm
  have hb : i < b.length := by rw [← h.1]; exact (List.getElem?_eq_some_iff.1 hi).1
  rcases h.2 i _ _ hi (List.getElem?_eq_getElem hb) with e | ⟨e, _⟩
  ·rw [e]; exact List.getElem_mem hb
  ·omega
 ·intro hm
  obtain ⟨i, hi⟩ := List.getElem?_of_mem hm
  have hb : i < a.length := by rw [h.1]; exact (List.getElem?_eq_some_iff.1 hi).1
  rcases h.2 i _ _ (List.getElem?_eq_getElem hb) hi with e | ⟨_, e⟩
  ·rw [← e]; exact List.getElem_mem hb
  ·omega
theorem okR_more {m : Deed} {rs : List Deed} {r : Deed} {s : Int} {a b : List Int} (h : More rs.length a b) {k : Nat} (hk : k < rs.length) : okR m (rs ++ [r]) s b k = okR m rs s a k := by
 unfold okR
 rw [List.getElem?_append_left hk, List.getElem?_eq_getElem hk]
 simp only [h.mem hk]
theorem partS_more (rs : List Deed) (r : Deed) (s d : Int) (ms : List Deed) : More rs.length (partS rs s d ms) (partS (rs ++ [r]) s d ms) := by
 induction ms using snocInd with
 | nil => exact ⟨rfl, fun i x y h => by simp [partS] at h⟩
 | append_singleton ms m ih =>
  have l1 := partS_len rs s d ms
  have l2 := partS_len (rs ++ [r]) s d ms
  rw [partS_snoc, partS_snoc]
  refine ⟨by simp [l1, l2], fun i x y hx hy => ?_⟩
  rcases Nat.lt_trichotomy i ms.length with hi | hi | hi
  ·rw [List.getElem?_append_left (by omega)] at hx hy
   exact ih.2 i x y hx hy
  ·rw [List.getElem?_append_right (by omega), l1, show i - ms.length = 0 by omega] at hx
   rw [List.getElem?_append_right (by omega), l2, show i - ms.length = 0 by omega] at hy
   simp only [List.getElem?_cons_zero, Option.some.injEq] at hx hy
   subst hx hy
   cases toS d m
   ·left; rfl
   ·simp only [↓reduceIte]
    rcases pick_spec m rs s (partS rs s d ms) with ⟨k, e, hk, h3, h4⟩ | ⟨e, h3⟩
    ·left
     rw [e]
     exact (pick_some (by rw [okR_more ih hk]; exact h3) (fun j hj => by rw [okR_more ih (by omega)]; exact h4 j hj)).symm
    ·rw [e]
     cases hr : okR m (rs ++ [r]) s (partS (rs ++ [r]) s d ms) rs.length
     ·left
      refine (pick_none fun j hj => ?_).symm
      rcases Nat.lt_or_ge j rs.length with hj' | hj'
      ·rw [okR_more ih hj']; exact h3 j hj'
      ·rw [show j = rs.length by simp at hj; omega]; exact hr
     ·right
      exact ⟨rfl, pick_some hr (fun j hj => by rw [okR_more ih hj]; exact h3 j hj)⟩
  ·rw [List.getElem?_eq_none (by simp; omega)] at hx; cases hx
theorem partS_keep (s d : Int) (ms rs : List Deed) (t : List Deed) : ∀ {i : Nat} {x : Int}, 0 ≤ x → (partS rs s d ms)[i]? = some x → (partS (rs ++ t) s d ms)[i]? = some x := by
 induction t using snocInd with
 | nil => intro i x _ h; simpa using h
 | append_singleton t r ih =>
  intro i x h0 h
  have h1 := ih h0 h
  have hm := partS_more (rs ++ t) r s d ms
  rw [← List.append_assoc]
  have hb : i < (partS (rs ++ t ++ [r]) s d ms).length := by rw [← hm.1]; exact (List.getElem?_eq_some_iff.1 h1).1
  rcases hm.2 i _ _ h1 (List.getElem?_eq_getElem hb) with e | ⟨e, _⟩
  ·rw [List.getElem?_eq_getElem hb, e]
  ·omega
theorem partS_grow (s d : Int) (ms rs : List Deed) {j j' k k' : Nat} (hj : j ≤ j') (hk : k ≤ k') {i : Nat} {x : Int} (h0 : 0 ≤ x) (h : (partS (rs.take k) s d (ms.take j))[i]? = some x) : (partS (rs.take k') s d (ms.take j'))[i]? = some x := by
 have e1 : rs.take k' = rs.take k ++ (rs.take k').drop k := by
  have := (List.take_append_drop k (rs.take k')).symm
  rw [List.take_take, Nat.min_eq_left hk] at this
  exact this
 have h1 := partS_keep s d (ms.take j) (rs.take k) ((rs.take k').drop k) h0 h
 rw [← e1] at h1
 have e2 : ms.take j = (ms.take j').take j := by rw [List.take_take, Nat.min_eq_left hj]
 rw [e2, partS_take, List.getElem?_take] at h1
 split at h1
 ·exact h1
 ·cases h1
theorem partS_val (rs : List Deed) (s d : Int) (ms : List Deed) : ∀ {i : Nat} {x : Int}, (partS rs s d ms)[i]? = some x → x = -1 ∨ ∃ (k : Nat), x = (k : Int) ∧ k < rs.length ∧ ∃ m, ms[i]? = some m ∧ toS d m = true := by
 induction ms using snocInd with
 | nil => intro i x h; simp [partS] at h
 | append_singleton ms m ih =>
  intro i x h
  have l1 := partS_len rs s d ms
  rw [partS_snoc] at h
  rcases Nat.lt_trichotomy i ms.length with hi | hi | hi
  ·rw [List.getElem?_append_left (by omega)] at h
   rcases ih h with e | ⟨k, e, hk, m', hm', ht⟩
   ·exact Or.inl e
   ·exact Or.inr ⟨k, e, hk, m', by rw [List.getElem?_append_left hi]; exact hm', ht⟩
  ·rw [List.getElem?_append_right (by omega), l1, show i - ms.length = 0 by omega] at h
   simp only [List.getElem?_cons_zero, Option.some.injEq] at h
   subst h
   cases ht : toS d m
   ·left; rfl
   ·simp only [↓reduceIte]
    rcases pick_spec m rs s (partS rs s d ms) with ⟨k, e, hk, _⟩ | ⟨e, _⟩
    ·right; exact ⟨k, e, hk, m, by rw [List.getElem?_append_right (by omega), show i - ms.length = 0 by omega]; rfl, ht⟩
    ·left; exact e
  ·rw [List.getElem?_eq_none (by simp; omega)] at h; cases h
end Go.Arm
