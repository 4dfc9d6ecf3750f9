/- Plain laws. -/
import Derived.Test.YtmojccilbgjngaaPureT4
namespace Go.Arm
open Go

theorem idx_nat {α : Type} (xs : List α) (k : Nat) : idx xs (k : Int) = xs[k]? := by
 unfold idx; rw [if_pos (by omega)]; simp
theorem inR_small {x : Int} (h0 : -1000000 ≤ x) (h1 : x ≤ 1000000) : inR x := ⟨by omega, by omega⟩
theorem chk_t {α : Type} {p : Prop} {_ : Decidable p} {k : Option α} (h : p) : chk p k = k := by unfold chk; rw [if_pos h]

theorem loop_ret {R : Type} {F : Nat → Int → Option (Sum Unit R)} {len : Nat} (g : Nat → Option R)
  (hstop : ∀ (m k : Nat), len ≤ k → F (m + 1) (k : Int) = some (.inl ()))
  (hstep : ∀ (m k : Nat), k < len → F (m + 1) (k : Int) = match g k with | some r => some (.inr r) | none => F m ((k + 1 : Nat) : Int)) :
  ∀ (m k : Nat), len - k < m → F m (k : Int) = match (List.range' k (len - k)).findSome? g with | some r => some (.inr r) | none => some (.inl ()) := by
 intro m
 induction m with
 | zero => intro k h; omega
 | succ m ih =>
  intro k h
  by_cases hk : k < len
  ·rw [hstep m k hk, show len - k = (len - (k + 1)) + 1 by omega, List.range'_succ, List.findSome?_cons]
   cases hg : g k with
   | some r => rfl
   | none => exact ih (k + 1) (by omega)
  ·rw [hstop m k (by omega), show len - k = 0 by omega]; rfl
theorem loop_ret0 {R : Type} {F : Nat → Int → Option (Sum Unit R)} {len m : Nat} (g : Nat → Option R) (hm : len < m)
  (hstop : ∀ (m k : Nat), len ≤ k → F (m + 1) (k : Int) = some (.inl ()))
  (hstep : ∀ (m k : Nat), k < len → F (m + 1) (k : Int) = match g k with | some r => some (.inr r) | none => F m ((k + 1 : Nat) : Int)) :
  (F m 0 = some (.inl ()) ∧ ∀ k, k < len → g k = none) ∨ ∃ k r, k < len ∧ g k = some r ∧ F m 0 = some (.inr r) ∧ ∀ j, j < k → g j = none := by
 have h := loop_ret g hstop hstep m 0 (by omega)
 rw [show ((0 : Nat) : Int) = 0 from rfl] at h
 cases hf : (List.range' 0 (len - 0)).findSome? g with
 | none =>
  left
  rw [hf] at h
  refine ⟨h, fun k hk => ?_⟩
  rw [List.findSome?_eq_none_iff] at hf
  exact hf k (by rw [List.mem_range']; exact ⟨k, by omega, by omega⟩)
 | some r =>
  right
  rw [hf] at h
  obtain ⟨l1, a, l2, e, hga, hall⟩ := List.findSome?_eq_some_iff.1 hf
  have ha : a = l1.length ∧ a < len := by
   have h1 : (List.range' 0 (len - 0))[l1.length]? = some a := by rw [e]; simp
   rw [List.getElem?_eq_some_iff] at h1
   obtain ⟨h2, h3⟩ := h1
   simp at h2 h3
   omega
  refine ⟨a, r, ha.2, hga, h, fun j hj => hall j ?_⟩
  have h1 : (List.range' 0 (len - 0))[j]? = some j := by rw [List.getElem?_eq_getElem (by simp; omega)]; simp
  rw [e, List.getElem?_append_left (by omega)] at h1
  exact List.mem_of_getElem? h1

def beginsS (d : Deed) : Bool := decide (d.Kind = 3) || decide (d.Kind = 4)
def sendsS (d : Deed) : Bool := decide (d.Kind = 1) || decide (d.Kind = 3)
def receivesS (d : Deed) : Bool := decide (d.Kind = 2) || decide (d.Kind = 4)
def openS (d : Deed) : Bool := receivesS d && decide (d.Peer = -1)
def fitsS (m r : Deed) : Bool := decide (r.Tag = -1) || decide (r.Tag = m.Tag)
theorem begins_eq (N : Nat) (d : Deed) : dead_begins N d = some (beginsS d) := by unfold dead_begins beginsS; by_cases h : d.Kind = 3 <;> simp [h]
theorem sends_eq (N : Nat) (d : Deed) : dead_sends N d = some (sendsS d) := by unfold dead_sends sendsS; by_cases h : d.Kind = 1 <;> simp [h]
theorem receives_eq (N : Nat) (d : Deed) : dead_receives N d = some (receivesS d) := by unfold dead_receives receivesS; by_cases h : d.Kind = 2 <;> simp [h]
theorem open_eq (N : Nat) (d : Deed) : dead_open N d = some (openS d) := by unfold dead_open openS; rw [receives_eq]; cases receivesS d <;> simp
theorem fits_eq (N : Nat) (d e : Deed) : dead_fits N d e = some (fitsS d e) := by unfold dead_fits fitsS; by_cases h : e.Tag = -1 <;> simp [h]

theorem count_l1_eq (N : Nat) (l : List Deed) (p : Deed → Bool) : ∀ (m : Nat) (x : Int) (k : Nat), l.length - k < m → k ≤ l.length → l.length ≤ 1000 → 0 ≤ x → x ≤ 1000 * k →
  dead_count_lang_Deed_l1 N l (fun d => some (p d)) m x (k : Int) = some (x + ((l.drop k).countP p : Nat)) := by
 intro m
 induction m with
 | zero => intro x k h; omega
 | succ m ih =>
  intro x k h hk hl h0 h1
  rw [dead_count_lang_Deed_l1]
  by_cases hkl : k < l.length
  ·rw [if_pos (by simpa using hkl), idx_nat, List.getElem?_eq_getElem hkl]
   simp only [Option.bind_some]
   have hd : l.drop k = l[k] :: l.drop (k + 1) := List.drop_eq_getElem_cons hkl
   have e : (k : Int) + 1 = ((k + 1 : Nat) : Int) := rfl
   cases hp : p l[k]
   ·rw [if_neg (by simp), chk_t (inR_small (by omega) (by omega)), e, ih x (k + 1) (by omega) (by omega) hl h0 (by omega), hd, List.countP_cons, hp]; simp
   ·rw [if_pos rfl, chk_t (inR_small (by omega) (by omega)), chk_t (inR_small (by omega) (by omega)), e, ih (x + 1) (k + 1) (by omega) (by omega) hl (by omega) (by omega), hd, List.countP_cons, hp]
    simp; omega
  ·rw [if_neg (by simpa using hkl), List.drop_eq_nil_of_le (by omega)]; simp
theorem count_eq (N : Nat) (l : List Deed) (p : Deed → Bool) (hN : 1300 ≤ N) (hl : l.length ≤ 1000) : dead_count_lang_Deed N l (fun d => some (p d)) = some ((l.countP p : Nat) : Int) := by
 unfold dead_count_lang_Deed
 have := count_l1_eq N l p N 0 0 (by omega) (by omega) hl (by omega) (by omega)
 rw [show ((0 : Nat) : Int) = 0 from rfl] at this
 rw [this]; simp

theorem index_eq (N : Nat) (l : List Deed) (d : Deed) (hN : 1300 ≤ N) (hl : l.length ≤ 1000) : slices_Contains_Llang_Deed_lang_Deed N l d = some (decide (d ∈ l)) := by
 unfold slices_Contains_Llang_Deed_lang_Deed slices_Index_Llang_Deed_lang_Deed
 have h := loop_ret0 (F := slices_Index_Llang_Deed_lang_Deed_l1 N l d) (len := l.length) (m := N) (fun k => if l[k]? = some d then some (k : Int) else none) (by omega)
  (fun m k hk => by rw [slices_Index_Llang_Deed_lang_Deed_l1, if_neg (by simpa using hk)])
  (fun m k hk => by
   rw [slices_Index_Llang_Deed_lang_Deed_l1, if_pos (by simpa using hk), idx_nat, List.getElem?_eq_getElem hk]
   by_cases hd : d = l[k]
   ·simp [hd]
   ·rw [Option.bind_some, if_neg (by simpa using hd), chk_t (inR_small (by omega) (by omega)), if_neg (by simpa using fun e => hd e.symm)]; rfl)
 rcases h with ⟨h, hall⟩ | ⟨k, r, hk, hg, h, _⟩
 ·rw [h]
  have : d ∉ l := by
   intro hm
   obtain ⟨k, hk⟩ := List.getElem?_of_mem hm
   have hkl := (List.getElem?_eq_some_iff.1 hk).1
   have := hall k hkl
   rw [if_pos hk] at this
   cases this
  simp [this]
 ·rw [h]
  by_cases hk2 : l[k]? = some d
  ·rw [if_pos hk2] at hg
   cases hg
   have : d ∈ l := List.mem_of_getElem? hk2
   simp [this]
  ·rw [if_neg hk2] at hg; cases hg

theorem ifun_eq (N : Nat) (l : List Deed) (p : Deed → Bool) (hN : 1300 ≤ N) (hl : l.length ≤ 1000) : ∃ r : Int, slices_IndexFunc_Llang_Deed_lang_Deed N l (fun d => some (p d)) = some r ∧
  ((r = -1 ∧ ∀ x ∈ l, p x = false) ∨ ∃ (k : Nat) (x : Deed), r = (k : Int) ∧ l[k]? = some x ∧ p x = true) := by
 unfold slices_IndexFunc_Llang_Deed_lang_Deed
 have h := loop_ret0 (F := slices_IndexFunc_Llang_Deed_lang_Deed_l1 N l (fun d => some (p d))) (len := l.length) (m := N) (fun k => if (l[k]?.map p) = some true then some (k : Int) else none) (by omega)
  (fun m k hk => by rw [slices_IndexFunc_Llang_Deed_lang_Deed_l1, if_neg (by simpa using hk)])
  (fun m k hk => by
   rw [slices_IndexFunc_Llang_Deed_lang_Deed_l1, if_pos (by simpa using hk), idx_nat, List.getElem?_eq_getElem hk]
   cases hd : p l[k]
   ·simp [hd]; rw [chk_t (inR_small (by omega) (by omega))]
   ·simp [hd])
 rcases h with ⟨h, hall⟩ | ⟨k, r, hk, hg, h, _⟩
 ·rw [h]
  refine ⟨-1, rfl, Or.inl ⟨rfl, fun x hx => ?_⟩⟩
  obtain ⟨k, hk⟩ := List.getElem?_of_mem hx
  have hkl := (List.getElem?_eq_some_iff.1 hk).1
  have := hall k hkl
  rw [hk] at this
  cases hp : p x
  ·rfl
  ·simp [hp] at this
 ·rw [h, List.getElem?_eq_getElem hk] at *
  by_cases hp : p l[k] = true
  ·simp [hp] at hg
   exact ⟨r, rfl, Or.inr ⟨k, l[k], hg.symm, List.getElem?_eq_getElem hk, hp⟩⟩
  ·simp [hp] at hg
theorem cfun_eq (N : Nat) (l : List Deed) (p : Deed → Bool) (hN : 1300 ≤ N) (hl : l.length ≤ 1000) : slices_ContainsFunc_Llang_Deed_lang_Deed N l (fun d => some (p d)) = some (l.any p) := by
 unfold slices_ContainsFunc_Llang_Deed_lang_Deed
 obtain ⟨r, h, hr⟩ := ifun_eq N l p hN hl
 rw [h]
 rcases hr with ⟨rfl, hall⟩ | ⟨k, x, rfl, hx, hp⟩
 ·have : l.any p = false := by rw [List.any_eq_false]; intro x hx; simp [hall x hx]
  simp [this]
 ·have : l.any p = true := by rw [List.any_eq_true]; exact ⟨x, List.mem_of_getElem? hx, hp⟩
  simp [this]

def cnt (l : List Deed) : Int := ((l.countP beginsS : Nat) : Int)
def Good (d : Deed) (before : List Deed) (n : Int) : Prop :=
 (d.Kind = 1 ∧ (0 ≤ d.Peer ∧ d.Peer < n) ∧ (0 ≤ d.Tag ∧ d.Tag ≤ 1048576) ∧ d.Req = 0) ∨
 (d.Kind = 3 ∧ (0 ≤ d.Peer ∧ d.Peer < n) ∧ (0 ≤ d.Tag ∧ d.Tag ≤ 1048576) ∧ d.Req = cnt before ∧ d.Sync = false) ∨
 (d.Kind = 2 ∧ ((0 ≤ d.Peer ∧ d.Peer < n) ∨ d.Peer = -1) ∧ ((0 ≤ d.Tag ∧ d.Tag ≤ 1048576) ∨ d.Tag = -1) ∧ d.Req = 0 ∧ d.Sync = false) ∨
 (d.Kind = 4 ∧ ((0 ≤ d.Peer ∧ d.Peer < n) ∨ d.Peer = -1) ∧ ((0 ≤ d.Tag ∧ d.Tag ≤ 1048576) ∨ d.Tag = -1) ∧ d.Req = cnt before ∧ d.Sync = false) ∨
 (d.Kind = 5 ∧ d.Peer = 0 ∧ d.Tag = 0 ∧ d.Sync = false ∧ 0 ≤ d.Req ∧ d.Req < cnt before ∧ d ∉ before) ∨
 (d.Kind = 6 ∧ d.Peer = 0 ∧ d.Tag = 0 ∧ d.Req = 0 ∧ d.Sync = false)
theorem formed_eq (N : Nat) (d : Deed) (before : List Deed) (n : Int) (hN : 1300 ≤ N) (hl : before.length ≤ 1000) : ∃ b, dead_formed N d before n = some b ∧ (b = true ↔ Good d before n) := by
 unfold dead_formed
 have e1 : (fun x => dead_begins N x) = fun x => some (beginsS x) := funext (begins_eq N)
 rw [e1, count_eq N before beginsS hN hl]
 obtain ⟨K, P, T, R, S⟩ := d
 simp only [index_eq N before _ hN hl, Option.bind_some, Deed.with_Tag, Deed.with_Peer, Deed.with_Sync, Deed.with_Req, Deed.mk.injEq, true_and, and_true]
 unfold Good cnt
 generalize ((before.countP beginsS : Nat) : Int) = c
 have fin : ∀ (x : Option Bool) (G : Prop), (∀ b, x = some b → (b = true ↔ G)) → x.isSome = true → ∃ b, x = some b ∧ (b = true ↔ G) := by
  intro x G h hs
  obtain ⟨b, hb⟩ := Option.isSome_iff_exists.1 hs
  exact ⟨b, hb, h b hb⟩
 by_cases hK : K = 1 ∨ K = 3 ∨ K = 2 ∨ K = 4 ∨ K = 5 ∨ K = 6
 ·rcases hK with rfl | rfl | rfl | rfl | rfl | rfl
  all_goals
   simp only [Int.reduceEq, Int.reduceNeg, decide_true, decide_false, ↓reduceIte, Bool.false_eq_true, false_and, true_and, false_or, or_false, eq_self]
   refine fin _ _ ?_ ?_
   ·intro b hb
    by_cases ht : 0 ≤ T <;> by_cases hp : 0 ≤ P <;> simp only [ht, hp, decide_true, decide_false, ↓reduceIte, Bool.false_eq_true, Option.bind_some, true_and, false_and, false_or] at hb ⊢ <;> (repeat' (split at hb)) <;> (simp only [Option.some.injEq, Option.bind_some] at hb; subst hb; simp_all) <;> omega
   ·by_cases ht : 0 ≤ T <;> by_cases hp : 0 ≤ P <;> simp only [ht, hp, decide_true, decide_false, ↓reduceIte, Bool.false_eq_true, Option.bind_some] <;> (repeat' split) <;> rfl
 ·have h1 : ¬ K = 1 := fun h => hK (by omega)
  have h2 : ¬ K = 2 := fun h => hK (by omega)
  have h3 : ¬ K = 3 := fun h => hK (by omega)
  have h4 : ¬ K = 4 := fun h => hK (by omega)
  have h5 : ¬ K = 5 := fun h => hK (by omega)
  have h6 : ¬ K = 6 := fun h => hK (by omega)
  refine ⟨false, ?_, by simp [h1, h2, h3, h4, h5, h6]⟩
  by_cases ht : 0 ≤ T <;> by_cases hp : 0 ≤ P <;> simp [h1, h2, h3, h4, h5, h6, ht, hp]

theorem cut_nat {α : Type} (l : List α) (k : Nat) (h : k ≤ l.length) : cut l 0 (k : Int) = some (l.take k) := by
 unfold cut; rw [if_pos ⟨by omega, by omega, by omega⟩]; simp

open Classical in
theorem check_l3 (N : Nat) (c : List (List Deed)) (l : List Deed) (hN : 1300 ≤ N) (hl : l.length ≤ 1000) :
  (dead_Check_l3 N c l N 0 = some (.inl ()) ∧ ∀ k d, l[k]? = some d → Good d (l.take k) c.length) ∨ (dead_Check_l3 N c l N 0 = some (.inr 2) ∧ ¬ ∀ k d, l[k]? = some d → Good d (l.take k) c.length) := by
 have h := loop_ret0 (F := dead_Check_l3 N c l) (len := l.length) (m := N) (fun k => if ∀ d, l[k]? = some d → Good d (l.take k) c.length then none else some (2 : Int)) (by omega)
  (fun m k hk => by rw [dead_Check_l3, if_neg (by simpa using hk)])
  (fun m k hk => by
   rw [dead_Check_l3, if_pos (by simpa using hk), idx_nat, List.getElem?_eq_getElem hk, Option.bind_some, cut_nat l k (by omega), Option.bind_some]
   obtain ⟨b, hb, hg⟩ := formed_eq N l[k] (l.take k) c.length hN (by simp; omega)
   rw [hb, Option.bind_some]
   by_cases hG : Good l[k] (l.take k) c.length
   ·have hb1 : b = true := hg.2 hG
    subst hb1
    rw [if_neg (by simp), chk_t (inR_small (by omega) (by omega)), if_pos (by intro d hd; cases hd; exact hG)]; rfl
   ·have hb1 : b = false := by cases b; rfl; exact absurd (hg.1 rfl) hG
    subst hb1
    rw [if_pos (by simp), if_neg (by intro hh; exact hG (hh _ rfl))])
 rcases h with ⟨h, hall⟩ | ⟨k, r, hk, hg, h, _⟩
 ·left
  refine ⟨h, fun k d hd => ?_⟩
  have hk := (List.getElem?_eq_some_iff.1 hd).1
  have := hall k hk
  by_cases hG : ∀ d, l[k]? = some d → Good d (l.take k) c.length
  ·exact hG d hd
  ·rw [if_neg hG] at this; cases this
 ·right
  by_cases hG : ∀ d, l[k]? = some d → Good d (l.take k) c.length
  ·rw [if_pos hG] at hg; cases hg
  ·rw [if_neg hG] at hg; cases hg
   exact ⟨h, fun hh => hG (hh k)⟩

structure CheckOk (c : List (List Deed)) : Prop where
 one : 1 ≤ c.length
 most : c.length ≤ 64
 rows : ∀ l ∈ c, l.length ≤ 200
 good : ∀ l ∈ c, ∀ k d, l[k]? = some d → Good d (l.take k) c.length
open Classical in
theorem check_eq (N : Nat) (c : List (List Deed)) (hN : 1300 ≤ N) : ∃ e, dead_Check N c = some e ∧ (e = 0 ↔ CheckOk c) := by
 unfold dead_Check
 by_cases h1 : c.length < 1
 ·refine ⟨3, ?_, ⟨fun h => absurd h (by decide), fun h => by have := h.one; omega⟩⟩
  have : (c.length : Int) < 1 := by omega
  simp [this]
 by_cases h2 : 64 < c.length
 ·refine ⟨3, ?_, ⟨fun h => absurd h (by decide), fun h => by have := h.most; omega⟩⟩
  have h3 : ¬ (c.length : Int) < 1 := by omega
  have h4 : 64 < (c.length : Int) := by omega
  rw [if_neg (by simpa using h3), Option.bind_some]
  simp [h4]
 have h3 : ¬ (c.length : Int) < 1 := by omega
 have h4 : ¬ 64 < (c.length : Int) := by omega
 rw [if_neg (by simpa using h3), Option.bind_some]
 dsimp only
 rw [if_neg (by simpa using h4)]
 have hA := loop_ret0 (F := dead_Check_l1 N c) (len := c.length) (m := N) (fun k => if ∀ l, c[k]? = some l → l.length ≤ 200 then none else some (9 : Int)) (by omega)
  (fun m k hk => by rw [dead_Check_l1, if_neg (by simpa using hk)])
  (fun m k hk => by
   rw [dead_Check_l1, if_pos (by simpa using hk), idx_nat, List.getElem?_eq_getElem hk, Option.bind_some]
   by_cases hG : c[k].length ≤ 200
   ·rw [if_neg (by simp; omega), chk_t (inR_small (by omega) (by omega)), if_pos (by intro d hd; cases hd; exact hG)]; rfl
   ·rw [if_pos (by simp; omega), if_neg (by intro hh; exact hG (hh _ rfl))])
 rcases hA with ⟨hA, hrows⟩ | ⟨k, r, hk, hg, hA, _⟩
 ·have hrows' : ∀ l ∈ c, l.length ≤ 200 := by
   intro l hl
   obtain ⟨k, hk⟩ := List.getElem?_of_mem hl
   have := hrows k (List.getElem?_eq_some_iff.1 hk).1
   by_cases hG : ∀ l, c[k]? = some l → l.length ≤ 200
   ·exact hG l hk
   ·rw [if_neg hG] at this; cases this
  rw [hA, Option.bind_some]
  dsimp only
  have hB := loop_ret0 (F := dead_Check_l2 N c) (len := c.length) (m := N) (fun k => if ∀ l, c[k]? = some l → ∀ i d, l[i]? = some d → Good d (l.take i) c.length then none else some (2 : Int)) (by omega)
   (fun m k hk => by rw [dead_Check_l2, if_neg (by simpa using hk)])
   (fun m k hk => by
    rw [dead_Check_l2, if_pos (by simpa using hk), idx_nat, List.getElem?_eq_getElem hk, Option.bind_some]
    rcases check_l3 N c c[k] hN (by have := hrows' c[k] (List.getElem_mem hk); omega) with ⟨e, hG⟩ | ⟨e, hG⟩
    ·rw [e, Option.bind_some]
     dsimp only
     rw [chk_t (inR_small (by omega) (by omega)), if_pos (by intro d hd; cases hd; exact hG)]; rfl
    ·rw [e, Option.bind_some, if_neg (by intro hh; exact hG (hh _ rfl))])
  rcases hB with ⟨hB, hall⟩ | ⟨k, r, hk, hg, hB, _⟩
  ·rw [hB]
   refine ⟨0, rfl, ⟨fun _ => ⟨by omega, by omega, hrows', ?_⟩, fun _ => rfl⟩⟩
   intro l hl
   obtain ⟨k, hk⟩ := List.getElem?_of_mem hl
   have := hall k (List.getElem?_eq_some_iff.1 hk).1
   by_cases hG : ∀ l, c[k]? = some l → ∀ i d, l[i]? = some d → Good d (l.take i) c.length
   ·exact hG l hk
   ·rw [if_neg hG] at this; cases this
  ·rw [hB]
   by_cases hG : ∀ l, c[k]? = some l → ∀ i d, l[i]? = some d → Good d (l.take i) c.length
   ·rw [if_pos hG] at hg; cases hg
   ·rw [if_neg hG] at hg; cases hg
    exact ⟨2, rfl, ⟨fun h => absurd h (by decide), fun h => (hG (fun l hl => h.good l (List.mem_of_getElem? hl))).elim⟩⟩
 ·rw [hA]
  by_cases hG : ∀ l, c[k]? = some l → l.length ≤ 200
  ·rw [if_pos hG] at hg; cases hg
  ·rw [if_neg hG] at hg; cases hg
   exact ⟨9, rfl, ⟨fun h => absurd h (by decide), fun h => (hG (fun l hl => h.rows l (List.mem_of_getElem? hl))).elim⟩⟩
theorem check_0 {N : Nat} {c : List (List Deed)} (hN : 1300 ≤ N) (h : CheckOk c) : dead_Check N c = some 0 := by
 obtain ⟨e, h1, h2⟩ := check_eq N c hN
 rw [h1, h2.2 h]
end Go.Arm
