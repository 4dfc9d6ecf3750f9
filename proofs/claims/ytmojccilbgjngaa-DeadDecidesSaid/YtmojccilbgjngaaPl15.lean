/- Plain laws. -/
import Derived.Test.YtmojccilbgjngaaPl8
namespace Go.Arm
open Go

theorem deeds_l2 {N : Nat} {a : List (List Deed)} {p : Nat} {l : List Deed} (hp : a[p]? = some l) (hl : l.length ≤ 1000) : ∀ (m k : Nat), l.length - k < m → k ≤ l.length → law08_deeds_l2 N a (p : Int) m (l.take k) (k : Int) = some l := by
 intro m
 induction m with
 | zero => intro k h; omega
 | succ m ih =>
  intro k h hk
  rw [law08_deeds_l2, idx_nat, hp, Option.bind_some]
  by_cases hkl : k < l.length
  ·have hR : inR ((k : Int) + 1) := inR_small (by omega) (by omega)
   have e : (k : Int) + 1 = ((k + 1 : Nat) : Int) := rfl
   have hgo := ih (k + 1) (by omega) (by omega)
   rw [List.take_succ_eq_append_getElem hkl] at hgo
   rw [if_pos (by simpa using hkl), Option.bind_some, idx_nat, List.getElem?_eq_getElem hkl, Option.bind_some, chk_t ⟨by rw [List.length_take, List.length_singleton]; omega, small_len (by rw [List.length_take, List.length_singleton]; omega)⟩, chk_t hR, e]
   exact hgo
  ·rw [if_neg (by simpa using hkl), List.take_of_length_le (by omega)]
theorem deeds_eq {N : Nat} (hN : 1300 ≤ N) {a : List (List Deed)} (ha : a.length ≤ 1000) (hr : ∀ l ∈ a, l.length ≤ 1000) : law08_deeds N a = some a := by
 have key : ∀ (m k : Nat), a.length - k < m → k ≤ a.length → law08_deeds_l1 N a m (a.take k) (k : Int) = some a := by
  intro m
  induction m with
  | zero => intro k h; omega
  | succ m ih =>
   intro k h hk
   rw [law08_deeds_l1]
   by_cases hkl : k < a.length
   ·have hR : inR ((k : Int) + 1) := inR_small (by omega) (by omega)
    have e : (k : Int) + 1 = ((k + 1 : Nat) : Int) := rfl
    have hrow := hr _ (List.getElem_mem hkl)
    have hgo := ih (k + 1) (by omega) (by omega)
    rw [List.take_succ_eq_append_getElem hkl] at hgo
    have h2 := deeds_l2 (N := N) (List.getElem?_eq_getElem hkl) hrow N 0 (by omega) (by omega)
    rw [show ((0 : Nat) : Int) = 0 from rfl, List.take_zero] at h2
    rw [if_pos (by simpa using hkl), h2, Option.bind_some]
    dsimp only
    rw [chk_t ⟨by rw [List.length_take, List.length_singleton]; omega, small_len (by rw [List.length_take, List.length_singleton]; omega)⟩, chk_t hR, e]
    exact hgo
   ·rw [if_neg (by simpa using hkl), List.take_of_length_le (by omega)]
 have h := key N 0 (by omega) (by omega)
 rw [show ((0 : Nat) : Int) = 0 from rfl, List.take_zero] at h
 unfold law08_deeds
 rw [h]; rfl

structure FewOk (a : List (List Deed)) : Prop where
 len : a.length ≤ 80
 gap : a.length ≤ 6 ∨ 64 < a.length
 rows : ∀ l ∈ a, l.length ≤ 300
 small : ∀ l ∈ a, l.length ≤ 14 ∨ 200 < l.length
theorem few_eq {N : Nat} (hN : 1300 ≤ N) (a : List (List Deed)) : ∃ b, law08_few N a = some b ∧ (b = true → FewOk a) := by
 unfold law08_few
 by_cases h80 : 80 < a.length
 ·rw [if_pos (by simp; omega), Option.bind_some]; exact ⟨false, rfl, fun h => by cases h⟩
 rw [if_neg (by simp; omega)]
 by_cases h6 : 6 < a.length ∧ a.length ≤ 64
 ·rw [if_pos (by simp; omega), Option.bind_some]
  dsimp only
  rw [if_pos (by simp; omega)]
  exact ⟨false, rfl, fun h => by cases h⟩
 have e1 : (if decide (6 < (a.length : Int)) = true then some (decide ((a.length : Int) ≤ 64)) else some false) = some false := by
  by_cases h7 : 6 < a.length
  ·rw [if_pos (by simp; omega)]
   exact congrArg some (decide_eq_false (by omega))
  ·rw [if_neg (by simp; omega)]
 rw [e1, Option.bind_some]
 dsimp only
 rw [if_neg (by simp)]
 have hl := loop_ret0 (F := law08_few_l1 N a) (len := a.length) (m := N) (fun k => if ((rowS a k).length ≤ 14 ∨ 200 < (rowS a k).length) ∧ (rowS a k).length ≤ 300 then none else some false) (by omega)
  (fun m k hk => by rw [law08_few_l1, if_neg (by simpa using hk)])
  (fun m k hk => by
   have hR : inR ((k : Int) + 1) := inR_small (by omega) (by omega)
   rw [rowS_eq (List.getElem?_eq_getElem hk), law08_few_l1, if_pos (by simpa using hk), idx_nat, List.getElem?_eq_getElem hk]
   simp only [Option.bind_some]
   generalize a[k].length = n
   have e2 : (if decide (14 < (n : Int)) = true then if decide ((n : Int) ≤ 200) = true then some true else some (decide (300 < (n : Int))) else some (decide (300 < (n : Int)))) = some (decide ¬ ((n ≤ 14 ∨ 200 < n) ∧ n ≤ 300)) := by
    by_cases c1 : 14 < n
    ·by_cases c2 : n ≤ 200
     ·rw [if_pos (by simp; omega), if_pos (by simp; omega)]
      exact congrArg some (decide_eq_true (by omega)).symm
     ·rw [if_pos (by simp; omega), if_neg (by simp; omega)]
      congr 1
      rw [decide_eq_decide]
      omega
    ·rw [if_neg (by simp; omega)]
     congr 1
     rw [decide_eq_decide]
     omega
   rw [e2, Option.bind_some]
   by_cases c : (n ≤ 14 ∨ 200 < n) ∧ n ≤ 300
   ·rw [if_neg (by simp [c]), if_pos c, chk_t hR]; rfl
   ·rw [if_pos (decide_eq_true c), if_neg c])
 rcases hl with ⟨e, hall⟩ | ⟨k, x, hk, hg, e, _⟩
 ·rw [e]
  refine ⟨true, rfl, fun _ => ?_⟩
  have key : ∀ l ∈ a, (l.length ≤ 14 ∨ 200 < l.length) ∧ l.length ≤ 300 := by
   intro l hl
   obtain ⟨k, hk⟩ := List.getElem?_of_mem hl
   have := hall k (List.getElem?_eq_some_iff.1 hk).1
   rw [rowS_eq hk] at this
   apply Classical.byContradiction
   intro c
   rw [if_neg c] at this
   cases this
  exact ⟨by omega, by omega, fun l hl => (key l hl).2, fun l hl => (key l hl).1⟩
 ·rw [e]
  refine ⟨false, ?_, fun h => by cases h⟩
  split at hg
  ·cases hg
  ·cases hg; rfl

inductive ChkS (c : List (List Deed)) : Int → Prop
 | range (h : c.length < 1 ∨ 64 < c.length) : ChkS c 3
 | many (h : 1 ≤ c.length ∧ c.length ≤ 64) (k : ¬ ∀ l ∈ c, l.length ≤ 200) : ChkS c 9
 | arg (h : 1 ≤ c.length ∧ c.length ≤ 64) (k : ∀ l ∈ c, l.length ≤ 200) (g : ¬ ∀ l ∈ c, ∀ i d, l[i]? = some d → Good d (l.take i) c.length) : ChkS c 2
 | ok (h : CheckOk c) : ChkS c 0
theorem ChkS.same {c : List (List Deed)} {e e' : Int} (h : ChkS c e) (h' : ChkS c e') : e = e' := by
 cases h with
 | range h =>
  cases h' with
  | range _ => rfl
  | many h2 _ => omega
  | arg h2 _ _ => omega
  | ok h2 => have := h2.one; have := h2.most; omega
 | many h k =>
  cases h' with
  | range _ => omega
  | many h2 _ => rfl
  | arg h2 k2 _ => exact (k k2).elim
  | ok h2 => exact (k h2.rows).elim
 | arg h k g =>
  cases h' with
  | range _ => omega
  | many h2 k2 => exact (k2 k).elim
  | arg h2 k2 _ => rfl
  | ok h2 => exact (g h2.good).elim
 | ok h =>
  cases h' with
  | range h2 => have := h.one; have := h.most; omega
  | many h2 k2 => exact (k2 h.rows).elim
  | arg h2 k2 g2 => exact (g2 h.good).elim
  | ok _ => rfl
open Classical in
theorem check_exact (N : Nat) (c : List (List Deed)) (hN : 1300 ≤ N) : ∃ e, dead_Check N c = some e ∧ ChkS c e := by
 unfold dead_Check
 by_cases h1 : c.length < 1
 ·refine ⟨3, ?_, .range (Or.inl h1)⟩
  have : (c.length : Int) < 1 := by omega
  simp [this]
 by_cases h2 : 64 < c.length
 ·refine ⟨3, ?_, .range (Or.inr h2)⟩
  have h3 : ¬ (c.length : Int) < 1 := by omega
  have h4 : 64 < (c.length : Int) := by omega
  rw [if_neg (by simpa using h3), Option.bind_some]
  simp [h4]
 have h3 : ¬ (c.length : Int) < 1 := by omega
 have h4 : ¬ 64 < (c.length : Int) := by omega
 rw [if_neg (by simpa using h3), Option.bind_some]
 dsimp only
 rw [if_neg (by simpa using h4)]
 have hA := loop_ret0 (F := dead_Check_l1 N c) (len := c.length) (m := N) (fun k => if ∀ l, c[k]? = some l → l.length ≤ 200 then none else some (9 : Int)) (by omega)
  (fun m k hk => by rw [dead_Check_l1, if_neg (by simpa using hk)])
  (fun m k hk => by
   rw [dead_Check_l1, if_pos (by simpa using hk), idx_nat, List.getElem?_eq_getElem hk, Option.bind_some]
   by_cases hG : c[k].length ≤ 200
   ·rw [if_neg (by simp; omega), chk_t (inR_small (by omega) (by omega)), if_pos (by intro d hd; cases hd; exact hG)]; rfl
   ·rw [if_pos (by simp; omega), if_neg (by intro hh; exact hG (hh _ rfl))])
 rcases hA with ⟨hA, hrows⟩ | ⟨k, r, hk, hg, hA, _⟩
 ·have hrows' : ∀ l ∈ c, l.length ≤ 200 := by
   intro l hl
   obtain ⟨k, hk⟩ := List.getElem?_of_mem hl
   have := hrows k (List.getElem?_eq_some_iff.1 hk).1
   by_cases hG : ∀ l, c[k]? = some l → l.length ≤ 200
   ·exact hG l hk
   ·rw [if_neg hG] at this; cases this
  rw [hA, Option.bind_some]
  dsimp only
  have hB := loop_ret0 (F := dead_Check_l2 N c) (len := c.length) (m := N) (fun k => if ∀ l, c[k]? = some l → ∀ i d, l[i]? = some d → Good d (l.take i) c.length then none else some (2 : Int)) (by omega)
   (fun m k hk => by rw [dead_Check_l2, if_neg (by simpa using hk)])
   (fun m k hk => by
    rw [dead_Check_l2, if_pos (by simpa using hk), idx_nat, List.getElem?_eq_getElem hk, Option.bind_some]
    rcases check_l3 N c c[k] hN (by have := hrows' c[k] (List.getElem_mem hk); omega) with ⟨e, hG⟩ | ⟨e, hG⟩
    ·rw [e, Option.bind_some]
     dsimp only
     rw [chk_t (inR_small (by omega) (by omega)), if_pos (by intro d hd; cases hd; exact hG)]; rfl
    ·rw [e, Option.bind_some, if_neg (by intro hh; exact hG (hh _ rfl))])
  rcases hB with ⟨hB, hall⟩ | ⟨k, r, hk, hg, hB, _⟩
  ·rw [hB]
   refine ⟨0, rfl, .ok ⟨by omega, by omega, hrows', ?_⟩⟩
   intro l hl
   obtain ⟨k, hk⟩ := List.getElem?_of_mem hl
   have := hall k (List.getElem?_eq_some_iff.1 hk).1
   by_cases hG : ∀ l, c[k]? = some l → ∀ i d, l[i]? = some d → Good d (l.take i) c.length
   ·exact hG l hk
   ·rw [if_neg hG] at this; cases this
  ·rw [hB]
   by_cases hG : ∀ l, c[k]? = some l → ∀ i d, l[i]? = some d → Good d (l.take i) c.length
   ·rw [if_pos hG] at hg; cases hg
   ·rw [if_neg hG] at hg; cases hg
    exact ⟨2, rfl, .arg ⟨by omega, by omega⟩ hrows' (fun h => (hG (fun l hl => h l (List.mem_of_getElem? hl))).elim)⟩
 ·rw [hA]
  by_cases hG : ∀ l, c[k]? = some l → l.length ≤ 200
  ·rw [if_pos hG] at hg; cases hg
  ·rw [if_neg hG] at hg; cases hg
   exact ⟨9, rfl, .many ⟨by omega, by omega⟩ (fun h => (hG (fun l hl => h l (List.mem_of_getElem? hl))).elim)⟩

theorem named_eq (N : Nat) (d : Deed) : ref08_named N d = some (beginsS d) := by unfold ref08_named beginsS; by_cases h : d.Kind = 3 <;> simp [h]
theorem rsends_eq (N : Nat) (d : Deed) : ref08_sends N d = some (sendsS d) := by unfold ref08_sends sendsS; by_cases h : d.Kind = 1 <;> simp [h]
theorem rreceives_eq (N : Nat) (d : Deed) : ref08_receives N d = some (receivesS d) := by unfold ref08_receives receivesS; by_cases h : d.Kind = 2 <;> simp [h]
theorem rfits_eq (N : Nat) (d e : Deed) : ref08_fits N d e = some (fitsS d e) := by unfold ref08_fits fitsS; by_cases h : e.Tag = -1 <;> simp [h]
theorem formed_l1_eq (N : Nat) (l : List Deed) : ∀ (m : Nat) (x : Int) (k : Nat), l.length - k < m → k ≤ l.length → l.length ≤ 1000 → 0 ≤ x → x ≤ 1000 * k →
  ref08_formed_l1 N l m x (k : Int) = some (x + ((l.drop k).countP beginsS : Nat)) := by
 intro m
 induction m with
 | zero => intro x k h; omega
 | succ m ih =>
  intro x k h hk hl h0 h1
  rw [ref08_formed_l1]
  by_cases hkl : k < l.length
  ·rw [if_pos (by simpa using hkl), idx_nat, List.getElem?_eq_getElem hkl]
   simp only [Option.bind_some, named_eq]
   have hd : l.drop k = l[k] :: l.drop (k + 1) := List.drop_eq_getElem_cons hkl
   have e : (k : Int) + 1 = ((k + 1 : Nat) : Int) := rfl
   cases hp : beginsS l[k]
   ·rw [if_neg (by simp), chk_t (inR_small (by omega) (by omega)), e, ih x (k + 1) (by omega) (by omega) hl h0 (by omega), hd, List.countP_cons, hp]; simp
   ·rw [if_pos rfl, chk_t (inR_small (by omega) (by omega)), chk_t (inR_small (by omega) (by omega)), e, ih (x + 1) (k + 1) (by omega) (by omega) hl (by omega) (by omega), hd, List.countP_cons, hp]
    simp; omega
  ·rw [if_neg (by simpa using hkl), List.drop_eq_nil_of_le (by omega)]; simp
theorem formed_l2_eq (N : Nat) (d : Deed) (l : List Deed) (hN : 1300 ≤ N) (hl : l.length ≤ 1000) :
  (ref08_formed_l2 N d l N 0 = some (.inl ()) ∧ ∀ x ∈ l, ¬ (x.Kind = 5 ∧ x.Req = d.Req)) ∨ (ref08_formed_l2 N d l N 0 = some (.inr false) ∧ ∃ x ∈ l, x.Kind = 5 ∧ x.Req = d.Req) := by
 have h := loop_ret0 (F := ref08_formed_l2 N d l) (len := l.length) (m := N) (fun k => match l[k]? with | none => none | some x => if x.Kind = 5 ∧ x.Req = d.Req then some false else none) (by omega)
  (fun m k hk => by rw [ref08_formed_l2, if_neg (by simpa using hk)])
  (fun m k hk => by
   have hR : inR ((k : Int) + 1) := inR_small (by omega) (by omega)
   rw [ref08_formed_l2, if_pos (by simpa using hk), idx_nat, List.getElem?_eq_getElem hk, Option.bind_some]
   generalize l[k] = x
   dsimp only
   by_cases h1 : x.Kind = 5
   ·rw [if_pos (by simpa using h1), Option.bind_some, Option.bind_some]
    by_cases h2 : x.Req = d.Req
    ·rw [if_pos (by simpa using h2), if_pos ⟨h1, h2⟩]
    ·rw [if_neg (by simpa using h2), if_neg (fun h => h2 h.2), chk_t hR]; rfl
   ·rw [if_neg (by simpa using h1), Option.bind_some, if_neg (by simp), if_neg (fun h => h1 h.1), chk_t hR]; rfl)
 rcases h with ⟨e, hall⟩ | ⟨k, r, hk, hg, e, _⟩
 ·left
  refine ⟨e, fun x hx hh => ?_⟩
  obtain ⟨k, hk⟩ := List.getElem?_of_mem hx
  have := hall k (List.getElem?_eq_some_iff.1 hk).1
  rw [hk] at this
  simp [hh] at this
 ·right
  rw [e]
  rw [List.getElem?_eq_getElem hk] at hg
  dsimp only at hg
  split at hg
  ·cases hg
   exact ⟨rfl, l[k], List.getElem_mem hk, ‹_›⟩
  ·cases hg
theorem rformed_eq (N : Nat) (d : Deed) (before : List Deed) (n : Int) (hN : 1300 ≤ N) (hl : before.length ≤ 1000) (hgood : ∀ i x, before[i]? = some x → Good x (before.take i) n) : ∃ b, ref08_formed N d before n = some b ∧ (b = true ↔ Good d before n) := by
 unfold ref08_formed
 have e1 := formed_l1_eq N before N 0 0 (by omega) (by omega) hl (by omega) (by omega)
 rw [show ((0 : Nat) : Int) = 0 from rfl, List.drop_zero, Int.zero_add] at e1
 rw [e1]
 simp only [Option.bind_some]
 have hdup : (∃ x ∈ before, x.Kind = 5 ∧ x.Req = d.Req) → d.Kind = 5 → d.Peer = 0 → d.Tag = 0 → d.Sync = false → d ∈ before := by
  rintro ⟨x, hx, h5, hr⟩ k1 k2 k3 k4
  obtain ⟨i, hi⟩ := List.getElem?_of_mem hx
  have hG := hgood i x hi
  have : x = d := by
   obtain ⟨K, P, T, R, S⟩ := x
   obtain ⟨K', P', T', R', S'⟩ := d
   unfold Good at hG
   simp only [Deed.mk.injEq]
   simp only at hG h5 hr k1 k2 k3 k4
   refine ⟨by omega, by omega, by omega, hr, ?_⟩
   rw [k4]
   rcases hG with h | h | h | h | h | h
   ·omega
   ·omega
   ·omega
   ·omega
   ·exact h.2.2.2.1
   ·omega
  rw [← this]; exact hx
 have hl2 := formed_l2_eq N d before hN hl
 obtain ⟨K, P, T, R, S⟩ := d
 unfold Good cnt
 generalize hcc : ((before.countP beginsS : Nat) : Int) = c
 have fin : ∀ (x : Option Bool) (G : Prop), (∀ b, x = some b → (b = true ↔ G)) → x.isSome = true → ∃ b, x = some b ∧ (b = true ↔ G) := by
  intro x G h hs
  obtain ⟨b, hb⟩ := Option.isSome_iff_exists.1 hs
  exact ⟨b, hb, h b hb⟩
 simp only at hl2 hdup ⊢
 by_cases hK : K = 1 ∨ K = 3 ∨ K = 2 ∨ K = 4 ∨ K = 6
 ·rcases hK with rfl | rfl | rfl | rfl | rfl
  all_goals
   simp only [Int.reduceEq, Int.reduceNeg, decide_true, decide_false, ↓reduceIte, Bool.false_eq_true, false_and, true_and, false_or, or_false, eq_self]
   refine fin _ _ ?_ ?_
   ·intro b hb
    by_cases ht : 0 ≤ T <;> by_cases hp : 0 ≤ P <;> simp only [ht, hp, decide_true, decide_false, ↓reduceIte, Bool.false_eq_true, Option.bind_some, true_and, false_and, false_or] at hb ⊢ <;> (repeat' (split at hb)) <;> (simp only [Option.some.injEq, Option.bind_some] at hb; subst hb; simp_all) <;> omega
   ·by_cases ht : 0 ≤ T <;> by_cases hp : 0 ≤ P <;> simp only [ht, hp, decide_true, decide_false, ↓reduceIte, Bool.false_eq_true, Option.bind_some] <;> (repeat' split) <;> rfl
 have h1 : ¬ K = 1 := fun h => hK (by omega)
 have h2 : ¬ K = 2 := fun h => hK (by omega)
 have h3 : ¬ K = 3 := fun h => hK (by omega)
 have h4 : ¬ K = 4 := fun h => hK (by omega)
 have h6 : ¬ K = 6 := fun h => hK (by omega)
 by_cases h5 : K = 5
 ·subst h5
  simp only [Int.reduceEq, Int.reduceNeg, decide_true, decide_false, ↓reduceIte, Bool.false_eq_true, false_and, true_and, false_or, or_false, eq_self]
  obtain ⟨u, hu⟩ : ∃ u, (if decide (0 ≤ T) = true then some (decide (T ≤ 1048576)) else some false) = some u := by split <;> exact ⟨_, rfl⟩
  obtain ⟨v, hv⟩ : ∃ v, (if decide (0 ≤ P) = true then some (decide (P < n)) else some false) = some v := by split <;> exact ⟨_, rfl⟩
  rw [hu, Option.bind_some, hv, Option.bind_some]
  rcases hl2 with ⟨e2, hno⟩ | ⟨e2, hex⟩
  ·rw [e2, Option.bind_some]
   dsimp only
   have hnot : (⟨5, P, T, R, S⟩ : Deed) ∉ before := fun hm => hno _ hm ⟨rfl, rfl⟩
   by_cases c1 : 0 ≤ R <;> by_cases c2 : R < c <;> by_cases c3 : P = 0 <;> by_cases c4 : T = 0 <;> cases S <;> simp [c1, c2, c3, c4] <;> (subst c3 c4; exact hnot)
  ·rw [e2, Option.bind_some]
   refine ⟨false, rfl, ⟨fun h => (by cases h), fun h => ?_⟩⟩
   exact (h.2.2.2.2.2 (hdup hex rfl h.1 h.2.1 h.2.2.1)).elim
 ·refine ⟨false, ?_, by simp [h1, h2, h3, h4, h5, h6]⟩
  by_cases ht : 0 ≤ T <;> by_cases hp : 0 ≤ P <;> simp [h1, h2, h3, h4, h5, h6, ht, hp]
end Go.Arm
