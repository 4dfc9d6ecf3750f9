/- Plain laws. -/
import Derived.Test.YtmojccilbgjngaaPl3
namespace Go.Arm
open Go

def hits (p : Int) (d x : Deed) : Bool := sendsS x && decide (x.Peer = p) && fitsS x d
theorem hits_eq (N : Nat) (p : Int) (d x : Deed) : dead_Narrow_1 N x p d = some (hits p d x) := by
 unfold dead_Narrow_1 hits
 rw [sends_eq, Option.bind_some]
 cases sendsS x
 ·simp
 ·by_cases h : x.Peer = p
  ·simp [h, fits_eq]
  ·simp [h]
def hitAt (c : List (List Deed)) (p : Int) (d : Deed) (j : Nat) : Bool := (c[j]?.getD []).any (hits p d)
def One (c : List (List Deed)) (p : Int) (d : Deed) (n : Nat) (fr : Int) : Prop :=
 (fr = -1 ∧ ∀ j, j < n → hitAt c p d j = false) ∨ ∃ j0 : Nat, j0 < n ∧ fr = (j0 : Int) ∧ ∀ j, j < n → hitAt c p d j = true → j = j0

theorem l3_ok {N : Nat} {c : List (List Deed)} (hN : 1300 ≤ N) (hc : CheckOk c) (p : Int) (d : Deed) : ∀ (m k : Nat) (fr : Int), c.length - k < m → k ≤ c.length → One c p d k fr →
  ∃ o, dead_Narrow_l3 N c p d m (k : Int) fr = some o ∧ ∀ fr', o = some fr' → One c p d c.length fr' := by
 have hmost := hc.most
 intro m
 induction m with
 | zero => intro k fr h; omega
 | succ m ih =>
  intro k fr h hk hO
  rw [dead_Narrow_l3]
  by_cases hkl : k < c.length
  ·have hR : inR ((k : Int) + 1) := inR_small (by omega) (by omega)
   have e : (k : Int) + 1 = ((k + 1 : Nat) : Int) := rfl
   have hrow := hc.rows _ (List.getElem_mem hkl)
   have e1 : (fun x => dead_Narrow_1 N x p d) = fun x => some (hits p d x) := funext (hits_eq N p d)
   have hh : hitAt c p d k = c[k].any (hits p d) := by unfold hitAt; rw [List.getElem?_eq_getElem hkl]; rfl
   rw [if_pos (by simpa using hkl), idx_nat, List.getElem?_eq_getElem hkl, Option.bind_some, e1, cfun_eq N c[k] (hits p d) hN (by omega), Option.bind_some, ← hh]
   cases hb : hitAt c p d k
   ·rw [if_pos (by simp), chk_t hR, e]
    refine ih (k + 1) fr (by omega) (by omega) ?_
    rcases hO with ⟨h1, h2⟩ | ⟨j0, h1, h2, h3⟩
    ·exact Or.inl ⟨h1, fun j hj => by
      rcases Nat.lt_or_ge j k with hj' | hj'
      ·exact h2 j hj'
      ·rw [show j = k by omega]; exact hb⟩
    ·exact Or.inr ⟨j0, by omega, h2, fun j hj hjh => by
      rcases Nat.lt_or_ge j k with hj' | hj'
      ·exact h3 j hj' hjh
      ·rw [show j = k by omega, hb] at hjh; cases hjh⟩
   ·rw [if_neg (by simp)]
    rcases hO with ⟨h1, h2⟩ | ⟨j0, h1, h2, h3⟩
    ·rw [if_neg (by simp [h1]), chk_t hR, e]
     refine ih (k + 1) (k : Int) (by omega) (by omega) (Or.inr ⟨k, by omega, rfl, fun j hj hjh => ?_⟩)
     rcases Nat.lt_or_ge j k with hj' | hj'
     ·rw [h2 j hj'] at hjh; cases hjh
     ·omega
    ·rw [if_pos (by simp [h2])]
     exact ⟨none, rfl, fun _ h => by cases h⟩
  ·rw [if_neg (by simpa using hkl)]
   have : k = c.length := by omega
   subst this
   exact ⟨some fr, rfl, fun fr' h => by cases h; exact hO⟩

def Nar (c : List (List Deed)) (p : Nat) (d x : Deed) : Prop :=
 (openS d = false ∧ x = d) ∨ (openS d = true ∧ ∃ fr, One c (p : Int) d c.length fr ∧ x = Deed.with_Peer d (max 0 fr))
structure Al {α β : Type} (R : α → β → Prop) (y : List α) (z : List β) : Prop where
 len : y.length = z.length
 rel : ∀ (i : Nat) (d : α) (x : β), y[i]? = some d → z[i]? = some x → R d x
theorem Al.snoc {α β : Type} {R : α → β → Prop} {y : List α} {z : List β} {d : α} {x : β} (h : Al R y z) (hd : R d x) : Al R (y ++ [d]) (z ++ [x]) := by
 refine ⟨by simp [h.len], fun i d' x' h1 h2 => ?_⟩
 have hl := h.len
 rcases Nat.lt_trichotomy i y.length with hi | hi | hi
 ·rw [List.getElem?_append_left hi] at h1
  rw [List.getElem?_append_left (by omega)] at h2
  exact h.rel i d' x' h1 h2
 ·subst hi
  rw [List.getElem?_append_right (by omega)] at h1
  rw [List.getElem?_append_right (by omega)] at h2
  simp at h1
  rw [show y.length - z.length = 0 by omega] at h2
  simp at h2
  subst h1 h2
  exact hd
 ·rw [List.getElem?_eq_none (by simp; omega)] at h1; cases h1
theorem l2_ok {N : Nat} {c : List (List Deed)} (hN : 1300 ≤ N) (hc : CheckOk c) (p : Nat) (y : List Deed) (hy : y.length ≤ 200) : ∀ (m k : Nat) (out : List (List Deed)) (z : List Deed), y.length - k < m → k ≤ y.length → p < out.length → out[p]? = some z → Al (Nar c p) (y.take k) z →
  ∃ o, dead_Narrow_l2 N c (p : Int) y m (k : Int) out = some o ∧ ((∀ d ∈ y, openS d = false) → o ≠ none) ∧ ∀ out', o = some out' → ∃ z', out' = out.set p z' ∧ Al (Nar c p) y z' := by
 have hmost := hc.most
 intro m
 induction m with
 | zero => intro k out z h; omega
 | succ m ih =>
  intro k out z h hk hp hz hA
  rw [dead_Narrow_l2]
  by_cases hkl : k < y.length
  ·have hR : inR ((k : Int) + 1) := inR_small (by omega) (by omega)
   have e : (k : Int) + 1 = ((k + 1 : Nat) : Int) := rfl
   have hzl : z.length = k := by rw [← hA.len]; simp; omega
   have push : ∀ x, Nar c p y[k] x → ((z.length + [x].length) * 40 ≤ 140737488355328 ∧ z.length + [x].length ≤ maxLen) ∧
     ∃ o, dead_Narrow_l2 N c (p : Int) y m ((k + 1 : Nat) : Int) (out.set (p : Int).toNat (z ++ [x])) = some o ∧ ((∀ d ∈ y, openS d = false) → o ≠ none) ∧ ∀ out', o = some out' → ∃ z', out' = out.set p z' ∧ Al (Nar c p) y z' := by
    intro x hx
    refine ⟨by rw [List.length_singleton]; exact ⟨by omega, small_len (by omega)⟩, ?_⟩
    rw [Int.toNat_natCast]
    obtain ⟨o, h1, h2, h3⟩ := ih (k + 1) (out.set p (z ++ [x])) (z ++ [x]) (by omega) (by omega) (by simpa using hp) (by rw [List.getElem?_set_self hp]) (by rw [List.take_succ_eq_append_getElem hkl]; exact hA.snoc hx)
    refine ⟨o, h1, h2, fun out' ho => ?_⟩
    obtain ⟨z', h4, h5⟩ := h3 out' ho
    exact ⟨z', by rw [h4, List.set_set], h5⟩
   rw [if_pos (by simpa using hkl), idx_nat, List.getElem?_eq_getElem hkl, Option.bind_some, open_eq, Option.bind_some]
   cases ho : openS y[k]
   ·obtain ⟨hcc, hgo⟩ := push y[k] (Or.inl ⟨ho, rfl⟩)
    rw [if_pos (by simp), idx_nat, hz, Option.bind_some, chk_t hcc, chk_t hR, e]
    exact hgo
   ·rw [if_neg (by simp)]
    have h3 := l3_ok (N := N) hN hc (p : Int) y[k] N 0 (-1) (by omega) (by omega) (Or.inl ⟨rfl, fun j hj => by omega⟩)
    rw [show ((0 : Nat) : Int) = 0 from rfl] at h3
    obtain ⟨o3, h3, h4⟩ := h3
    rw [h3, Option.bind_some]
    have hno : ¬ ∀ d ∈ y, openS d = false := fun hh => by have := hh y[k] (List.getElem_mem hkl); rw [ho] at this; cases this
    cases o3 with
    | none => exact ⟨none, rfl, fun hh => (hno hh).elim, fun _ h => by cases h⟩
    | some fr =>
     obtain ⟨hcc, hgo⟩ := push (Deed.with_Peer y[k] (max 0 fr)) (Or.inr ⟨ho, fr, h4 fr rfl, rfl⟩)
     dsimp only
     rw [idx_nat, hz, Option.bind_some, chk_t hcc, chk_t hR, e]
     exact hgo
  ·rw [if_neg (by simpa using hkl)]
   refine ⟨some out, rfl, (fun _ h => by cases h), fun out' h => ?_⟩
   cases h
   refine ⟨z, ?_, ?_⟩
   ·obtain ⟨h1, h2⟩ := List.getElem?_eq_some_iff.1 hz
    rw [← h2, List.set_getElem_self]
   ·rw [List.take_of_length_le (by omega)] at hA; exact hA

structure NarOk (c l : List (List Deed)) : Prop where
 len : l.length = c.length
 row : ∀ (j : Nat) (y z : List Deed), c[j]? = some y → l[j]? = some z → Al (Nar c j) y z
theorem l1_ok {N : Nat} {c : List (List Deed)} (hN : 1300 ≤ N) (hc : CheckOk c) : ∀ (m k : Nat) (out : List (List Deed)), c.length - k < m → k ≤ c.length → out.length = c.length →
  (∀ (j : Nat) (y z : List Deed), j < k → c[j]? = some y → out[j]? = some z → Al (Nar c j) y z) → (∀ j : Nat, k ≤ j → j < c.length → out[j]? = some []) →
  ∃ o, dead_Narrow_l1 N c m (k : Int) out = some o ∧ ((∀ l ∈ c, ∀ d ∈ l, openS d = false) → o ≠ none) ∧ ∀ l, o = some l → NarOk c l := by
 have hmost := hc.most
 intro m
 induction m with
 | zero => intro k out h; omega
 | succ m ih =>
  intro k out h hk hlen h1 h2
  rw [dead_Narrow_l1]
  by_cases hkl : k < c.length
  ·have hR : inR ((k : Int) + 1) := inR_small (by omega) (by omega)
   have e : (k : Int) + 1 = ((k + 1 : Nat) : Int) := rfl
   have hmem := List.getElem_mem hkl
   have hrow := hc.rows _ hmem
   have hl2 := l2_ok (N := N) hN hc k c[k] hrow N 0 out [] (by omega) (by omega) (by omega) (h2 k (by omega) hkl) ⟨by simp, by simp⟩
   rw [show ((0 : Nat) : Int) = 0 from rfl] at hl2
   obtain ⟨o, h3, h4, h5⟩ := hl2
   rw [if_pos (by simpa using hkl), idx_nat, List.getElem?_eq_getElem hkl, Option.bind_some, h3, Option.bind_some]
   cases o with
   | none => exact ⟨none, rfl, fun hh => (h4 (hh _ hmem) rfl).elim, fun _ h => by cases h⟩
   | some out' =>
    obtain ⟨z', rfl, hz'⟩ := h5 out' rfl
    dsimp only
    rw [chk_t hR, e]
    refine ih (k + 1) _ (by omega) (by omega) (by simpa using hlen) ?_ ?_
    ·intro j y z hj hy hz
     by_cases hjk : k = j
     ·subst hjk
      rw [List.getElem?_set_self (by omega)] at hz
      rw [List.getElem?_eq_getElem hkl] at hy
      cases hy; cases hz
      exact hz'
     ·rw [List.getElem?_set_ne hjk] at hz
      exact h1 j y z (by omega) hy hz
    ·intro j hj hjl
     rw [List.getElem?_set_ne (by omega)]
     exact h2 j (by omega) hjl
  ·rw [if_neg (by simpa using hkl)]
   refine ⟨some out, rfl, (fun _ h => by cases h), fun l h => ?_⟩
   cases h
   exact ⟨hlen, fun j y z hy hz => h1 j y z (by have := (List.getElem?_eq_some_iff.1 hy).1; omega) hy hz⟩
theorem Narrow_ok {N : Nat} {c : List (List Deed)} (hN : 1300 ≤ N) (hc : CheckOk c) : ∃ o : Option (List (List Deed)), dead_Narrow N c = some (match o with | none => ([], false, 0) | some l => (l, true, 0)) ∧
  ((∀ l ∈ c, ∀ d ∈ l, openS d = false) → o ≠ none) ∧ ∀ l, o = some l → NarOk c l := by
 have hmost := hc.most
 have h := l1_ok (N := N) hN hc N 0 (List.replicate ((c.length : Int)).toNat []) (by omega) (by omega) (by simp) (fun j y z hj => by omega) (fun j _ hj => by rw [List.getElem?_replicate, if_pos (by simpa using hj)])
 rw [show ((0 : Nat) : Int) = 0 from rfl] at h
 obtain ⟨o, h1, h2, h3⟩ := h
 refine ⟨o, ?_, h2, h3⟩
 unfold dead_Narrow
 rw [check_0 hN hc, Option.bind_some, if_neg (by simp), chk_t ⟨by omega, by omega, by omega⟩, h1, Option.bind_some]
 cases o <;> rfl

theorem Nar.kind {c : List (List Deed)} {p : Nat} {d x : Deed} (h : Nar c p d x) : x.Kind = d.Kind := by
 rcases h with ⟨_, rfl⟩ | ⟨_, fr, _, rfl⟩ <;> rfl
theorem Nar.shut {c : List (List Deed)} {p : Nat} {d x : Deed} (h : Nar c p d x) : openS x = false := by
 rcases h with ⟨h, rfl⟩ | ⟨_, fr, _, rfl⟩
 ·exact h
 ·unfold openS
  have : (Deed.with_Peer d (max 0 fr)).Peer = max 0 fr := rfl
  have h2 : ¬ max 0 fr = -1 := by omega
  simp [this, h2]
theorem Al.take {α β : Type} {R : α → β → Prop} {y : List α} {z : List β} (h : Al R y z) (k : Nat) : Al R (y.take k) (z.take k) := by
 refine ⟨by simp [h.len], fun i d x h1 h2 => ?_⟩
 rw [List.getElem?_take] at h1 h2
 split at h1
 ·rw [if_pos ‹_›] at h2; exact h.rel i d x h1 h2
 ·cases h1
theorem Al.countP {α β : Type} {R : α → β → Prop} {f : α → Bool} {g : β → Bool} (hfg : ∀ d x, R d x → f d = g x) : ∀ (y : List α) (z : List β), Al R y z → y.countP f = z.countP g
 | [], [], _ => rfl
 | [], _ :: _, h => by have := h.len; simp at this
 | _ :: _, [], h => by have := h.len; simp at this
 | a :: y, b :: z, h => by
  have h1 := h.rel 0 a b rfl rfl
  have h2 : Al R y z := ⟨by have := h.len; simpa using this, fun i d x hd hx => h.rel (i + 1) d x (by simpa using hd) (by simpa using hx)⟩
  rw [List.countP_cons, List.countP_cons, Al.countP hfg y z h2, hfg a b h1]
theorem Al.mem {α β : Type} {R : α → β → Prop} {y : List α} {z : List β} (h : Al R y z) {x : β} (hx : x ∈ z) : ∃ d ∈ y, R d x := by
 obtain ⟨i, hi⟩ := List.getElem?_of_mem hx
 have hl := (List.getElem?_eq_some_iff.1 hi).1
 have hy : i < y.length := by rw [h.len]; exact hl
 exact ⟨y[i], List.getElem_mem hy, h.rel i _ x (List.getElem?_eq_getElem hy) hi⟩

theorem NarOk.case {c l : List (List Deed)} (h : NarOk c l) (hc : CheckOk c) (h6 : c.length ≤ 6) : CaseOk l := by
 have hl := h.len
 have hrow : ∀ z ∈ l, ∃ (j : Nat) (y : List Deed), y ∈ c ∧ c[j]? = some y ∧ Al (Nar c j) y z := by
  intro z hz
  obtain ⟨j, hj⟩ := List.getElem?_of_mem hz
  have hjl := (List.getElem?_eq_some_iff.1 hj).1
  have hjc : j < c.length := by omega
  exact ⟨j, c[j], List.getElem_mem hjc, List.getElem?_eq_getElem hjc, h.row j _ z (List.getElem?_eq_getElem hjc) hj⟩
 refine ⟨⟨by rw [hl]; exact hc.one, by rw [hl]; exact hc.most, ?_, ?_⟩, ?_, by rw [hl]; exact h6⟩
 ·intro z hz
  obtain ⟨j, y, hy, _, hA⟩ := hrow z hz
  rw [← hA.len]; exact hc.rows y hy
 ·intro z hz k x hx
  obtain ⟨j, y, hy, _, hA⟩ := hrow z hz
  have hkz := (List.getElem?_eq_some_iff.1 hx).1
  have hky : k < y.length := by rw [hA.len]; exact hkz
  have hN := hA.rel k y[k] x (List.getElem?_eq_getElem hky) hx
  have hG := hc.good y hy k y[k] (List.getElem?_eq_getElem hky)
  have hcnt : cnt (z.take k) = cnt (y.take k) := by
   unfold cnt
   rw [Al.countP (R := Nar c j) (f := beginsS) (g := beginsS) (fun d x hd => by unfold beginsS; rw [hd.kind]) _ _ (hA.take k)]
  rw [hl]
  unfold Good at hG ⊢
  rw [hcnt]
  rcases hN with ⟨ho, rfl⟩ | ⟨ho, fr, hO, rfl⟩
  ·rcases hG with h | h | h | h | h | h
   ·exact Or.inl h
   ·exact Or.inr (Or.inl h)
   ·exact Or.inr (Or.inr (Or.inl h))
   ·exact Or.inr (Or.inr (Or.inr (Or.inl h)))
   ·refine Or.inr (Or.inr (Or.inr (Or.inr (Or.inl ⟨h.1, h.2.1, h.2.2.1, h.2.2.2.1, h.2.2.2.2.1, h.2.2.2.2.2.1, fun hm => ?_⟩))))
    obtain ⟨d', hd', hR⟩ := (hA.take k).mem hm
    rcases hR with ⟨_, e⟩ | ⟨ho', fr, _, e⟩
    ·rw [e] at h
     exact h.2.2.2.2.2.2 hd'
    ·have h5 := h.1
     rw [e] at h5
     have h7 : d'.Kind = 5 := h5
     unfold openS receivesS at ho'
     simp [h7] at ho'
   ·exact Or.inr (Or.inr (Or.inr (Or.inr (Or.inr h))))
  ·have hpeer : 0 ≤ max 0 fr ∧ max 0 fr < (c.length : Int) := by
    have := hc.one
    rcases hO with ⟨h1, _⟩ | ⟨j0, h1, h2, _⟩ <;> omega
   unfold openS receivesS at ho
   simp at ho
   simp only [Deed.with_Peer]
   rcases hG with h | h | h | h | h | h
   ·exact absurd h.1 (by omega)
   ·exact absurd h.1 (by omega)
   ·exact Or.inr (Or.inr (Or.inl ⟨h.1, Or.inl hpeer, h.2.2.1, h.2.2.2.1, h.2.2.2.2⟩))
   ·exact Or.inr (Or.inr (Or.inr (Or.inl ⟨h.1, Or.inl hpeer, h.2.2.1, h.2.2.2.1, h.2.2.2.2⟩)))
   ·exact absurd h.1 (by omega)
   ·exact absurd h.1 (by omega)
 ·intro z hz x hx
  obtain ⟨j, y, hy, _, hA⟩ := hrow z hz
  obtain ⟨d, _, hR⟩ := hA.mem hx
  exact hR.shut
end Go.Arm
