/- Plain laws. -/
import Derived.Test.YtmojccilbgjngaaPl15
namespace Go.Arm
open Go

open Classical in
theorem rcheck_l3 (N : Nat) (c : List (List Deed)) {p : Nat} {l : List Deed} (hp : c[p]? = some l) (hN : 1300 ≤ N) (hl : l.length ≤ 1000) :
  (ref08_Check_l3 N c (p : Int) N 0 = some (.inl ()) ∧ ∀ k d, l[k]? = some d → Good d (l.take k) c.length) ∨ (ref08_Check_l3 N c (p : Int) N 0 = some (.inr 2) ∧ ¬ ∀ k d, l[k]? = some d → Good d (l.take k) c.length) := by
 have key : ∀ (m k : Nat), l.length - k < m → k ≤ l.length → (∀ i d, i < k → l[i]? = some d → Good d (l.take i) c.length) →
   (ref08_Check_l3 N c (p : Int) m (k : Int) = some (.inl ()) ∧ ∀ k d, l[k]? = some d → Good d (l.take k) c.length) ∨ (ref08_Check_l3 N c (p : Int) m (k : Int) = some (.inr 2) ∧ ¬ ∀ k d, l[k]? = some d → Good d (l.take k) c.length) := by
  intro m
  induction m with
  | zero => intro k h; omega
  | succ m ih =>
   intro k h hk hbef
   rw [ref08_Check_l3, idx_nat, hp, Option.bind_some]
   by_cases hkl : k < l.length
   ·have hR : inR ((k : Int) + 1) := inR_small (by omega) (by omega)
    have e : (k : Int) + 1 = ((k + 1 : Nat) : Int) := rfl
    obtain ⟨b, hb, hg⟩ := rformed_eq N l[k] (l.take k) c.length hN (by simp; omega) (fun i x hx => by
     rw [List.getElem?_take] at hx
     split at hx
     ·have := hbef i x ‹_› hx
      rw [List.take_take, Nat.min_eq_left (by omega)]
      exact this
     ·cases hx)
    rw [if_pos (by simpa using hkl), Option.bind_some, idx_nat, List.getElem?_eq_getElem hkl, Option.bind_some, Option.bind_some, cut_nat l k (by omega), Option.bind_some, hb, Option.bind_some]
    by_cases hG : Good l[k] (l.take k) c.length
    ·have hb1 : b = true := hg.2 hG
     subst hb1
     rw [if_neg (by simp), chk_t hR, e]
     refine ih (k + 1) (by omega) (by omega) (fun i d hi hd => ?_)
     rcases Nat.lt_or_ge i k with h1 | h1
     ·exact hbef i d h1 hd
     ·have : i = k := by omega
      subst this
      rw [List.getElem?_eq_getElem hkl] at hd
      cases hd
      exact hG
    ·have hb1 : b = false := by cases b; rfl; exact absurd (hg.1 rfl) hG
     subst hb1
     rw [if_pos (by simp)]
     exact Or.inr ⟨rfl, fun hh => hG (hh k _ (List.getElem?_eq_getElem hkl))⟩
   ·rw [if_neg (by simpa using hkl)]
    exact Or.inl ⟨rfl, fun i d hd => hbef i d (by have := (List.getElem?_eq_some_iff.1 hd).1; omega) hd⟩
 have := key N 0 (by omega) (by omega) (fun i d hi => by omega)
 rw [show ((0 : Nat) : Int) = 0 from rfl] at this
 exact this
open Classical in
theorem rcheck_exact (N : Nat) (c : List (List Deed)) (hN : 1300 ≤ N) : ∃ e, ref08_Check N c = some e ∧ ChkS c e := by
 unfold ref08_Check
 by_cases h1 : c.length < 1
 ·refine ⟨3, ?_, .range (Or.inl h1)⟩
  have : (c.length : Int) < 1 := by omega
  simp [this]
 by_cases h2 : 64 < c.length
 ·refine ⟨3, ?_, .range (Or.inr h2)⟩
  have h3 : ¬ (c.length : Int) < 1 := by omega
  have h4 : 64 < (c.length : Int) := by omega
  rw [if_neg (by simpa using h3), Option.bind_some]
  simp [h4]
 have h3 : ¬ (c.length : Int) < 1 := by omega
 have h4 : ¬ 64 < (c.length : Int) := by omega
 rw [if_neg (by simpa using h3), Option.bind_some]
 dsimp only
 rw [if_neg (by simpa using h4)]
 have hA := loop_ret0 (F := ref08_Check_l1 N c) (len := c.length) (m := N) (fun k => if ∀ l, c[k]? = some l → l.length ≤ 200 then none else some (9 : Int)) (by omega)
  (fun m k hk => by rw [ref08_Check_l1, if_neg (by simpa using hk)])
  (fun m k hk => by
   rw [ref08_Check_l1, if_pos (by simpa using hk), idx_nat, List.getElem?_eq_getElem hk, Option.bind_some]
   by_cases hG : c[k].length ≤ 200
   ·rw [if_neg (by simp; omega), chk_t (inR_small (by omega) (by omega)), if_pos (by intro d hd; cases hd; exact hG)]; rfl
   ·rw [if_pos (by simp; omega), if_neg (by intro hh; exact hG (hh _ rfl))])
 rcases hA with ⟨hA, hrows⟩ | ⟨k, r, hk, hg, hA, _⟩
 ·have hrows' : ∀ l ∈ c, l.length ≤ 200 := by
   intro l hl
   obtain ⟨k, hk⟩ := List.getElem?_of_mem hl
   have := hrows k (List.getElem?_eq_some_iff.1 hk).1
   by_cases hG : ∀ l, c[k]? = some l → l.length ≤ 200
   ·exact hG l hk
   ·rw [if_neg hG] at this; cases this
  rw [hA, Option.bind_some]
  dsimp only
  have hB := loop_ret0 (F := ref08_Check_l2 N c) (len := c.length) (m := N) (fun k => if ∀ l, c[k]? = some l → ∀ i d, l[i]? = some d → Good d (l.take i) c.length then none else some (2 : Int)) (by omega)
   (fun m k hk => by rw [ref08_Check_l2, if_neg (by simpa using hk)])
   (fun m k hk => by
    rw [ref08_Check_l2, if_pos (by simpa using hk), List.getElem?_eq_getElem hk]
    rcases rcheck_l3 N c (List.getElem?_eq_getElem hk) hN (by have := hrows' c[k] (List.getElem_mem hk); omega) with ⟨e, hG⟩ | ⟨e, hG⟩
    ·rw [e, Option.bind_some]
     dsimp only
     rw [chk_t (inR_small (by omega) (by omega)), if_pos (by intro d hd; cases hd; exact hG)]; rfl
    ·rw [e, Option.bind_some, if_neg (by intro hh; exact hG (hh _ rfl))])
  rcases hB with ⟨hB, hall⟩ | ⟨k, r, hk, hg, hB, _⟩
  ·rw [hB]
   refine ⟨0, rfl, .ok ⟨by omega, by omega, hrows', ?_⟩⟩
   intro l hl
   obtain ⟨k, hk⟩ := List.getElem?_of_mem hl
   have := hall k (List.getElem?_eq_some_iff.1 hk).1
   by_cases hG : ∀ l, c[k]? = some l → ∀ i d, l[i]? = some d → Good d (l.take i) c.length
   ·exact hG l hk
   ·rw [if_neg hG] at this; cases this
  ·rw [hB]
   by_cases hG : ∀ l, c[k]? = some l → ∀ i d, l[i]? = some d → Good d (l.take i) c.length
   ·rw [if_pos hG] at hg; cases hg
   ·rw [if_neg hG] at hg; cases hg
    exact ⟨2, rfl, .arg ⟨by omega, by omega⟩ hrows' (fun h => (hG (fun l hl => h l (List.mem_of_getElem? hl))).elim)⟩
 ·rw [hA]
  by_cases hG : ∀ l, c[k]? = some l → l.length ≤ 200
  ·rw [if_pos hG] at hg; cases hg
  ·rw [if_neg hG] at hg; cases hg
   exact ⟨9, rfl, .many ⟨by omega, by omega⟩ (fun h => (hG (fun l hl => h l (List.mem_of_getElem? hl))).elim)⟩
theorem ropen_l2 (N : Nat) (c : List (List Deed)) {p : Nat} {l : List Deed} (hp : c[p]? = some l) (hN : 1300 ≤ N) (hl : l.length ≤ 1000) :
  (ref08_open_l2 N c (p : Int) N 0 = some (.inl ()) ∧ ∀ d ∈ l, openS d = false) ∨ (ref08_open_l2 N c (p : Int) N 0 = some (.inr true) ∧ ¬ ∀ d ∈ l, openS d = false) := by
 have h := loop_ret0 (F := ref08_open_l2 N c (p : Int)) (len := l.length) (m := N) (fun k => match l[k]? with | none => none | some d => if openS d then some true else none) (by omega)
  (fun m k hk => by rw [ref08_open_l2, idx_nat, hp, Option.bind_some, if_neg (by simpa using hk)])
  (fun m k hk => by
   have hR : inR ((k : Int) + 1) := inR_small (by omega) (by omega)
   rw [ref08_open_l2, idx_nat, hp, Option.bind_some, if_pos (by simpa using hk), Option.bind_some, idx_nat, List.getElem?_eq_getElem hk, Option.bind_some, rreceives_eq, Option.bind_some]
   dsimp only
   have e : (if receivesS l[k] = true then (some l).bind fun y53 => (idx y53 (k : Int)).bind fun y59 => some (decide (y59.Peer = -1)) else some false) = some (openS l[k]) := by
    unfold openS
    cases hr : receivesS l[k]
    ·rfl
    ·rw [if_pos rfl, Option.bind_some, idx_nat, List.getElem?_eq_getElem hk, Option.bind_some]; rfl
   rw [e, Option.bind_some]
   cases openS l[k]
   ·rw [if_neg (by simp), if_neg (by simp), chk_t hR]; rfl
   ·rw [if_pos rfl, if_pos rfl])
 rcases h with ⟨e, hall⟩ | ⟨k, r, hk, hg, e, _⟩
 ·left
  refine ⟨e, fun d hd => ?_⟩
  obtain ⟨k, hk⟩ := List.getElem?_of_mem hd
  have := hall k (List.getElem?_eq_some_iff.1 hk).1
  rw [hk] at this
  cases ho : openS d
  ·rfl
  ·simp [ho] at this
 ·right
  rw [e]
  rw [List.getElem?_eq_getElem hk] at hg
  dsimp only at hg
  split at hg
  ·cases hg
   refine ⟨rfl, fun hh => ?_⟩
   rename_i ho
   rw [hh _ (List.getElem_mem hk)] at ho
   cases ho
  ·cases hg
open Classical in
theorem ropen_eq (N : Nat) (c : List (List Deed)) (hN : 1300 ≤ N) (hc : CheckOk c) : ref08_open N c = some (decide (¬ ∀ l ∈ c, ∀ d ∈ l, openS d = false)) := by
 have hmost := hc.most
 unfold ref08_open
 have h := loop_ret0 (F := ref08_open_l1 N c) (len := c.length) (m := N) (fun k => if ∀ d ∈ rowS c k, openS d = false then none else some true) (by omega)
  (fun m k hk => by rw [ref08_open_l1, if_neg (by simpa using hk)])
  (fun m k hk => by
   have hR : inR ((k : Int) + 1) := inR_small (by omega) (by omega)
   have hrow := hc.rows _ (List.getElem_mem hk)
   rw [rowS_eq (List.getElem?_eq_getElem hk), ref08_open_l1, if_pos (by simpa using hk)]
   rcases ropen_l2 N c (List.getElem?_eq_getElem hk) hN (by omega) with ⟨e, h⟩ | ⟨e, h⟩
   ·rw [e, Option.bind_some, if_pos h]
    dsimp only
    rw [chk_t hR]; rfl
   ·rw [e, Option.bind_some, if_neg h])
 rcases h with ⟨e, hall⟩ | ⟨k, r, hk, hg, e, _⟩
 ·rw [e]
  have : ∀ l ∈ c, ∀ d ∈ l, openS d = false := by
   intro l hl
   obtain ⟨k, hk⟩ := List.getElem?_of_mem hl
   have h1 := hall k (List.getElem?_eq_some_iff.1 hk).1
   rw [rowS_eq hk] at h1
   apply Classical.byContradiction
   intro hno
   rw [if_neg hno] at h1
   cases h1
  rw [decide_eq_false (by simpa using this)]; rfl
 ·rw [e]
  rw [rowS_eq (List.getElem?_eq_getElem hk)] at hg
  split at hg
  ·cases hg
  ·cases hg
   rename_i hno
   have h2 : ¬ ∀ l ∈ c, ∀ d ∈ l, openS d = false := fun hh => hno (hh _ (List.getElem_mem hk))
   rw [decide_eq_true h2]; rfl
inductive BegS (c : List (List Deed)) (room : Int) : Int → Prop
 | chk {e : Int} (h : ChkS c e) (k : e ≠ 0) : BegS c room e
 | opn (h : CheckOk c) (k : ¬ ∀ l ∈ c, ∀ d ∈ l, openS d = false) : BegS c room 6
 | neg (h : CheckOk c) (k : ∀ l ∈ c, ∀ d ∈ l, openS d = false) (g : room < 0) : BegS c room 3
 | ok (h : CheckOk c) (k : ∀ l ∈ c, ∀ d ∈ l, openS d = false) (g : 0 ≤ room) : BegS c room 0
theorem BegS.same {c : List (List Deed)} {room e e' : Int} (h : BegS c room e) (h' : BegS c room e') : e = e' := by
 cases h with
 | chk h k =>
  cases h' with
  | chk h2 _ => exact h.same h2
  | opn h2 _ => exact (k (h.same (.ok h2))).elim
  | neg h2 _ _ => exact (k (h.same (.ok h2))).elim
  | ok h2 _ _ => exact (k (h.same (.ok h2))).elim
 | opn h k =>
  cases h' with
  | chk h2 k2 => exact (k2 (h2.same (.ok h))).elim
  | opn _ _ => rfl
  | neg _ k2 _ => exact (k k2).elim
  | ok _ k2 _ => exact (k k2).elim
 | neg h k g =>
  cases h' with
  | chk h2 k2 => exact (k2 (h2.same (.ok h))).elim
  | opn _ k2 => exact (k2 k).elim
  | neg _ _ _ => rfl
  | ok _ _ g2 => omega
 | ok h k g =>
  cases h' with
  | chk h2 k2 => exact (k2 (h2.same (.ok h))).elim
  | opn _ k2 => exact (k2 k).elim
  | neg _ _ g2 => omega
  | ok _ _ _ => rfl
theorem ChkS.ok0 {c : List (List Deed)} (h : ChkS c 0) : CheckOk c := by
 cases h with
 | ok h => exact h
theorem BegS.ok0 {c : List (List Deed)} {room : Int} (h : BegS c room 0) : CheckOk c ∧ (∀ l ∈ c, ∀ d ∈ l, openS d = false) ∧ 0 ≤ room := by
 cases h with
 | chk h k => exact (k rfl).elim
 | ok h k g => exact ⟨h, k, g⟩
theorem started_exact (N : Nat) (c : List (List Deed)) (room : Int) (hN : 1300 ≤ N) : ∃ e, BegS c room e ∧ ref08_started N c room = some (if e = 0 then some ⟨c, room, List.replicate c.length 0⟩ else none, e) := by
 unfold ref08_started
 obtain ⟨e, he, hs⟩ := rcheck_exact N c hN
 rw [he, Option.bind_some]
 by_cases h0 : e = 0
 ·subst h0
  have hc := hs.ok0
  have hmost := hc.most
  rw [if_neg (by simp), ropen_eq N c hN hc, Option.bind_some]
  by_cases hsh : ∀ l ∈ c, ∀ d ∈ l, openS d = false
  ·rw [if_neg (by simpa using hsh)]
   by_cases hr : room < 0
   ·rw [if_pos (by simpa using hr)]
    exact ⟨3, .neg hc hsh hr, rfl⟩
   ·rw [if_neg (by simpa using hr), chk_t ⟨by omega, by omega, by omega⟩, Int.toNat_natCast]
    exact ⟨0, .ok hc hsh (by omega), rfl⟩
  ·rw [if_pos (by simpa using hsh)]
   exact ⟨6, .opn hc hsh, rfl⟩
 ·rw [if_pos (by simpa using h0)]
  exact ⟨e, .chk hs h0, by rw [if_neg h0]⟩
end Go.Arm
