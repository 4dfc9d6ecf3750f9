/- Plain laws. -/
import Derived.Test.YtmojccilbgjngaaPl16
namespace Go.Arm
open Go

theorem rindex_eq (N : Nat) (l : List Int) (a : Int) (hN : 1300 ≤ N) (hl : l.length ≤ 1000) : (ref02_Index N l a = some (-1) ∧ a ∉ l) ∨ ∃ k : Nat, ref02_Index N l a = some (k : Int) ∧ l[k]? = some a := by
 unfold ref02_Index
 have h := loop_ret0 (F := ref02_Index_l1 N l a) (len := l.length) (m := N) (fun k => if l[k]? = some a then some (k : Int) else none) (by omega)
  (fun m k hk => by rw [ref02_Index_l1, if_neg (by simpa using hk)])
  (fun m k hk => by
   rw [ref02_Index_l1, if_pos (by simpa using hk), idx_nat, List.getElem?_eq_getElem hk]
   by_cases hd : l[k] = a
   ·simp [hd]
   ·rw [Option.bind_some, if_neg (by simpa using hd), chk_t (inR_small (by omega) (by omega)), if_neg (by simpa using hd)]; rfl)
 rcases h with ⟨h, hall⟩ | ⟨k, r, hk, hg, h, _⟩
 ·left
  rw [h]
  refine ⟨rfl, fun hm => ?_⟩
  obtain ⟨k, hk⟩ := List.getElem?_of_mem hm
  have hkl := (List.getElem?_eq_some_iff.1 hk).1
  have := hall k hkl
  rw [if_pos hk] at this
  cases this
 ·right
  rw [h]
  by_cases hk2 : l[k]? = some a
  ·rw [if_pos hk2] at hg
   cases hg
   exact ⟨k, rfl, hk2⟩
  ·rw [if_neg hk2] at hg; cases hg
theorem rindex_mem (N : Nat) (l : List Int) (a : Int) (hN : 1300 ≤ N) (hl : l.length ≤ 1000) : ∃ x, ref02_Index N l a = some x ∧ decide (x < 0) = !decide (a ∈ l) ∧ decide (0 ≤ x) = decide (a ∈ l) := by
 rcases rindex_eq N l a hN hl with ⟨h, hm⟩ | ⟨k, h, hk⟩
 ·exact ⟨-1, h, by simp [hm], by simp [hm]⟩
 ·have hm := List.mem_of_getElem? hk
  refine ⟨k, h, ?_, ?_⟩
  ·rw [decide_eq_false (by omega : ¬ (k : Int) < 0)]; simp [hm]
  ·rw [decide_eq_true (by omega : 0 ≤ (k : Int))]; simp [hm]

theorem take_set {α : Type} (x : List α) (k : Nat) (v : α) : (x.set k v).take k = x.take k := by
 apply List.ext_getElem?
 intro i
 rw [List.getElem?_take, List.getElem?_take]
 split
 ·rw [List.getElem?_set_ne (by omega)]
 ·rfl
theorem take_set_succ {α : Type} (x : List α) (k : Nat) (v : α) (hk : k < x.length) : (x.set k v).take (k + 1) = x.take k ++ [v] := by
 rw [List.take_succ_eq_append_getElem (by simpa using hk), take_set]
 congr 1
 simp

theorem part_stop (N : Nat) (a1 : Int) (y1 y8 : List Deed) (i : Nat) (x : List Int) (v z : Int) (hv : x[i]? = some v) (h0 : 0 ≤ v) (m : Nat) : ref08_Case_partners_l2 N a1 y1 y8 (i : Int) (m + 1) z x = some x := by
 rw [ref08_Case_partners_l2, idx_nat, hv]
 have e2 : (if decide (z < (y8.length : Int)) = true then (some v).bind fun y91 => some (decide (y91 < 0)) else some false) = some false := by
  split
  ·rw [Option.bind_some, decide_eq_false (by omega)]
  ·rfl
 rw [e2, Option.bind_some, if_neg (by simp)]
theorem part_ok (N : Nat) (a1 : Int) (y1 y8 : List Deed) (i k : Nat) (hi : i < y1.length) (hkl : k < y8.length) (hN : 1300 ≤ N) (x : List Int) (hx : x.length = y1.length) (h1 : y1.length ≤ 1000) :
  (if receivesS y8[k] = true then if decide (y8[k].Peer = a1) = true then (idx y1 (i : Int)).bind fun y126 => (some y8[k]).bind fun y132 => (ref08_fits N y126 y132).bind fun y138 => if y138 = true then (cut x 0 (i : Int)).bind fun y146 => (ref02_Index N y146 (k : Int)).bind fun y154 => some (decide (y154 < 0)) else some false else some false else some false) = some (okR y1[i] y8 a1 (x.take i) k) := by
 obtain ⟨z, hz, hz1, _⟩ := rindex_mem N (x.take i) (k : Int) hN (by rw [List.length_take]; omega)
 unfold okR
 rw [List.getElem?_eq_getElem hkl]
 dsimp only
 cases receivesS y8[k]
 ·simp
 ·rw [if_pos rfl]
  by_cases hp : y8[k].Peer = a1
  ·rw [if_pos (by simpa using hp), idx_nat, List.getElem?_eq_getElem hi, Option.bind_some, Option.bind_some, rfits_eq, Option.bind_some, cut_nat x i (by omega), Option.bind_some, hz, Option.bind_some, hz1]
   cases fitsS y1[i] y8[k] <;> simp [hp]
  ·rw [if_neg (by simpa using hp)]; simp [hp]
theorem part_l2 (N : Nat) (a1 : Int) (y1 y8 : List Deed) (i : Nat) (hi : i < y1.length) (hN : 1300 ≤ N) (h1 : y1.length ≤ 1000) (h8 : y8.length ≤ 1000) (x : List Int) (hx : x.length = y1.length) (hxi : x[i]? = some (-1)) : ∀ (m k : Nat), y8.length - k < m → k ≤ y8.length → (∀ j, j < k → okR y1[i] y8 a1 (x.take i) j = false) →
  ref08_Case_partners_l2 N a1 y1 y8 (i : Int) m (k : Int) x = some (x.set i (pickI y1[i] y8 a1 (x.take i))) := by
 have hsame : x.set i (-1) = x := by
  obtain ⟨h2, h3⟩ := List.getElem?_eq_some_iff.1 hxi
  rw [← h3, List.set_getElem_self]
 intro m
 induction m with
 | zero => intro k h; omega
 | succ m ih =>
  intro k h hk hno
  rw [ref08_Case_partners_l2]
  by_cases hkl : k < y8.length
  ·have hR : inR ((k : Int) + 1) := inR_small (by omega) (by omega)
   have e : (k : Int) + 1 = ((k + 1 : Nat) : Int) := rfl
   rw [if_pos (by simpa using hkl), idx_nat, hxi, Option.bind_some, Option.bind_some]
   rw [if_pos (by simp), idx_nat, List.getElem?_eq_getElem hkl, Option.bind_some, rreceives_eq, Option.bind_some, Option.bind_some]
   rw [part_ok N a1 y1 y8 i k hi hkl hN x hx h1, Option.bind_some]
   cases hb : okR y1[i] y8 a1 (x.take i) k
   ·rw [if_neg (by simp), chk_t hR, e]
    refine ih (k + 1) (by omega) (by omega) (fun j hj => ?_)
    rcases Nat.lt_or_ge j k with hj' | hj'
    ·exact hno j hj'
    ·rw [show j = k by omega]; exact hb
   ·rw [if_pos rfl, chk_t hR, pick_some hb hno, Int.toNat_natCast]
    obtain ⟨M, rfl⟩ : ∃ M, m = M + 1 := ⟨m - 1, by omega⟩
    have hxl : (x.set i (k : Int))[i]? = some (k : Int) := List.getElem?_set_self (by omega)
    exact part_stop N a1 y1 y8 i _ _ _ hxl (by omega) M
  ·rw [if_neg (by simpa using hkl), Option.bind_some, if_neg (by simp), pick_none (fun j hj => hno j (by omega)), hsame]
theorem part_l1 (N : Nat) (a1 a2 : Int) (y1 y8 : List Deed) (hN : 1300 ≤ N) (h1 : y1.length ≤ 1000) (h8 : y8.length ≤ 1000) : ∀ (m k : Nat) (x : List Int), y1.length - k < m → k ≤ y1.length → x.length = y1.length → x.take k = partS y8 a1 a2 (y1.take k) →
  ref08_Case_partners_l1 N a1 a2 y1 y8 m (k : Int) x = some (partS y8 a1 a2 y1) := by
 intro m
 induction m with
 | zero => intro k x h; omega
 | succ m ih =>
  intro k x h hk hx hP
  rw [ref08_Case_partners_l1]
  by_cases hkl : k < y1.length
  ·have hR : inR ((k : Int) + 1) := inR_small (by omega) (by omega)
   have e : (k : Int) + 1 = ((k + 1 : Nat) : Int) := rfl
   have hkx : k < x.length := by omega
   rw [if_pos (by simpa using hkl), idx_nat, List.getElem?_eq_getElem hkx, Option.bind_some, idx_nat, List.getElem?_eq_getElem hkl, Option.bind_some, rsends_eq, Option.bind_some]
   have c1 : (if (!sendsS y1[k]) = true then some true else (some y1[k]).bind fun y60 => some (!decide (y60.Peer = a2))) = some (!toS a2 y1[k]) := by
    unfold toS
    cases sendsS y1[k] <;> simp
   rw [c1, Option.bind_some, Int.toNat_natCast]
   dsimp only
   have hsn : partS y8 a1 a2 (y1.take (k + 1)) = partS y8 a1 a2 (y1.take k) ++ [if toS a2 y1[k] then pickI y1[k] y8 a1 (partS y8 a1 a2 (y1.take k)) else -1] := by
    rw [List.take_succ_eq_append_getElem hkl, partS_snoc]
   cases ht : toS a2 y1[k]
   ·rw [if_pos (by simp), chk_t hR, e]
    rw [ht] at hsn
    exact ih (k + 1) _ (by omega) (by omega) (by simpa using hx) (by rw [take_set_succ _ _ _ hkx, hP, hsn]; rfl)
   ·rw [if_neg (by simp)]
    rw [ht] at hsn
    have hl2 := part_l2 N a1 y1 y8 k hkl hN h1 h8 (x.set k (-1)) (by simpa using hx) (List.getElem?_set_self hkx) N 0 (by omega) (by omega) (fun j hj => by omega)
    rw [show ((0 : Nat) : Int) = 0 from rfl, take_set, hP, List.set_set] at hl2
    rw [hl2, Option.bind_some, chk_t hR, e]
    exact ih (k + 1) _ (by omega) (by omega) (by simpa using hx) (by rw [take_set_succ _ _ _ hkx, hP, hsn]; rfl)
  ·rw [if_neg (by simpa using hkl)]
   rw [List.take_of_length_le (by omega), List.take_of_length_le (by omega)] at hP
   rw [hP]

section
variable {N : Nat} {c : List (List Deed)} {room : Int} {av : List Int}
theorem rbegun_eq (h : RunOk ⟨c, room, av⟩) {k : Nat} {l : List Deed} (hl : c[k]? = some l) : ref08_Case_begun N ⟨c, room, av⟩ (k : Int) = some (bgS c (fN av) k) :=
 begun_eq (N := N) (r := ⟨c, room, av⟩) h hl
theorem rpart_eq (hN : 1300 ≤ N) (h : RunOk ⟨c, room, av⟩) {s d : Nat} (hs : s < c.length) (hd : d < c.length) : ref08_Case_partners N ⟨c, room, av⟩ (s : Int) (d : Int) = some (parS c (fN av) s d) := by
 have l1 : (bgS c (fN av) s).length ≤ 200 := bg_len h hs
 have l2 : (bgS c (fN av) d).length ≤ 200 := bg_len h hd
 have hp := part_l1 N (s : Int) (d : Int) (bgS c (fN av) s) (bgS c (fN av) d) hN (by omega) (by omega) N 0 (List.replicate (((bgS c (fN av) s).length : Int)).toNat 0) (by omega) (by omega) (by simp) (by simp [partS])
 rw [show ((0 : Nat) : Int) = 0 from rfl] at hp
 unfold ref08_Case_partners
 rw [rbegun_eq h (List.getElem?_eq_getElem hs), Option.bind_some, rbegun_eq h (List.getElem?_eq_getElem hd), Option.bind_some, chk_t ⟨by omega, by omega, by omega⟩, hp]
 rfl
theorem rtaken_l1 {p i : Nat} {l : List Deed} {m : Deed} (hp : c[p]? = some l) (hil : i < l.length) (h200 : l.length ≤ 200) (P : List Int) (hP : i < P.length) : ∀ (mm k : Nat), i - k < mm → k ≤ i →
  ref08_Case_taken_l1 N ⟨c, room, av⟩ (p : Int) (i : Int) m P mm (((List.range k).countP (freeS c P p m.Peer) : Nat) : Int) (k : Int) = some ((leftS c P p i m.Peer : Nat) : Int) := by
 intro mm
 induction mm with
 | zero => intro k h; omega
 | succ mm ih =>
  intro k h hk
  rw [ref08_Case_taken_l1]
  by_cases hki : k < i
  ·have hR : inR ((k : Int) + 1) := inR_small (by omega) (by omega)
   have e : (k : Int) + 1 = ((k + 1 : Nat) : Int) := rfl
   have hkl : k < l.length := by omega
   have hkP : k < P.length := by omega
   have hle : (List.range k).countP (freeS c P p m.Peer) ≤ k := Nat.le_trans List.countP_le_length (by simp)
   have hgo := ih (k + 1) (by omega) (by omega)
   rw [List.range_succ, List.countP_append, List.countP_singleton] at hgo
   rw [if_pos (by simpa using hki)]
   dsimp only
   rw [idx_nat, hp, Option.bind_some, idx_nat, List.getElem?_eq_getElem hkl, Option.bind_some, rsends_eq, Option.bind_some]
   have e1 : (if sendsS l[k] = true then if decide (l[k].Peer = m.Peer) = true then if (!l[k].Sync) = true then (idx P (k : Int)).bind fun y102 => some (decide (y102 < 0)) else some false else some false else some false) = some (freeS c P p m.Peer k) := by
    unfold freeS toS
    rw [rowS_eq hp, List.getElem?_eq_getElem hkl, idx_nat, List.getElem?_eq_getElem hkP]
    dsimp only
    cases sendsS l[k] <;> by_cases h2 : l[k].Peer = m.Peer <;> cases l[k].Sync <;> simp [h2]
   rw [e1, Option.bind_some]
   cases hf : freeS c P p m.Peer k
   ·rw [if_neg (by simp), chk_t hR, e]
    rw [hf] at hgo
    exact hgo
   ·rw [if_pos rfl, chk_t (inR_small (by omega) (by omega)), chk_t hR, e]
    rw [hf] at hgo
    exact hgo
  ·rw [if_neg (by simpa using hki), show k = i by omega]; rfl
theorem rtaken_eq (hN : 1300 ≤ N) (h : RunOk ⟨c, room, av⟩) {p k : Nat} {l : List Deed} {d : Deed} (hp : c[p]? = some l) (hk : l[k]? = some d) (hs : sendsS d = true) (hb : k ≤ fN av p) : ref08_Case_taken N ⟨c, room, av⟩ (p : Int) (k : Int) = some (takS c room (fN av) p k) := by
 have hG := h.chk.good l (List.mem_of_getElem? hp) k d hk
 obtain ⟨q, hq, hql⟩ := peerS hG hs
 have hql' : q < c.length := hql
 have hpl := (List.getElem?_eq_some_iff.1 hp).1
 have hkl := (List.getElem?_eq_some_iff.1 hk).1
 have h200 : l.length ≤ 200 := h.chk.rows l (List.mem_of_getElem? hp)
 unfold ref08_Case_taken takS
 rw [rowS_eq hp, hk]
 dsimp only
 rw [idx_nat, hp, Option.bind_some, idx_nat, hk, Option.bind_some, hq, rpart_eq hN h hpl hql', Option.bind_some, Int.toNat_natCast]
 have hlen : k < (parS c (fN av) p q).length := by
  unfold parS
  rw [partS_len]
  unfold bgS
  rw [rowS_eq hp, List.length_take]
  omega
 have hl1 := rtaken_l1 (N := N) (room := room) (av := av) (m := d) hp hkl h200 (parS c (fN av) p q) hlen N 0 (by omega) (by omega)
 rw [show ((0 : Nat) : Int) = 0 from rfl, List.range_zero, List.countP_nil, show ((0 : Nat) : Int) = 0 from rfl, hq] at hl1
 rw [idx_nat, List.getElem?_eq_getElem hlen, Option.bind_some]
 by_cases h0 : 0 ≤ (parS c (fN av) p q)[k]
 ·rw [if_pos (by simpa using h0)]; simp [h0]
 ·rw [if_neg (by simpa using h0), hl1]
  simp only [Option.bind_some]
  cases d.Sync
  ·simp [h0]
  ·simp [h0]
theorem rreceived_eq (hN : 1300 ≤ N) (h : RunOk ⟨c, room, av⟩) {p k : Nat} {l : List Deed} {d : Deed} (hp : c[p]? = some l) (hk : l[k]? = some d) (hs : receivesS d = true) : ref08_Case_received N ⟨c, room, av⟩ (p : Int) (k : Int) = some (recS c (fN av) p k) := by
 have hG := h.chk.good l (List.mem_of_getElem? hp) k d hk
 have ho := h.shut l (List.mem_of_getElem? hp) d (List.mem_of_getElem? hk)
 obtain ⟨q, hq, hql⟩ := peerR hG ho hs
 have hql' : q < c.length := hql
 have hpl := (List.getElem?_eq_some_iff.1 hp).1
 have l1 : (bgS c (fN av) q).length ≤ 200 := bg_len h hql'
 unfold ref08_Case_received recS
 rw [rowS_eq hp, hk]
 dsimp only
 rw [idx_nat, hp, Option.bind_some, idx_nat, hk, Option.bind_some, hq, rpart_eq hN h hql' hpl, Option.bind_some, Int.toNat_natCast]
 obtain ⟨z, hz, _, hz2⟩ := rindex_mem N (parS c (fN av) q p) (k : Int) hN (by unfold parS; rw [partS_len]; omega)
 rw [hz, Option.bind_some, hz2]
theorem rmeets_l1 (l : List Deed) : ∀ (m : Nat) (x : Int) (k : Nat), l.length - k < m → k ≤ l.length → l.length ≤ 1000 → 0 ≤ x → x ≤ 1000 * k →
  ref08_Case_meets_l1 N l m x (k : Int) = some (x + ((l.drop k).countP (fun d => decide (d.Kind = 6)) : Nat)) := by
 intro m
 induction m with
 | zero => intro x k h; omega
 | succ m ih =>
  intro x k h hk hl h0 h1
  rw [ref08_Case_meets_l1]
  by_cases hkl : k < l.length
  ·rw [if_pos (by simpa using hkl), idx_nat, List.getElem?_eq_getElem hkl]
   simp only [Option.bind_some]
   have hd : l.drop k = l[k] :: l.drop (k + 1) := List.drop_eq_getElem_cons hkl
   have e : (k : Int) + 1 = ((k + 1 : Nat) : Int) := rfl
   cases hp : decide (l[k].Kind = 6)
   ·rw [if_neg (by simp), chk_t (inR_small (by omega) (by omega)), e, ih x (k + 1) (by omega) (by omega) hl h0 (by omega), hd, List.countP_cons, hp]; simp
   ·rw [if_pos rfl, chk_t (inR_small (by omega) (by omega)), chk_t (inR_small (by omega) (by omega)), e, ih (x + 1) (k + 1) (by omega) (by omega) hl (by omega) (by omega), hd, List.countP_cons, hp]
    simp; omega
  ·rw [if_neg (by simpa using hkl), List.drop_eq_nil_of_le (by omega)]; simp
theorem rmeets_eq (hN : 1300 ≤ N) (h : RunOk ⟨c, room, av⟩) {p : Nat} (hp : p < c.length) : ref08_Case_meets N ⟨c, room, av⟩ (p : Int) = some (meetS c (fN av) p : Int) := by
 have b1 : (bgS c (fN av) p).length ≤ 200 := bg_len h hp
 have e := rmeets_l1 (N := N) (bgS c (fN av) p) N 0 0 (by omega) (by omega) (by omega) (by omega) (by omega)
 rw [show ((0 : Nat) : Int) = 0 from rfl, List.drop_zero, Int.zero_add] at e
 unfold ref08_Case_meets
 rw [rbegun_eq h (List.getElem?_eq_getElem hp), Option.bind_some, e]
 rfl
theorem rrequest_l1 (l : List Deed) (hl : l.length ≤ 1000) (hG : ∀ (k : Nat) (d : Deed), l[k]? = some d → beginsS d = true → d.Req = cnt (l.take k)) (q : Int) (hq : 0 ≤ q ∧ q ≤ 1000) (hr : reqS l q < l.length) : ∀ (m k : Nat), l.length - k < m → k ≤ reqS l q → cnt (l.take k) ≤ q →
  ref08_request_l1 N l m (q - cnt (l.take k)) (k : Int) = some (.inr ((reqS l q : Nat) : Int)) := by
 have hreq := List.findIdx_getElem (w := hr)
 intro m
 induction m with
 | zero => intro k h; omega
 | succ m ih =>
  intro k h hk hc
  rw [ref08_request_l1]
  have hkl : k < l.length := by omega
  have hR : inR ((k : Int) + 1) := inR_small (by omega) (by omega)
  have e : (k : Int) + 1 = ((k + 1 : Nat) : Int) := rfl
  have hcp : 0 ≤ cnt (l.take k) := by unfold cnt; omega
  rw [if_pos (by simpa using hkl), idx_nat, List.getElem?_eq_getElem hkl, Option.bind_some, named_eq, Option.bind_some]
  cases hb : beginsS l[k]
  ·have hne : k ≠ reqS l q := by
    intro he
    subst he
    simp only [Bool.and_eq_true] at hreq
    have h3 := hreq.1
    unfold reqS at hb
    rw [hb] at h3
    cases h3
   have hcnt : cnt (l.take (k + 1)) = cnt (l.take k) := by
    unfold cnt
    rw [List.take_succ_eq_append_getElem hkl, List.countP_append, List.countP_singleton, hb]
    simp
   rw [if_neg (by simp), chk_t hR, e]
   have := ih (k + 1) (by omega) (by omega) (by omega)
   rw [hcnt] at this
   exact this
  ·rw [if_pos rfl]
   have hreqk := hG k _ (List.getElem?_eq_getElem hkl) hb
   by_cases h0 : q - cnt (l.take k) = 0
   ·rw [if_pos (by simpa using h0)]
    have : reqS l q = k := by
     apply Nat.le_antisymm _ hk
     apply Nat.le_of_not_lt
     intro hlt
     have := List.not_of_lt_findIdx hlt
     simp [hb, hreqk] at this
     omega
    rw [this]
   ·have hne : k ≠ reqS l q := by
     intro he
     subst he
     simp only [Bool.and_eq_true, decide_eq_true_eq] at hreq
     have h3 := hreq.2
     unfold reqS at hreqk h0
     omega
    have hcnt : cnt (l.take (k + 1)) = cnt (l.take k) + 1 := by
     unfold cnt
     rw [List.take_succ_eq_append_getElem hkl, List.countP_append, List.countP_singleton, hb]
     simp
    rw [if_neg (by simpa using h0), chk_t (inR_small (by omega) (by omega)), chk_t hR, e]
    have := ih (k + 1) (by omega) (by omega) (by omega)
    rw [hcnt, show q - (cnt (l.take k) + 1) = q - cnt (l.take k) - 1 by omega] at this
    exact this
theorem rrequest_eq (hN : 1300 ≤ N) (hc : CheckOk c) {p a : Nat} {l : List Deed} {d : Deed} (hp : c[p]? = some l) (hk : l[a]? = some d) (h5 : d.Kind = 5) : ref08_request N l d.Req = some ((reqS l d.Req : Nat) : Int) := by
 obtain ⟨k, x, e, hx, hka, _⟩ := req_ok hc hp hk h5
 have b1 := hc.rows l (List.mem_of_getElem? hp)
 have hmem := List.mem_of_getElem? hp
 have hG := hc.good l hmem a d hk
 have hcl : cnt (l.take a) ≤ 200 := by
  unfold cnt
  have := List.countP_le_length (p := beginsS) (l := l.take a)
  rw [List.length_take] at this
  omega
 have hreq : 0 ≤ d.Req ∧ d.Req < cnt (l.take a) := by unfold Good at hG; omega
 have hlt : reqS l d.Req < l.length := by rw [e]; exact (List.getElem?_eq_some_iff.1 hx).1
 have hl1 := rrequest_l1 (N := N) l (by omega) (fun k d hd hb => good_begins (hc.good l hmem k d hd) hb) d.Req ⟨by omega, by omega⟩ hlt N 0 (by omega) (by omega) (by simp [cnt]; omega)
 rw [show ((0 : Nat) : Int) = 0 from rfl, List.take_zero, show cnt [] = 0 from rfl, Int.sub_zero] at hl1
 unfold ref08_request
 rw [hl1]; rfl
theorem rcan_l1 (hN : 1300 ≤ N) (h : RunOk ⟨c, room, av⟩) {p : Nat} (hp : p < c.length) : ref08_Case_can_l1 N ⟨c, room, av⟩ (p : Int) N 0 = some (if (lateS c (fN av) p).isEmpty then .inl () else .inr false) := by
 have hmost : c.length ≤ 64 := h.chk.most
 have hl := loop_ret0 (F := ref08_Case_can_l1 N ⟨c, room, av⟩ (p : Int)) (len := c.length) (m := N) (fun k => if meetS c (fN av) k < meetS c (fN av) p then some false else none) (by omega)
  (fun m k hk => by rw [ref08_Case_can_l1, if_neg (by simpa using hk)])
  (fun m k hk => by
   have hR : inR ((k : Int) + 1) := inR_small (by omega) (by omega)
   rw [ref08_Case_can_l1, if_pos (by simpa using hk), rmeets_eq hN h hk, Option.bind_some, rmeets_eq hN h hp, Option.bind_some]
   by_cases hlt : meetS c (fN av) k < meetS c (fN av) p
   ·rw [if_pos (by simpa using hlt), if_pos hlt]
   ·rw [if_neg (by simpa using hlt), if_neg hlt, chk_t hR]; rfl)
 rcases hl with ⟨e, hall⟩ | ⟨k, r, hk, hg, e, _⟩
 ·rw [e]
  have : (lateS c (fN av) p).isEmpty = true := by
   rw [late_empty]
   intro q hq
   have := hall q hq
   apply Nat.le_of_not_lt
   intro hlt
   rw [if_pos hlt] at this
   cases this
  rw [if_pos this]
 ·rw [e]
  have hlt : meetS c (fN av) k < meetS c (fN av) p := by
   apply Classical.byContradiction
   intro hno
   rw [if_neg hno] at hg
   cases hg
  rw [if_pos hlt] at hg
  cases hg
  have : ¬ (lateS c (fN av) p).isEmpty = true := by
   rw [late_empty]
   intro hh
   have := hh k hk
   omega
  rw [if_neg this]
theorem rcan_eq (hN : 1300 ≤ N) (h : RunOk ⟨c, room, av⟩) {p : Nat} (hpl : p < c.length) : ref08_Case_can N ⟨c, room, av⟩ (p : Int) = some (canS c room (fN av) p) := by
 have hp := List.getElem?_eq_getElem hpl
 generalize c[p] = l at hp
 obtain ⟨a, ha0, hal0⟩ := h.rng p l hp
 have ha : av[p]? = some (a : Int) := ha0
 have hal : a ≤ l.length := hal0
 have hfa := fN_eq ha
 unfold ref08_Case_can canS
 dsimp only
 rw [idx_nat, ha, Option.bind_some, idx_nat, hp, rowS_eq hp, hfa]
 simp only [Option.bind_some]
 by_cases hE : a = l.length
 ·rw [if_pos (by simp [hE]), List.getElem?_eq_none (by omega)]
 have hlt : a < l.length := by omega
 rw [if_neg (by simp; omega), idx_nat, List.getElem?_eq_getElem hlt, Option.bind_some]
 have hk := List.getElem?_eq_getElem hlt
 generalize hd : l[a] = d at *
 by_cases h5 : d.Kind = 5
 ·obtain ⟨k, x, e, hx, hka, hbx, _⟩ := req_ok h.chk hp hk h5
  rw [if_pos (by simpa using h5), rrequest_eq hN h.chk hp hk h5, Option.bind_some, e, idx_nat, hx, Option.bind_some, rsends_eq, Option.bind_some]
  have h1 : ¬ d.Kind = 1 := by omega
  have h2 : ¬ d.Kind = 2 := by omega
  have h6 : ¬ d.Kind = 6 := by omega
  dsimp only
  rw [if_neg h1, if_neg h2, if_neg h6, if_pos h5]
  unfold doesS
  rw [e, rowS_eq hp, hx]
  dsimp only
  cases hsx : sendsS x
  ·have hrx : receivesS x = true := by
    unfold beginsS at hbx; unfold sendsS at hsx; unfold receivesS
    simp at hbx hsx ⊢
    omega
   rw [if_neg (by simp), rreceived_eq hN h hp hx hrx]
   simp
  ·rw [if_pos rfl, rtaken_eq hN h hp hx hsx (by omega)]
   simp
 rw [if_neg (by simpa using h5)]
 by_cases h1 : d.Kind = 1
 ·rw [if_pos (by simpa using h1), rtaken_eq hN h hp hk (by simp [sendsS, h1]) (by omega)]
  simp [h1]
 rw [if_neg (by simpa using h1)]
 by_cases h2 : d.Kind = 2
 ·rw [if_pos (by simpa using h2), rreceived_eq hN h hp hk (by simp [receivesS, h2])]
  simp [h2]
 rw [if_neg (by simpa using h2)]
 by_cases h6 : d.Kind = 6
 ·rw [if_pos (by simpa using h6), rcan_l1 hN h hpl, Option.bind_some]
  simp only [h6]
  cases (lateS c (fN av) p).isEmpty <;> simp
 ·rw [if_neg (by simpa using h6)]; simp [h1, h2, h5, h6]
theorem least_eq (hN : 1300 ≤ N) (h : RunOk ⟨c, room, av⟩) : (ref08_Case_least N ⟨c, room, av⟩ = some (-1) ∧ TermS c room (fN av)) ∨ ∃ k : Nat, k < c.length ∧ ref08_Case_least N ⟨c, room, av⟩ = some (k : Int) ∧ canS c room (fN av) k = true := by
 have hmost : c.length ≤ 64 := h.chk.most
 unfold ref08_Case_least
 have hl := loop_ret0 (F := ref08_Case_least_l1 N ⟨c, room, av⟩) (len := c.length) (m := N) (fun k => if canS c room (fN av) k = true then some (k : Int) else none) (by omega)
  (fun m k hk => by rw [ref08_Case_least_l1, if_neg (by simpa using hk)])
  (fun m k hk => by
   have hR : inR ((k : Int) + 1) := inR_small (by omega) (by omega)
   rw [ref08_Case_least_l1, if_pos (by simpa using hk), rcan_eq hN h hk, Option.bind_some]
   cases canS c room (fN av) k
   ·rw [if_neg (by simp), chk_t hR, if_neg (by simp)]; rfl
   ·rw [if_pos rfl, if_pos rfl])
 rcases hl with ⟨e, hall⟩ | ⟨k, x, hk, hg, e, hbef⟩
 ·rw [e]
  refine Or.inl ⟨rfl, fun p hp => ?_⟩
  have := hall p hp
  cases hc : canS c room (fN av) p
  ·rfl
  ·rw [if_pos hc] at this; cases this
 ·rw [e]
  cases hc : canS c room (fN av) k
  ·rw [if_neg (by simp [hc])] at hg; cases hg
  ·rw [if_pos hc] at hg
   cases hg
   exact Or.inr ⟨k, hk, rfl, hc⟩
end
end Go.Arm
