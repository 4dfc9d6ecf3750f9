/- Plain laws. -/
import Derived.Test.YtmojccilbgjngaaPl1
namespace Go.Arm
open Go

theorem small_len {n : Nat} (h : n ≤ 100000) : n ≤ maxLen := by unfold maxLen; omega
structure RunOk (r : Run) : Prop where
 chk : CheckOk r.c
 shut : ∀ l ∈ r.c, ∀ d ∈ l, openS d = false
 len : r.at_.length = r.c.length
 rng : ∀ (k : Nat) (l : List Deed), r.c[k]? = some l → ∃ a : Nat, r.at_[k]? = some (a : Int) ∧ a ≤ l.length

section
variable {N : Nat} {r : Run}
theorem begun_ok (h : RunOk r) {k : Nat} {l : List Deed} (hl : r.c[k]? = some l) : ∃ j, j ≤ l.length ∧ dead_run_begun N r (k : Int) = some (l.take j) := by
 obtain ⟨a, ha, hal⟩ := h.rng k l hl
 have h200 := h.chk.rows l (List.mem_of_getElem? hl)
 refine ⟨min l.length (a + 1), by omega, ?_⟩
 unfold dead_run_begun
 rw [idx_nat, hl, Option.bind_some, Option.bind_some, idx_nat, ha, Option.bind_some, chk_t (inR_small (by omega) (by omega)), show min (l.length : Int) ((a : Int) + 1) = ((min l.length (a + 1) : Nat) : Int) by omega, cut_nat l _ (by omega)]
 rfl

theorem mset_mem {m : List (Int × Int)} {k v : Int} {kv : Int × Int} (h : kv ∈ mset m k v) : kv.1 = k ∨ kv ∈ m := by
 unfold mset at h
 split at h
 ·rw [List.mem_map] at h
  obtain ⟨e, he, rfl⟩ := h
  split
  ·left; rfl
  ·right; exact he
 ·rw [List.mem_append] at h
  rcases h with h | h
  ·right; exact h
  ·left; simp at h; rw [h]
theorem mset_len {m : List (Int × Int)} {k v : Int} : (mset m k v).length ≤ m.length + 1 := by
 unfold mset
 split <;> simp

theorem pairs_l2_ok (a1 x31 : Int) (y7 : List Deed) (y45 : Deed) (h7 : y7.length ≤ 1000) : ∀ (m k : Nat) (x91 : List (Int × Int)) (x92 : List Bool), y7.length - k < m → x92.length = y7.length →
  ∃ x91' x92', dead_run_pairs_l2 N a1 y7 x31 y45 m (k : Int) x91 x92 = some (x91', x92') ∧ x92'.length = y7.length ∧ (x91' = x91 ∨ ∃ v, x91' = mset x91 x31 v) := by
 intro m
 induction m with
 | zero => intro k x91 x92 h; omega
 | succ m ih =>
  intro k x91 x92 h hx
  rw [dead_run_pairs_l2]
  by_cases hk : k < y7.length
  ·rw [if_pos (by simpa using hk), idx_nat, List.getElem?_eq_getElem hk, Option.bind_some, receives_eq, Option.bind_some, idx_nat, List.getElem?_eq_getElem (by omega)]
   simp only [Option.bind_some, fits_eq]
   have hgo := ih (k + 1) x91 x92 (by omega) hx
   have e : (k : Int) + 1 = ((k + 1 : Nat) : Int) := rfl
   have hR : inR ((k : Int) + 1) := inR_small (by omega) (by omega)
   rw [chk_t hR, e]
   have hset : ∃ x91' x92', some (mset x91 x31 (k : Int), x92.set (k : Int).toNat true) = some (x91', x92') ∧ x92'.length = y7.length ∧ (x91' = x91 ∨ ∃ v, x91' = mset x91 x31 v) := ⟨_, _, rfl, by simpa using hx, Or.inr ⟨_, rfl⟩⟩
   cases receivesS y7[k]
   ·simpa using hgo
   ·by_cases hp : y7[k].Peer = a1
    ·cases hb : x92[k]'(by omega)
     ·cases fitsS y45 y7[k]
      ·simpa [hp] using hgo
      ·simpa [hp] using hset
     ·simpa [hp] using hgo
    ·simpa [hp] using hgo
  ·rw [if_neg (by simpa using hk)]
   exact ⟨_, _, rfl, hx, Or.inl rfl⟩

theorem pairs_l2_ok0 (a1 x31 : Int) (y7 : List Deed) (y45 : Deed) (h7 : y7.length ≤ 1000) (hN : 1300 ≤ N) (x91 : List (Int × Int)) (x92 : List Bool) (hx : x92.length = y7.length) :
  ∃ x91' x92', dead_run_pairs_l2 N a1 y7 x31 y45 N 0 x91 x92 = some (x91', x92') ∧ x92'.length = y7.length ∧ (x91' = x91 ∨ ∃ v, x91' = mset x91 x31 v) := by
 have h := pairs_l2_ok (N := N) a1 x31 y7 y45 h7 N 0 x91 x92 (by omega) hx
 rw [show ((0 : Nat) : Int) = 0 from rfl] at h
 exact h
theorem pairs_l1_ok (a1 a2 : Int) (y7 y22 : List Deed) (hN : 1300 ≤ N) (h7 : y7.length ≤ 1000) (h22 : y22.length ≤ 1000) : ∀ (m k : Nat) (x29 : List (Int × Int)) (x30 : List Bool), y22.length - k < m → x30.length = y7.length →
  (∀ kv ∈ x29, ∃ q : Nat, kv.1 = (q : Int) ∧ q < y22.length) → x29.length ≤ 2 * k → k ≤ y22.length →
  ∃ x, dead_run_pairs_l1 N a1 a2 y7 y22 m (k : Int) x29 x30 = some x ∧ (∀ kv ∈ x, ∃ q : Nat, kv.1 = (q : Int) ∧ q < y22.length) ∧ x.length ≤ 2 * y22.length := by
 intro m
 induction m with
 | zero => intro k x29 x30 h; omega
 | succ m ih =>
  intro k x29 x30 h hx hkv hlen hky
  rw [dead_run_pairs_l1]
  by_cases hk : k < y22.length
  ·rw [if_pos (by simpa using hk), idx_nat, List.getElem?_eq_getElem hk, Option.bind_some, sends_eq, Option.bind_some]
   have e : (k : Int) + 1 = ((k + 1 : Nat) : Int) := rfl
   have hR : inR ((k : Int) + 1) := inR_small (by omega) (by omega)
   have hgo := ih (k + 1) x29 x30 (by omega) hx hkv (by omega) (by omega)
   obtain ⟨x94, x95, h2, h95, h94⟩ := pairs_l2_ok0 (N := N) a1 (k : Int) y7 y22[k] h7 hN (mset x29 (k : Int) (-1)) x30 hx
   have hkv1 : ∀ v (m : List (Int × Int)), (∀ kv ∈ m, ∃ q : Nat, kv.1 = (q : Int) ∧ q < y22.length) → ∀ kv ∈ mset m (k : Int) v, ∃ q : Nat, kv.1 = (q : Int) ∧ q < y22.length := by
    intro v m hm kv h
    rcases mset_mem h with h | h
    ·exact ⟨k, h, hk⟩
    ·exact hm kv h
   have hkv2 : ∀ kv ∈ x94, ∃ q : Nat, kv.1 = (q : Int) ∧ q < y22.length := by
    rcases h94 with rfl | ⟨v, rfl⟩
    ·exact hkv1 _ _ hkv
    ·exact hkv1 _ _ (hkv1 _ _ hkv)
   have hlen2 : x94.length ≤ 2 * (k + 1) := by
    have l1 := mset_len (m := x29) (k := (k : Int)) (v := -1)
    rcases h94 with rfl | ⟨v, rfl⟩
    ·omega
    ·have l2 := mset_len (m := mset x29 (k : Int) (-1)) (k := (k : Int)) (v := v)
     omega
   have hgo2 := ih (k + 1) x94 x95 (by omega) h95 hkv2 hlen2 (by omega)
   by_cases hg : sendsS y22[k] = true ∧ y22[k].Peer = a2
   ·have c1 : (if (!sendsS y22[k]) = true then some true else some (!decide (y22[k].Peer = a2))) = some false := by simp [hg.1, hg.2]
    rw [c1, Option.bind_some]
    dsimp only
    rw [if_neg (by simp)]
    rw [h2, Option.bind_some]
    rw [chk_t hR, e]
    exact hgo2
   ·have c1 : (if (!sendsS y22[k]) = true then some true else some (!decide (y22[k].Peer = a2))) = some true := by
     cases hs : sendsS y22[k]
     ·simp
     ·have : ¬ y22[k].Peer = a2 := fun h => hg ⟨hs, h⟩
      simp [this]
    rw [c1, Option.bind_some]
    dsimp only
    rw [if_pos rfl]
    rw [chk_t hR, e]
    exact hgo
  ·rw [if_neg (by simpa using hk)]
   exact ⟨_, rfl, hkv, by omega⟩

theorem pairs_ok (hN : 1300 ≤ N) (h : RunOk r) {s d : Nat} {ls ld : List Deed} (hs : r.c[s]? = some ls) (hd : r.c[d]? = some ld) :
  ∃ m, dead_run_pairs N r (s : Int) (d : Int) = some ⟨m⟩ ∧ (∀ kv ∈ m, ∃ q : Nat, kv.1 = (q : Int) ∧ q < ls.length) ∧ m.length ≤ 400 := by
 obtain ⟨j, hj, h1⟩ := begun_ok (N := N) h hs
 obtain ⟨i, hi, h2⟩ := begun_ok (N := N) h hd
 have b1 := h.chk.rows ls (List.mem_of_getElem? hs)
 have b2 := h.chk.rows ld (List.mem_of_getElem? hd)
 unfold dead_run_pairs
 have e1 : (ld.take i).length = i := by simp; omega
 have e2 : (ls.take j).length = j := by simp; omega
 rw [h2, Option.bind_some, chk_t ⟨by omega, by omega, by omega⟩, h1, Option.bind_some]
 obtain ⟨x, h3, h4, h5⟩ := pairs_l1_ok (s : Int) (d : Int) (ld.take i) (ls.take j) hN (by omega) (by omega) N 0 [] (List.replicate (((ld.take i).length : Int)).toNat false) (by omega) (by simp) (by simp) (by simp) (by omega)
 rw [show ((0 : Nat) : Int) = 0 from rfl] at h3
 rw [h3]
 exact ⟨x, rfl, fun kv hkv => by obtain ⟨q, h6, h7⟩ := h4 kv hkv; exact ⟨q, h6, by omega⟩, by omega⟩

theorem taken_fold {p : Nat} {l : List Deed} (hp : r.c[p]? = some l) (a2 : Int) (fin : Int → Int) : ∀ (m : List (Int × Int)) (q : Int), (∀ kv ∈ m, ∃ q : Nat, kv.1 = (q : Int) ∧ q < l.length) → 0 ≤ q → q + m.length ≤ 100000 →
  ∃ x, foldE (ρ := Bool) (dead_run_taken_l1 N r (p : Int) a2) fin m q = some (.inl x) := by
 intro m
 induction m with
 | nil => intro q _ _ _; exact ⟨_, rfl⟩
 | cons kv m ih =>
  intro q hkv h0 h1
  simp only [List.length_cons] at h1
  obtain ⟨k, hk, hkl⟩ := hkv kv (by simp)
  have hrest := fun q => ih q (fun kv h => hkv kv (by simp [h]))
  have hD : ∃ b, takenD r (p : Int) a2 kv = some b := by
   unfold takenD
   split
   ·split
    ·rw [idx_nat, hp, Option.bind_some, hk, idx_nat, List.getElem?_eq_getElem hkl]; exact ⟨_, rfl⟩
    ·exact ⟨_, rfl⟩
   ·exact ⟨_, rfl⟩
  obtain ⟨b, hb⟩ := hD
  rw [foldE, dead_run_taken_l1_key, hb]
  cases b
  ·simpa using hrest q h0 (by omega)
  ·rw [show chk (inR (q + 1)) (some (LR.next (q + 1) : LR Int Int Bool)) = some (LR.next (q + 1)) from chk_t (inR_small (by omega) (by omega))]
   simpa using hrest (q + 1) (by omega) (by omega)
theorem received_fold (a2 : Int) : ∀ (m : List (Int × Int)), ∃ x, foldE (ρ := Bool) (dead_run_received_l1 N a2) (fun (q : Unit) => match q with | () => ()) m () = some x := by
 intro m
 induction m with
 | nil => exact ⟨_, rfl⟩
 | cons kv m ih =>
  have e : dead_run_received_l1 N a2 kv () = if kv.2 = a2 then some (LR.ret true) else some (LR.next ()) := by unfold dead_run_received_l1; by_cases h : kv.2 = a2 <;> simp [h]
  rw [foldE, e]
  by_cases h : kv.2 = a2
  ·rw [if_pos h]; exact ⟨_, rfl⟩
  ·rw [if_neg h]; exact ih

theorem taken_ok (hN : 1300 ≤ N) (h : RunOk r) {p k : Nat} {l : List Deed} {d : Deed} (hp : r.c[p]? = some l) (hk : l[k]? = some d) (hs : sendsS d = true) : ∃ b, dead_run_taken N r (p : Int) (k : Int) = some b := by
 have hG := h.chk.good l (List.mem_of_getElem? hp) k d hk
 have hpeer : 0 ≤ d.Peer ∧ d.Peer < r.c.length := by
  unfold sendsS at hs
  simp at hs
  unfold Good at hG
  omega
 obtain ⟨q, hq⟩ : ∃ q : Nat, d.Peer = (q : Int) := ⟨d.Peer.toNat, by omega⟩
 have hql : q < r.c.length := by omega
 obtain ⟨m, h1, h2, h3⟩ := pairs_ok hN h hp (List.getElem?_eq_getElem hql)
 unfold dead_run_taken
 rw [idx_nat, hp, Option.bind_some, idx_nat, hk, Option.bind_some, hq, h1, Option.bind_some]
 split
 ·exact ⟨_, rfl⟩
 ·obtain ⟨x, hx⟩ := taken_fold (N := N) hp (k : Int) (fun (q : Int) => match q with | x46 => x46) m 0 h2 (by omega) (by omega)
  rw [hx]
  simp only [Option.bind_some]
  split <;> exact ⟨_, rfl⟩
theorem received_ok (hN : 1300 ≤ N) (h : RunOk r) {p k : Nat} {l : List Deed} {d : Deed} (hp : r.c[p]? = some l) (hk : l[k]? = some d) (hs : receivesS d = true) : ∃ b, dead_run_received N r (p : Int) (k : Int) = some b := by
 have hG := h.chk.good l (List.mem_of_getElem? hp) k d hk
 have ho := h.shut l (List.mem_of_getElem? hp) d (List.mem_of_getElem? hk)
 have hpeer : 0 ≤ d.Peer ∧ d.Peer < r.c.length := by
  unfold openS at ho
  rw [hs] at ho
  unfold receivesS at hs
  simp at hs ho
  unfold Good at hG
  omega
 obtain ⟨q, hq⟩ : ∃ q : Nat, d.Peer = (q : Int) := ⟨d.Peer.toNat, by omega⟩
 have hql : q < r.c.length := by omega
 obtain ⟨m, h1, h2, h3⟩ := pairs_ok hN h (List.getElem?_eq_getElem hql) hp
 unfold dead_run_received
 rw [idx_nat, hp, Option.bind_some, idx_nat, hk, Option.bind_some, hq, h1, Option.bind_some]
 obtain ⟨x, hx⟩ := received_fold (N := N) (k : Int) m
 rw [hx]
 cases x <;> exact ⟨_, rfl⟩
theorem meetings_ok (hN : 1300 ≤ N) (h : RunOk r) {p : Nat} (hp : p < r.c.length) : ∃ b, dead_run_meetings N r (p : Int) = some b := by
 obtain ⟨j, hj, h1⟩ := begun_ok (N := N) h (List.getElem?_eq_getElem hp)
 have b1 := h.chk.rows _ (List.getElem_mem hp)
 unfold dead_run_meetings
 rw [h1, Option.bind_some, show (fun x => dead_run_meetings_1 N x) = fun x => some (decide (x.Kind = 6)) from rfl, count_eq N _ _ hN (by simp; omega)]
 exact ⟨_, rfl⟩
theorem late_l1_ok (hN : 1300 ≤ N) (h : RunOk r) {p : Nat} (hp : p < r.c.length) : ∀ (m k : Nat) (x : List Int), r.c.length - k < m → x.length ≤ k → ∃ b, dead_run_late_l1 N r (p : Int) m x (k : Int) = some b := by
 have hmost := h.chk.most
 intro m
 induction m with
 | zero => intro k x h; omega
 | succ m ih =>
  intro k x hk hx
  rw [dead_run_late_l1]
  by_cases hkl : k < r.c.length
  ·obtain ⟨b1, e1⟩ := meetings_ok hN h hkl
   obtain ⟨b2, e2⟩ := meetings_ok hN h hp
   have e : (k : Int) + 1 = ((k + 1 : Nat) : Int) := rfl
   rw [if_pos (by simpa using hkl), e1, Option.bind_some, e2, Option.bind_some]
   have hR : inR ((k : Int) + 1) := inR_small (by omega) (by omega)
   split
   ·have hlen1 : (x ++ [(k : Int)]).length ≤ k + 1 := by rw [List.length_append, List.length_singleton]; omega
    have hc : (x.length + ([(k : Int)] : List Int).length) * 8 ≤ 140737488355328 ∧ x.length + ([(k : Int)] : List Int).length ≤ maxLen := by
     rw [List.length_singleton]
     exact ⟨by omega, small_len (by omega)⟩
    rw [chk_t hc, chk_t hR, e]
    exact ih (k + 1) _ (by omega) hlen1
   ·rw [chk_t hR, e]
    exact ih (k + 1) _ (by omega) (by omega)
  ·rw [if_neg (by simpa using hkl)]; exact ⟨_, rfl⟩
theorem late_ok (hN : 1300 ≤ N) (h : RunOk r) {p : Nat} (hp : p < r.c.length) : ∃ b, dead_run_late N r (p : Int) = some b := by
 have hmost := h.chk.most
 obtain ⟨b, e⟩ := late_l1_ok hN h hp N 0 [] (by omega) (by simp)
 unfold dead_run_late
 rw [show ((0 : Nat) : Int) = 0 from rfl] at e
 rw [e]; exact ⟨_, rfl⟩
end

theorem req_found (l : List Deed) (hl : ∀ (k : Nat) (d : Deed), l[k]? = some d → beginsS d = true → d.Req = cnt (l.take k)) (q : Int) (h0 : 0 ≤ q) : ∀ k : Nat, k ≤ l.length → q < cnt (l.take k) → ∃ (j : Nat) (d : Deed), l[j]? = some d ∧ beginsS d = true ∧ d.Req = q := by
 intro k
 induction k with
 | zero => intro _ h; simp [cnt] at h; omega
 | succ k ih =>
  intro hk h
  have hkl : k < l.length := by omega
  rw [List.take_succ_eq_append_getElem hkl] at h
  unfold cnt at h
  rw [List.countP_append] at h
  by_cases hq : q < cnt (l.take k)
  ·exact ih (by omega) hq
  ·unfold cnt at hq
   cases hb : beginsS l[k]
   ·simp [hb] at h; omega
   ·simp [hb] at h
    refine ⟨k, l[k], List.getElem?_eq_getElem hkl, hb, ?_⟩
    rw [hl k _ (List.getElem?_eq_getElem hkl) hb]
    unfold cnt
    omega

section
variable {N : Nat} {r : Run}
theorem good_begins {d : Deed} {b : List Deed} {n : Int} (h : Good d b n) (hb : beginsS d = true) : d.Req = cnt b := by
 unfold beginsS at hb; simp at hb; unfold Good at h; omega
theorem can_ok (hN : 1300 ≤ N) (h : RunOk r) {p : Nat} {l : List Deed} (hp : r.c[p]? = some l) : ∃ (b : Bool) (a : Nat), dead_run_can N r (p : Int) = some b ∧ r.at_[p]? = some (a : Int) ∧ a ≤ l.length ∧ (b = true → a < l.length) := by
 obtain ⟨a, ha, hal⟩ := h.rng p l hp
 have hpl := (List.getElem?_eq_some_iff.1 hp).1
 unfold dead_run_can
 rw [idx_nat, ha, Option.bind_some, idx_nat, hp]
 simp only [Option.bind_some]
 by_cases hE : a = l.length
 ·rw [if_pos (by simp [hE])]; exact ⟨false, a, rfl, rfl, hal, by simp⟩
 have hlt : a < l.length := by omega
 rw [if_neg (by simp; omega), idx_nat, List.getElem?_eq_getElem hlt, Option.bind_some]
 have hk := List.getElem?_eq_getElem hlt
 have hG := h.chk.good l (List.mem_of_getElem? hp) a _ hk
 have fin : ∀ x : Option Bool, (∃ b, x = some b) → ∃ (b : Bool) (a' : Nat), x = some b ∧ some (a : Int) = some (a' : Int) ∧ a' ≤ l.length ∧ (b = true → a' < l.length) := fun x ⟨b, e⟩ => ⟨b, a, e, rfl, hal, fun _ => hlt⟩
 apply fin
 generalize hd : l[a] = d at *
 by_cases h1 : d.Kind = 1
 ·obtain ⟨b, e⟩ := taken_ok hN h hp hk (by simp [sendsS, h1])
  rw [if_pos (by simpa using h1), dead_run_can_1, e]; exact ⟨_, rfl⟩
 rw [if_neg (by simpa using h1)]
 by_cases h2 : d.Kind = 2
 ·obtain ⟨b, e⟩ := received_ok hN h hp hk (by simp [receivesS, h2])
  rw [if_pos (by simpa using h2), dead_run_can_2, e]; exact ⟨_, rfl⟩
 rw [if_neg (by simpa using h2)]
 by_cases h6 : d.Kind = 6
 ·obtain ⟨b, e⟩ := late_ok hN h hpl
  rw [if_pos (by simpa using h6), dead_run_can_3, e]; exact ⟨_, rfl⟩
 rw [if_neg (by simpa using h6)]
 by_cases h5 : d.Kind = 5
 ·rw [if_pos (by simpa using h5), dead_run_can_4, idx_nat, hp, Option.bind_some, idx_nat, hk, Option.bind_some]
  have hreq : 0 ≤ d.Req ∧ d.Req < cnt (l.take a) := by unfold Good at hG; omega
  obtain ⟨j, dj, hj, hjb, hjr⟩ := req_found l (fun k d hd hb => good_begins (h.chk.good l (List.mem_of_getElem? hp) k d hd) hb) d.Req hreq.1 a hal hreq.2
  have b1 := h.chk.rows l (List.mem_of_getElem? hp)
  have e1 : (fun x => dead_run_request_1 N x d.Req) = fun x => some (beginsS x && decide (x.Req = d.Req)) := by
   funext x; unfold dead_run_request_1; rw [begins_eq]; cases beginsS x <;> simp
  obtain ⟨ri, hri, hor⟩ := ifun_eq N l (fun x => beginsS x && decide (x.Req = d.Req)) hN (by omega)
  unfold dead_run_request
  rw [idx_nat, hp, Option.bind_some, e1, hri, Option.bind_some, Option.bind_some]
  rcases hor with ⟨_, hall⟩ | ⟨k, x, rfl, hx, hxp⟩
  ·have := hall dj (List.mem_of_getElem? hj)
   simp [hjb, hjr] at this
  ·simp only [idx_nat, Option.bind_some, hx, sends_eq]
   simp at hxp
   cases hsx : sendsS x
   ·have hrx : receivesS x = true := by
     have := hxp.1
     unfold beginsS at this; unfold sendsS at hsx; unfold receivesS
     simp at this hsx ⊢
     omega
    obtain ⟨b, e⟩ := received_ok hN h hp hx hrx
    rw [if_neg (by simp), e]; exact ⟨_, rfl⟩
   ·obtain ⟨b, e⟩ := taken_ok hN h hp hx hsx
    rw [if_pos rfl, e]; exact ⟨_, rfl⟩
 ·rw [if_neg (by simpa using h5)]; exact ⟨_, rfl⟩
end
end Go.Arm
