/- Plain laws. -/
import Derived.Test.YtmojccilbgjngaaPl4
import Derived.Test.YtmojccilbgjngaaPl15
import Derived.Test.YtmojccilbgjngaaPl16
import Derived.Test.YtmojccilbgjngaaPl17
namespace Go.Arm
open Go

def srcS (c : List (List Deed)) (p : Int) (d : Deed) (k : Nat) : List Nat := (List.range k).filter (hitAt c p d)
def frS : List Nat → Option Int
 | [] => some (-1)
 | [s] => some (s : Int)
 | _ => none
def narD (c : List (List Deed)) (p : Nat) (d : Deed) : Option Deed := if openS d then (frS (srcS c (p : Int) d c.length)).map (fun fr => Deed.with_Peer d (max 0 fr)) else some d
def narL (c : List (List Deed)) (p : Nat) : List Deed → Option (List Deed)
 | [] => some []
 | d :: l => (narD c p d).bind fun x => (narL c p l).map (x :: ·)
def narR (c : List (List Deed)) : Nat → List (List Deed) → Option (List (List Deed))
 | _, [] => some []
 | k, l :: r => (narL c k l).bind fun x => (narR c (k + 1) r).map (x :: ·)
theorem srcS_succ (c : List (List Deed)) (p : Int) (d : Deed) (k : Nat) : srcS c p d (k + 1) = srcS c p d k ++ (if hitAt c p d k then [k] else []) := by
 unfold srcS
 rw [List.range_succ, List.filter_append]
 congr 1
 cases h : hitAt c p d k <;> simp [h]
theorem srcS_len (c : List (List Deed)) (p : Int) (d : Deed) (k n : Nat) (h : k ≤ n) : (srcS c p d k).length ≤ (srcS c p d n).length := by
 induction n with
 | zero => rw [show k = 0 by omega]; exact Nat.le_refl _
 | succ n ih =>
  rcases Nat.lt_or_ge k (n + 1) with h1 | h1
  ·rw [srcS_succ, List.length_append]
   have := ih (by omega)
   omega
  ·rw [show k = n + 1 by omega]; exact Nat.le_refl _
theorem frS_two {l : List Nat} (h : 2 ≤ l.length) : frS l = none := by
 match l, h with
 | _ :: _ :: _, _ => rfl
theorem nl3_eq {N : Nat} {c : List (List Deed)} (hN : 1300 ≤ N) (hc : CheckOk c) (p : Int) (d : Deed) : ∀ (m k : Nat) (fr : Int), c.length - k < m → k ≤ c.length → frS (srcS c p d k) = some fr → 
  dead_Narrow_l3 N c p d m (k : Int) fr = some (frS (srcS c p d c.length)) := by
 have hmost := hc.most
 intro m
 induction m with
 | zero => intro k fr h; omega
 | succ m ih =>
  intro k fr h hk hO
  rw [dead_Narrow_l3]
  by_cases hkl : k < c.length
  ·have hR : inR ((k : Int) + 1) := inR_small (by omega) (by omega)
   have e : (k : Int) + 1 = ((k + 1 : Nat) : Int) := rfl
   have hrow := hc.rows _ (List.getElem_mem hkl)
   have e1 : (fun x => dead_Narrow_1 N x p d) = fun x => some (hits p d x) := funext (hits_eq N p d)
   have hh : hitAt c p d k = c[k].any (hits p d) := by unfold hitAt; rw [List.getElem?_eq_getElem hkl]; rfl
   have hsu := srcS_succ c p d k
   rw [if_pos (by simpa using hkl), idx_nat, List.getElem?_eq_getElem hkl, Option.bind_some, e1, cfun_eq N c[k] (hits p d) hN (by omega), Option.bind_some, ← hh]
   cases hb : hitAt c p d k
   ·rw [if_pos (by simp), chk_t hR, e]
    rw [hb] at hsu
    refine ih (k + 1) fr (by omega) (by omega) ?_
    rw [hsu]
    simpa using hO
   ·rw [if_neg (by simp)]
    rw [hb] at hsu
    rcases hs : srcS c p d k with _ | ⟨s, _ | ⟨s', r⟩⟩
    ·rw [hs] at hO hsu
     cases hO
     rw [if_neg (by simp), chk_t hR, e]
     refine ih (k + 1) (k : Int) (by omega) (by omega) ?_
     rw [hsu]; rfl
    ·rw [hs] at hO hsu
     cases hO
     rw [if_pos (by simp)]
     have h2 := srcS_len c p d (k + 1) c.length (by omega)
     rw [hsu] at h2
     rw [frS_two (by simpa using h2)]
    ·rw [hs] at hO; cases hO
  ·rw [if_neg (by simpa using hkl), show c.length = k by omega, hO]
theorem nl2_eq {N : Nat} {c : List (List Deed)} (hN : 1300 ≤ N) (hc : CheckOk c) (p : Nat) (y : List Deed) (hy : y.length ≤ 200) : ∀ (m k : Nat) (out : List (List Deed)) (z : List Deed), y.length - k < m → k ≤ y.length → out[p]? = some z → z.length ≤ k →
  dead_Narrow_l2 N c (p : Int) y m (k : Int) out = some ((narL c p (y.drop k)).map fun z' => out.set p (z ++ z')) := by
 have hmost := hc.most
 intro m
 induction m with
 | zero => intro k out z h; omega
 | succ m ih =>
  intro k out z h hk hz hzl
  have hp := (List.getElem?_eq_some_iff.1 hz).1
  rw [dead_Narrow_l2]
  by_cases hkl : k < y.length
  ·have hR : inR ((k : Int) + 1) := inR_small (by omega) (by omega)
   have e : (k : Int) + 1 = ((k + 1 : Nat) : Int) := rfl
   have push : ∀ x, dead_Narrow_l2 N c (p : Int) y m ((k + 1 : Nat) : Int) (out.set p (z ++ [x])) = some ((narL c p (y.drop (k + 1))).map fun z' => out.set p (z ++ x :: z')) := by
    intro x
    rw [ih (k + 1) (out.set p (z ++ [x])) (z ++ [x]) (by omega) (by omega) (List.getElem?_set_self hp) (by simp; omega)]
    congr 2
    funext z'
    rw [List.set_set, List.append_assoc]; rfl
   have hcc : ∀ x : Deed, (z.length + [x].length) * 40 ≤ 140737488355328 ∧ z.length + [x].length ≤ maxLen := by
    intro x
    rw [List.length_singleton]
    exact ⟨by omega, small_len (by omega)⟩
   rw [if_pos (by simpa using hkl), idx_nat, List.getElem?_eq_getElem hkl, Option.bind_some, open_eq, Option.bind_some, List.drop_eq_getElem_cons hkl, narL, Int.toNat_natCast]
   unfold narD
   cases ho : openS y[k]
   ·rw [if_pos (by simp), if_neg (by simp), Option.bind_some, idx_nat, hz, Option.bind_some, chk_t (hcc _), chk_t hR, e, push, Option.map_map]
    rfl
   ·rw [if_neg (by simp), if_pos rfl]
    have h3 := nl3_eq (N := N) hN hc (p : Int) y[k] N 0 (-1) (by omega) (by omega) rfl
    rw [show ((0 : Nat) : Int) = 0 from rfl] at h3
    rw [h3, Option.bind_some]
    cases hf : frS (srcS c (p : Int) y[k] c.length) with
    | none => rfl
    | some fr =>
     dsimp only
     rw [Option.map_some, Option.bind_some, idx_nat, hz, Option.bind_some, chk_t (hcc _), chk_t hR, e, push, Option.map_map]
     rfl
  ·rw [if_neg (by simpa using hkl), List.drop_eq_nil_of_le (by omega), narL, Option.map_some]
   obtain ⟨h1, h2⟩ := List.getElem?_eq_some_iff.1 hz
   rw [List.append_nil, ← h2, List.set_getElem_self]
theorem nl1_eq {N : Nat} {c : List (List Deed)} (hN : 1300 ≤ N) (hc : CheckOk c) : ∀ (m k : Nat) (out : List (List Deed)), c.length - k < m → k ≤ c.length → out.length = c.length → (∀ j : Nat, k ≤ j → j < c.length → out[j]? = some []) →
  dead_Narrow_l1 N c m (k : Int) out = some ((narR c k (c.drop k)).map fun r => out.take k ++ r) := by
 have hmost := hc.most
 intro m
 induction m with
 | zero => intro k out h; omega
 | succ m ih =>
  intro k out h hk hlen h2
  rw [dead_Narrow_l1]
  by_cases hkl : k < c.length
  ·have hR : inR ((k : Int) + 1) := inR_small (by omega) (by omega)
   have e : (k : Int) + 1 = ((k + 1 : Nat) : Int) := rfl
   have hrow := hc.rows _ (List.getElem_mem hkl)
   have hl2 := nl2_eq (N := N) hN hc k c[k] hrow N 0 out [] (by omega) (by omega) (h2 k (by omega) hkl) (by simp)
   rw [show ((0 : Nat) : Int) = 0 from rfl, List.drop_zero] at hl2
   rw [if_pos (by simpa using hkl), idx_nat, List.getElem?_eq_getElem hkl, Option.bind_some, hl2, Option.bind_some, List.drop_eq_getElem_cons hkl, narR]
   cases hn : narL c k c[k] with
   | none => rfl
   | some z' =>
    rw [Option.map_some, Option.bind_some, List.nil_append]
    dsimp only
    rw [chk_t hR, e, ih (k + 1) _ (by omega) (by omega) (by simpa using hlen) (fun j hj hjl => by rw [List.getElem?_set_ne (by omega)]; exact h2 j (by omega) hjl), Option.map_map]
    congr 2
    funext r
    show (out.set k z').take (k + 1) ++ r = out.take k ++ z' :: r
    rw [take_set_succ _ _ _ (by omega), List.append_assoc]; rfl
  ·rw [if_neg (by simpa using hkl), List.drop_eq_nil_of_le (by omega), narR, Option.map_some, List.append_nil, List.take_of_length_le (by omega)]
def narV (o : Option (List (List Deed))) : (List (List Deed)) × Bool × Int := match o with
 | none => ([], false, 0)
 | some l => (l, true, 0)
theorem Narrow_eq {N : Nat} {c : List (List Deed)} (hN : 1300 ≤ N) (hc : CheckOk c) : dead_Narrow N c = some (narV (narR c 0 c)) := by
 have hmost := hc.most
 have h := nl1_eq (N := N) hN hc N 0 (List.replicate ((c.length : Int)).toNat []) (by omega) (by omega) (by simp) (fun j _ hj => by rw [List.getElem?_replicate, if_pos (by simpa using hj)])
 rw [show ((0 : Nat) : Int) = 0 from rfl, List.drop_zero, List.take_zero] at h
 unfold dead_Narrow
 rw [check_0 hN hc, Option.bind_some, if_neg (by simp), chk_t ⟨by omega, by omega, by omega⟩, h, Option.bind_some]
 cases narR c 0 c <;> rfl

theorem rl4_eq {N : Nat} {c : List (List Deed)} (hN : 1300 ≤ N) (p : Int) (x50 : List Deed) (i : Nat) (d : Deed) (hd : x50[i]? = some d) {s : Nat} {l : List Deed} (hs : c[s]? = some l) (hl : l.length ≤ 1000) (fr : List Int) (hfr : fr.length ≤ 900) (hno : (s : Int) ∉ fr) : ∀ (m k : Nat) (b : Bool), l.length - k < m → k ≤ l.length → b = (l.take k).any (hits p d) →
  ref08_Narrow_l4 N c p x50 (i : Int) (s : Int) m (fr ++ if b then [(s : Int)] else []) (k : Int) = some (fr ++ if l.any (hits p d) then [(s : Int)] else []) := by
 intro m
 induction m with
 | zero => intro k b h; omega
 | succ m ih =>
  intro k b h hk hb
  rw [ref08_Narrow_l4, idx_nat, hs, Option.bind_some]
  by_cases hkl : k < l.length
  ·have hR : inR ((k : Int) + 1) := inR_small (by omega) (by omega)
   have e : (k : Int) + 1 = ((k + 1 : Nat) : Int) := rfl
   have hgo := fun b' => ih (k + 1) b' (by omega) (by omega)
   rw [List.take_succ_eq_append_getElem hkl, List.any_append] at hgo
   simp only [List.any_cons, List.any_nil, Bool.or_false] at hgo
   have hlen : (fr ++ if b = true then [(s : Int)] else []).length ≤ 901 := by
    rw [List.length_append]
    cases b <;> simp <;> omega
   obtain ⟨z, hz, hz1, _⟩ := rindex_mem N (fr ++ if b = true then [(s : Int)] else []) (s : Int) hN (by omega)
   have hmem : decide ((s : Int) ∈ (fr ++ if b = true then [(s : Int)] else [])) = b := by
    cases b <;> simp [hno]
   rw [hmem] at hz1
   rw [if_pos (by simpa using hkl), Option.bind_some, idx_nat, List.getElem?_eq_getElem hkl, Option.bind_some, rsends_eq, Option.bind_some]
   have e1 : (if sendsS l[k] = true then (some l).bind fun y163 => (idx y163 (k : Int)).bind fun y169 => if decide (y169.Peer = p) = true then (some l).bind fun y176 => (idx y176 (k : Int)).bind fun y182 => (idx x50 (i : Int)).bind fun y188 => (ref08_fits N y182 y188).bind fun y192 => if y192 = true then (ref02_Index N (fr ++ if b = true then [(s : Int)] else []) (s : Int)).bind fun y200 => some (decide (y200 < 0)) else some false else some false else some false) = some (hits p d l[k] && !b) := by
    unfold hits
    cases sendsS l[k]
    ·rfl
    ·rw [if_pos rfl, Option.bind_some, idx_nat, List.getElem?_eq_getElem hkl, Option.bind_some]
     by_cases hp : l[k].Peer = p
     ·rw [if_pos (by simpa using hp), Option.bind_some, idx_nat, List.getElem?_eq_getElem hkl, Option.bind_some, idx_nat, hd, Option.bind_some, rfits_eq, Option.bind_some, hz, Option.bind_some, hz1]
      cases fitsS l[k] d <;> simp [hp]
     ·rw [if_neg (by simpa using hp)]; simp [hp]
   rw [e1, Option.bind_some]
   dsimp only
   cases hh : hits p d l[k]
   ·rw [Bool.false_and, if_neg (by simp), chk_t hR, e]
    exact hgo b (by rw [hb, hh, Bool.or_false])
   ·cases b
    ·rw [Bool.true_and, if_pos (by simp), chk_t ⟨by simp; omega, small_len (by simp; omega)⟩, chk_t hR, e]
     have := hgo true (by rw [hh, Bool.or_true])
     simpa using this
    ·rw [Bool.true_and, if_neg (by simp), chk_t hR, e]
     exact hgo true (by rw [hh, Bool.or_true])
  ·rw [if_neg (by simpa using hkl)]
   rw [List.take_of_length_le (by omega)] at hb
   rw [hb]
theorem rl3_eq {N : Nat} {c : List (List Deed)} (hN : 1300 ≤ N) (hc : CheckOk c) (p : Int) (x50 : List Deed) (i : Nat) (d : Deed) (hd : x50[i]? = some d) : ∀ (m k : Nat), c.length - k < m → k ≤ c.length →
  ref08_Narrow_l3 N c p x50 (i : Int) m ((srcS c p d k).map (fun q : Nat => (q : Int))) (k : Int) = some ((srcS c p d c.length).map (fun q : Nat => (q : Int))) := by
 have hmost := hc.most
 intro m
 induction m with
 | zero => intro k h; omega
 | succ m ih =>
  intro k h hk
  rw [ref08_Narrow_l3]
  by_cases hkl : k < c.length
  ·have hR : inR ((k : Int) + 1) := inR_small (by omega) (by omega)
   have e : (k : Int) + 1 = ((k + 1 : Nat) : Int) := rfl
   have hrow := hc.rows _ (List.getElem_mem hkl)
   have hgo := ih (k + 1) (by omega) (by omega)
   have hlen : (srcS c p d k).length ≤ k := by
    unfold srcS
    exact Nat.le_trans (List.length_filter_le _ _) (by simp)
   have hno : (k : Int) ∉ (srcS c p d k).map (fun q : Nat => (q : Int)) := by
    intro hm
    rw [List.mem_map] at hm
    obtain ⟨q, hq, hqk⟩ := hm
    unfold srcS at hq
    rw [List.mem_filter, List.mem_range] at hq
    omega
   have h4 := rl4_eq hN p x50 i d hd (List.getElem?_eq_getElem hkl) (by omega) ((srcS c p d k).map (fun q : Nat => (q : Int))) (by rw [List.length_map]; omega) hno N 0 false (by omega) (by omega) (by simp)
   rw [show ((0 : Nat) : Int) = 0 from rfl] at h4
   simp only [Bool.false_eq_true, ↓reduceIte, List.append_nil] at h4
   have hh : hitAt c p d k = c[k].any (hits p d) := by unfold hitAt; rw [List.getElem?_eq_getElem hkl]; rfl
   rw [if_pos (by simpa using hkl), h4, Option.bind_some, chk_t hR, e]
   rw [srcS_succ, List.map_append, hh] at hgo
   cases hb : c[k].any (hits p d)
   ·rw [hb] at hgo; simpa using hgo
   ·rw [hb] at hgo; simpa using hgo
  ·rw [if_neg (by simpa using hkl), show k = c.length by omega]
theorem rl2_eq {N : Nat} {c : List (List Deed)} (hN : 1300 ≤ N) (hc : CheckOk c) (p : Nat) (y : List Deed) (hy : y.length ≤ 200) : ∀ (m k : Nat) (x : List Deed), y.length - k < m → k ≤ y.length → x.length = y.length → x.drop k = y.drop k →
  ref08_Narrow_l2 N c (p : Int) m (k : Int) x = some (match narL c p (y.drop k) with | none => .inr ([], false, 0) | some z' => .inl (x.take k ++ z')) := by
 have hmost := hc.most
 intro m
 induction m with
 | zero => intro k x h; omega
 | succ m ih =>
  intro k x h hk hx hdr
  rw [ref08_Narrow_l2]
  by_cases hkl : k < y.length
  ·have hR : inR ((k : Int) + 1) := inR_small (by omega) (by omega)
   have e : (k : Int) + 1 = ((k + 1 : Nat) : Int) := rfl
   have hkx : k < x.length := by omega
   have hxy : x[k]? = some y[k] := by
    have h1 := congrArg (fun l => l[0]?) hdr
    simp only [List.getElem?_drop, Nat.add_zero] at h1
    rw [h1, List.getElem?_eq_getElem hkl]
   have hdr2 : x.drop (k + 1) = y.drop (k + 1) := by
    have := congrArg (fun l => l.drop 1) hdr
    simpa [List.drop_drop, Nat.add_comm] using this
   have keep : ∀ v, (x.set k v).drop (k + 1) = y.drop (k + 1) := by
    intro v
    rw [← hdr2]
    apply List.ext_getElem?
    intro j
    rw [List.getElem?_drop, List.getElem?_drop, List.getElem?_set_ne (by omega)]
   have push : ∀ v, ref08_Narrow_l2 N c (p : Int) m ((k + 1 : Nat) : Int) (x.set k v) = some (match (narL c p (y.drop (k + 1))).map (v :: ·) with | none => .inr ([], false, 0) | some z' => .inl (x.take k ++ z')) := by
    intro v
    rw [ih (k + 1) (x.set k v) (by omega) (by omega) (by simpa using hx) (keep v), take_set_succ _ _ _ hkx]
    cases narL c p (y.drop (k + 1)) with
    | none => rfl
    | some z' => simp
   have hsame : x.set k y[k] = x := by
    obtain ⟨h2, h3⟩ := List.getElem?_eq_some_iff.1 hxy
    rw [← h3, List.set_getElem_self]
   rw [if_pos (by simp; omega), idx_nat, hxy, Option.bind_some, rreceives_eq, Option.bind_some, List.drop_eq_getElem_cons hkl, narL, Int.toNat_natCast]
   unfold narD
   generalize hyk : y[k] = d at hxy hsame
   have e1 : (if (!receivesS d) = true then some true else (some d).bind fun y81 => some (!decide (y81.Peer = -1))) = some (!openS d) := by
    unfold openS
    cases receivesS d <;> simp
   rw [e1, Option.bind_some]
   dsimp only
   cases ho : openS d
   ·rw [if_pos (by simp), if_neg (by simp), Option.bind_some, chk_t hR, e]
    have := push d
    rw [hsame] at this
    exact this
   ·rw [if_neg (by simp), if_pos rfl]
    have h3 := rl3_eq (N := N) hN hc (p : Int) x k d hxy N 0 (by omega) (by omega)
    rw [show ((0 : Nat) : Int) = 0 from rfl, show srcS c (p : Int) d 0 = [] from rfl, List.map_nil] at h3
    rw [h3, Option.bind_some]
    rcases hs : srcS c (p : Int) d c.length with _ | ⟨s, _ | ⟨s', r⟩⟩
    ·simp only [List.map_nil, List.length_nil]
     rw [if_neg (by simp), Option.bind_some, if_neg (by simp), chk_t hR, e]
     exact push (Deed.with_Peer d 0)
    ·simp only [List.map_cons, List.map_nil, List.length_cons, List.length_nil]
     rw [if_neg (by simp), Option.bind_some, if_pos (by simp), show idx [(s : Int)] 0 = some (s : Int) from rfl, Option.bind_some, idx_nat, List.getElem?_set_self hkx, Option.bind_some, chk_t hR, e, List.set_set]
     have := push (Deed.with_Peer d (s : Int))
     have e3 : max (0 : Int) (s : Int) = (s : Int) := by omega
     simp only [frS, Option.map_some, Option.bind_some, e3]
     exact this
    ·simp only [List.map_cons, List.length_cons]
     rw [if_pos (by simp; omega)]
     rfl
  ·rw [if_neg (by simp; omega), List.drop_eq_nil_of_le (by omega), narL]
   simp only [List.append_nil]
   rw [List.take_of_length_le (by omega)]
theorem rl1_eq {N : Nat} {c : List (List Deed)} (hN : 1300 ≤ N) (hc : CheckOk c) : ∀ (m k : Nat) (out : List (List Deed)), c.length - k < m → k ≤ c.length → out.length = k →
  ref08_Narrow_l1 N c m out (k : Int) = some (match narR c k (c.drop k) with | none => .inr ([], false, 0) | some r => .inl (out ++ r)) := by
 have hmost := hc.most
 intro m
 induction m with
 | zero => intro k out h; omega
 | succ m ih =>
  intro k out h hk hlen
  rw [ref08_Narrow_l1]
  by_cases hkl : k < c.length
  ·have hR : inR ((k : Int) + 1) := inR_small (by omega) (by omega)
   have e : (k : Int) + 1 = ((k + 1 : Nat) : Int) := rfl
   have hrow := hc.rows _ (List.getElem_mem hkl)
   have hl2 := rl2_eq (N := N) hN hc k c[k] hrow N 0 c[k] (by omega) (by omega) rfl rfl
   rw [show ((0 : Nat) : Int) = 0 from rfl, List.drop_zero, List.take_zero] at hl2
   rw [if_pos (by simpa using hkl), idx_nat, List.getElem?_eq_getElem hkl, Option.bind_some, chk_t ⟨by simp; omega, small_len (by simp; omega)⟩, List.nil_append, hl2, Option.bind_some, List.drop_eq_getElem_cons hkl, narR]
   cases hn : narL c k c[k] with
   | none => rfl
   | some z' =>
    rw [Option.bind_some]
    dsimp only
    rw [List.nil_append, chk_t ⟨by simp; omega, small_len (by simp; omega)⟩, chk_t hR, e, ih (k + 1) (out ++ [z']) (by omega) (by omega) (by simp [hlen])]
    cases narR c (k + 1) (c.drop (k + 1)) with
    | none => rfl
    | some r => simp
  ·rw [if_neg (by simpa using hkl), List.drop_eq_nil_of_le (by omega), narR]
   simp
theorem rNarrow_eq {N : Nat} {c : List (List Deed)} (hN : 1300 ≤ N) (hc : CheckOk c) : ref08_Narrow N c = some (narV (narR c 0 c)) := by
 have hmost := hc.most
 obtain ⟨e, he, hs⟩ := rcheck_exact N c hN
 have : e = 0 := hs.same (.ok hc)
 subst this
 have h := rl1_eq (N := N) hN hc N 0 [] (by omega) (by omega) rfl
 rw [show ((0 : Nat) : Int) = 0 from rfl, List.drop_zero] at h
 unfold ref08_Narrow
 rw [he, Option.bind_some, if_neg (by simp), h, Option.bind_some]
 cases narR c 0 c <;> rfl
end Go.Arm
