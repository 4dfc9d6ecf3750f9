/- Plain laws. -/
import Derived.Test.YtmojccilbgjngaaPl6
namespace Go.Arm
open Go

def rowS (c : List (List Deed)) (p : Nat) : List Deed := c[p]?.getD []
def fN (av : List Int) (p : Nat) : Nat := (av[p]?.getD 0).toNat
def bgS (c : List (List Deed)) (f : Nat → Nat) (p : Nat) : List Deed := (rowS c p).take (f p + 1)
def parS (c : List (List Deed)) (f : Nat → Nat) (s d : Nat) : List Int := partS (bgS c f d) (s : Int) (d : Int) (bgS c f s)
def freeS (c : List (List Deed)) (P : List Int) (p : Nat) (peer : Int) (k : Nat) : Bool :=
 match (rowS c p)[k]? with
 | some y => toS peer y && !y.Sync && decide (P[k]?.getD (-1) < 0)
 | none => false
def leftS (c : List (List Deed)) (P : List Int) (p i : Nat) (peer : Int) : Nat := (List.range i).countP (freeS c P p peer)
def takS (c : List (List Deed)) (room : Int) (f : Nat → Nat) (p i : Nat) : Bool :=
 match (rowS c p)[i]? with
 | none => false
 | some m => decide (0 ≤ (parS c f p m.Peer.toNat)[i]?.getD (-1)) || (!m.Sync && decide ((leftS c (parS c f p m.Peer.toNat) p i m.Peer : Int) < room))
def recS (c : List (List Deed)) (f : Nat → Nat) (p i : Nat) : Bool :=
 match (rowS c p)[i]? with
 | none => false
 | some g => decide ((i : Int) ∈ parS c f g.Peer.toNat p)
def meetS (c : List (List Deed)) (f : Nat → Nat) (p : Nat) : Nat := (bgS c f p).countP (fun d => decide (d.Kind = 6))
def lateS (c : List (List Deed)) (f : Nat → Nat) (p : Nat) : List Nat := (List.range c.length).filter (fun q => decide (meetS c f q < meetS c f p))
def reqS (l : List Deed) (q : Int) : Nat := l.findIdx (fun x => beginsS x && decide (x.Req = q))
def doesS (c : List (List Deed)) (room : Int) (f : Nat → Nat) (p k : Nat) : Bool :=
 match (rowS c p)[k]? with
 | none => false
 | some x => if sendsS x then takS c room f p k else recS c f p k
def canS (c : List (List Deed)) (room : Int) (f : Nat → Nat) (p : Nat) : Bool :=
 match (rowS c p)[f p]? with
 | none => false
 | some d =>
  if d.Kind = 1 then takS c room f p (f p)
  else if d.Kind = 2 then recS c f p (f p)
  else if d.Kind = 6 then (lateS c f p).isEmpty
  else if d.Kind = 5 then doesS c room f p (reqS (rowS c p) d.Req)
  else true

theorem rowS_eq {c : List (List Deed)} {p : Nat} {l : List Deed} (h : c[p]? = some l) : rowS c p = l := by unfold rowS; rw [h]; rfl
theorem fN_eq {av : List Int} {p a : Nat} (h : av[p]? = some (a : Int)) : fN av p = a := by unfold fN; rw [h]; simp

section
variable {N : Nat} {r : Run}
theorem begun_eq (h : RunOk r) {k : Nat} {l : List Deed} (hl : r.c[k]? = some l) : dead_run_begun N r (k : Int) = some (bgS r.c (fN r.at_) k) := by
 obtain ⟨a, ha, hal⟩ := h.rng k l hl
 have h200 := h.chk.rows l (List.mem_of_getElem? hl)
 unfold dead_run_begun bgS
 rw [rowS_eq hl, fN_eq ha, idx_nat, hl, Option.bind_some, Option.bind_some, idx_nat, ha, Option.bind_some, chk_t (inR_small (by omega) (by omega)), show min (l.length : Int) ((a : Int) + 1) = ((min l.length (a + 1) : Nat) : Int) by omega, cut_nat l _ (by omega), Option.bind_some]
 congr 1
 rcases Nat.le_total l.length (a + 1) with h1 | h1
 ·rw [Nat.min_eq_left h1, List.take_of_length_le (Nat.le_refl _), List.take_of_length_le h1]
 ·rw [Nat.min_eq_right h1]
end

def Used (n : Nat) (out : List Int) (x : List Bool) : Prop := x.length = n ∧ ∀ j, j < n → x[j]? = some (decide ((j : Int) ∈ out))

theorem pairs_l2_eq (N : Nat) (a1 x31 : Int) (y7 : List Deed) (y45 : Deed) (h7 : y7.length ≤ 1000) (out : List Int) (x91 : List (Int × Int)) (x92 : List Bool) (hU : Used y7.length out x92) : ∀ (m k : Nat), y7.length - k < m → k ≤ y7.length → (∀ j, j < k → okR y45 y7 a1 out j = false) →
  dead_run_pairs_l2 N a1 y7 x31 y45 m (k : Int) x91 x92 = some (if 0 ≤ pickI y45 y7 a1 out then (mset x91 x31 (pickI y45 y7 a1 out), x92.set (pickI y45 y7 a1 out).toNat true) else (x91, x92)) := by
 intro m
 induction m with
 | zero => intro k h; omega
 | succ m ih =>
  intro k h hk hno
  rw [dead_run_pairs_l2]
  by_cases hkl : k < y7.length
  ·have hu := hU.2 k hkl
   have hR : inR ((k : Int) + 1) := inR_small (by omega) (by omega)
   have e : (k : Int) + 1 = ((k + 1 : Nat) : Int) := rfl
   rw [if_pos (by simpa using hkl), idx_nat, List.getElem?_eq_getElem hkl, Option.bind_some, receives_eq, Option.bind_some, idx_nat, hu]
   simp only [Option.bind_some, fits_eq]
   have e1 : (if receivesS y7[k] = true then if decide (y7[k].Peer = a1) = true then if (!decide ((k : Int) ∈ out)) = true then some (fitsS y45 y7[k]) else some false else some false else some false) = some (okR y45 y7 a1 out k) := by
    unfold okR
    rw [List.getElem?_eq_getElem hkl]
    cases hh : receivesS y7[k] <;> by_cases h1 : y7[k].Peer = a1 <;> by_cases h2 : (k : Int) ∈ out <;> simp [h1, h2, hh]
   rw [e1, Option.bind_some]
   cases hb : okR y45 y7 a1 out k
   ·rw [if_neg (by simp), chk_t hR, e]
    refine ih (k + 1) (by omega) (by omega) (fun j hj => ?_)
    rcases Nat.lt_or_ge j k with hj' | hj'
    ·exact hno j hj'
    ·rw [show j = k by omega]; exact hb
   ·rw [pick_some hb hno, if_pos rfl, if_pos (by omega)]
  ·rw [if_neg (by simpa using hkl), pick_none (fun j hj => hno j (by omega)), if_neg (by omega)]
def entF (ms : List Deed) (d : Int) (P : List Int) (i : Nat) : Option (Int × Int) :=
 match ms[i]? with
 | some m => if toS d m then some ((i : Int), P[i]?.getD (-1)) else none
 | none => none
def entS (ms : List Deed) (d : Int) (P : List Int) (k : Nat) : List (Int × Int) := (List.range k).filterMap (entF ms d P)
theorem entS_succ (ms : List Deed) (d : Int) (P : List Int) (k : Nat) : entS ms d P (k + 1) = entS ms d P k ++ (entF ms d P k).toList := by
 unfold entS
 rw [List.range_succ, List.filterMap_append]
 cases h : entF ms d P k <;> simp [h]
theorem entS_mem {ms : List Deed} {d : Int} {P : List Int} {k : Nat} {e : Int × Int} (h : e ∈ entS ms d P k) : ∃ (i : Nat) (m : Deed), i < k ∧ ms[i]? = some m ∧ toS d m = true ∧ e = ((i : Int), P[i]?.getD (-1)) := by
 unfold entS at h
 rw [List.mem_filterMap] at h
 obtain ⟨i, hi, h⟩ := h
 unfold entF at h
 split at h
 ·split at h
  ·exact ⟨i, _, List.mem_range.1 hi, ‹_›, ‹_›, (Option.some.inj h).symm⟩
  ·cases h
 ·cases h
theorem mset_again {m : List (Int × Int)} {k v w : Int} (h : ∀ e, e ∈ m → e.1 ≠ k) : mset (m ++ [(k, v)]) k w = m ++ [(k, w)] := by
 unfold mset
 rw [if_pos (by simp), List.map_append]
 congr 1
 ·conv => rhs; rw [← List.map_id m]
  refine List.map_congr_left fun e he => ?_
  have := h e he
  simp [this]
 ·simp
theorem partS_at (rs : List Deed) (s d : Int) (ms : List Deed) {k : Nat} {m : Deed} (hk : ms[k]? = some m) : (partS rs s d ms)[k]? = some (if toS d m then pickI m rs s (partS rs s d (ms.take k)) else -1) := by
 obtain ⟨hl, rfl⟩ := List.getElem?_eq_some_iff.1 hk
 have h1 : (partS rs s d (ms.take (k + 1)))[k]? = (partS rs s d ms)[k]? := by rw [partS_take, List.getElem?_take, if_pos (by omega)]
 rw [← h1, List.take_succ_eq_append_getElem hl, partS_snoc, List.getElem?_append_right (by rw [partS_len]; simp; omega), partS_len, List.length_take, Nat.min_eq_left (by omega), Nat.sub_self]
 rfl
theorem pairs_l1_eq (N : Nat) (a1 a2 : Int) (y7 y22 : List Deed) (hN : 1300 ≤ N) (h7 : y7.length ≤ 1000) (h22 : y22.length ≤ 1000) : ∀ (m k : Nat) (x30 : List Bool), y22.length - k < m → k ≤ y22.length → Used y7.length (partS y7 a1 a2 (y22.take k)) x30 →
  dead_run_pairs_l1 N a1 a2 y7 y22 m (k : Int) (entS y22 a2 (partS y7 a1 a2 y22) k) x30 = some (entS y22 a2 (partS y7 a1 a2 y22) y22.length) := by
 intro m
 induction m with
 | zero => intro k x30 h; omega
 | succ m ih =>
  intro k x30 h hk hU
  rw [dead_run_pairs_l1]
  by_cases hkl : k < y22.length
  ·have hR : inR ((k : Int) + 1) := inR_small (by omega) (by omega)
   have e : (k : Int) + 1 = ((k + 1 : Nat) : Int) := rfl
   have hP := partS_at y7 a1 a2 y22 (List.getElem?_eq_getElem hkl)
   have hsn : partS y7 a1 a2 (y22.take (k + 1)) = partS y7 a1 a2 (y22.take k) ++ [if toS a2 y22[k] then pickI y22[k] y7 a1 (partS y7 a1 a2 (y22.take k)) else -1] := by
    rw [List.take_succ_eq_append_getElem hkl, partS_snoc]
   have hE := entS_succ y22 a2 (partS y7 a1 a2 y22) k
   have hF : entF y22 a2 (partS y7 a1 a2 y22) k = if toS a2 y22[k] then some ((k : Int), (if toS a2 y22[k] then pickI y22[k] y7 a1 (partS y7 a1 a2 (y22.take k)) else -1)) else none := by
    unfold entF
    rw [List.getElem?_eq_getElem hkl, hP]; rfl
   rw [if_pos (by simpa using hkl), idx_nat, List.getElem?_eq_getElem hkl, Option.bind_some, sends_eq, Option.bind_some]
   have c1 : (if (!sendsS y22[k]) = true then some true else some (!decide (y22[k].Peer = a2))) = some (!toS a2 y22[k]) := by
    unfold toS
    cases sendsS y22[k] <;> simp
   rw [c1, Option.bind_some]
   dsimp only
   cases ht : toS a2 y22[k]
   ·rw [if_pos (by simp), chk_t hR, e]
    rw [hF, ht] at hE
    rw [ht] at hsn
    simp at hE
    rw [← hE]
    refine ih (k + 1) x30 (by omega) (by omega) ⟨hU.1, fun j hj => ?_⟩
    rw [hsn, hU.2 j hj]
    congr 2
    simp
   ·rw [if_neg (by simp)]
    have hfresh : ∀ e, e ∈ entS y22 a2 (partS y7 a1 a2 y22) k → e.1 ≠ (k : Int) := by
     intro e he
     obtain ⟨i, _, hi, _, _, rfl⟩ := entS_mem he
     show ((i : Int)) ≠ (k : Int)
     omega
    rw [hF, ht] at hE
    rw [ht] at hsn
    simp only [↓reduceIte, Option.toList_some] at hE hsn
    rw [mset_new hfresh]
    have hl2 := pairs_l2_eq N a1 (k : Int) y7 y22[k] h7 (partS y7 a1 a2 (y22.take k)) (entS y22 a2 (partS y7 a1 a2 y22) k ++ [((k : Int), -1)]) x30 hU N 0 (by omega) (by omega) (fun j hj => by omega)
    rw [show ((0 : Nat) : Int) = 0 from rfl] at hl2
    rw [hl2, Option.bind_some]
    rcases pick_spec y22[k] y7 a1 (partS y7 a1 a2 (y22.take k)) with ⟨q, hq, hql, _, _⟩ | ⟨hq, _⟩
    ·rw [hq, if_pos (by omega)]
     rw [hq] at hE hsn
     dsimp only
     rw [mset_again hfresh, chk_t hR, e, ← hE]
     refine ih (k + 1) _ (by omega) (by omega) ⟨by simpa using hU.1, fun j hj => ?_⟩
     have hu := hU.1
     rw [hsn, Int.toNat_natCast, List.getElem?_set]
     by_cases hjq : q = j
     ·subst hjq
      rw [if_pos rfl, if_pos (by omega)]; simp
     ·rw [if_neg hjq, hU.2 j hj]
      congr 2
      simp
      omega
    ·rw [hq, if_neg (by omega)]
     rw [hq] at hE hsn
     dsimp only
     rw [chk_t hR, e, ← hE]
     refine ih (k + 1) _ (by omega) (by omega) ⟨hU.1, fun j hj => ?_⟩
     rw [hsn, hU.2 j hj]
     congr 2
     simp
  ·rw [if_neg (by simpa using hkl), show k = y22.length by omega]

section
variable {N : Nat} {r : Run}
theorem bg_len (h : RunOk r) {s : Nat} (hs : s < r.c.length) : (bgS r.c (fN r.at_) s).length ≤ 200 := by
 have b1 := h.chk.rows _ (List.getElem_mem hs)
 unfold bgS
 rw [rowS_eq (List.getElem?_eq_getElem hs)]
 simp
 omega
theorem pairs_eq (hN : 1300 ≤ N) (h : RunOk r) {s d : Nat} (hs : s < r.c.length) (hd : d < r.c.length) :
  dead_run_pairs N r (s : Int) (d : Int) = some ⟨entS (bgS r.c (fN r.at_) s) (d : Int) (parS r.c (fN r.at_) s d) (bgS r.c (fN r.at_) s).length⟩ := by
 have l1 := bg_len h hs
 have l2 := bg_len h hd
 have hp := pairs_l1_eq N (s : Int) (d : Int) (bgS r.c (fN r.at_) d) (bgS r.c (fN r.at_) s) hN (by omega) (by omega) N 0 (List.replicate (((bgS r.c (fN r.at_) d).length : Int)).toNat false) (by omega) (by omega) ⟨by simp, fun j hj => by simp [partS, hj]⟩
 unfold dead_run_pairs
 rw [begun_eq h (List.getElem?_eq_getElem hd), Option.bind_some, chk_t ⟨by omega, by omega, by omega⟩, begun_eq h (List.getElem?_eq_getElem hs), Option.bind_some]
 have e0 : entS (bgS r.c (fN r.at_) s) (d : Int) (partS (bgS r.c (fN r.at_) d) (s : Int) (d : Int) (bgS r.c (fN r.at_) s)) 0 = [] := rfl
 rw [e0, show ((0 : Nat) : Int) = 0 from rfl] at hp
 rw [hp]; rfl
end

theorem foldE_count {body : Int × Int → Int → Option (LR Int Int Bool)} {fin : Int → Int} (g : Int × Int → Bool) (hf : ∀ x, fin x = x) : ∀ (m : List (Int × Int)) (x : Int), (∀ kv ∈ m, ∀ y : Int, 0 ≤ y → y ≤ x + m.length → body kv y = some (.next (if g kv then y + 1 else y))) → 0 ≤ x → foldE (ρ := Bool) body fin m x = some (.inl (x + (m.countP g : Nat)))
 | [], x, _, _ => by simp [foldE, hf]
 | kv :: m, x, h, h0 => by
  have h1 := h kv (by simp) x h0 (by omega)
  rw [foldE, h1]
  simp only [Option.bind_some]
  cases hg : g kv
  ·rw [if_neg (by simp), foldE_count g hf m x (fun kv' hk y hy0 hy => h kv' (by simp [hk]) y hy0 (by simp; omega)) h0, List.countP_cons, hg]; simp
  ·rw [if_pos rfl, foldE_count g hf m (x + 1) (fun kv' hk y hy0 hy => h kv' (by simp [hk]) y hy0 (by simp; omega)) (by omega), List.countP_cons, hg]; simp; omega

theorem mget_ent (ms : List Deed) (d : Int) (P : List Int) : ∀ (k i : Nat) (m : Deed), i < k → ms[i]? = some m → toS d m = true → mget (entS ms d P k) (i : Int) = some (P[i]?.getD (-1)) := by
 intro k
 induction k with
 | zero => intro i m h; omega
 | succ k ih =>
  intro i m h hi ht
  rw [entS_succ]
  by_cases hik : i < k
  ·have := ih i m hik hi ht
   unfold mget at this ⊢
   rw [List.find?_append]
   cases hf : (entS ms d P k).find? (fun e => e.1 == (i : Int)) with
   | none => rw [hf] at this; cases this
   | some e => rw [hf] at this; simpa using this
  ·have hki : k = i := by omega
   subst hki
   unfold mget
   rw [List.find?_append]
   have : (entS ms d P k).find? (fun e => e.1 == (k : Int)) = none := by
    rw [List.find?_eq_none]
    intro e he
    obtain ⟨j, _, hj, _, _, rfl⟩ := entS_mem he
    simp
    omega
   rw [this]
   unfold entF
   rw [hi]
   simp [ht]

section
variable {N : Nat} {r : Run}
theorem peerS {d : Deed} {b : List Deed} {n : Nat} (hG : Good d b n) (hs : sendsS d = true) : ∃ q : Nat, d.Peer = (q : Int) ∧ q < n := by
 have hpeer : 0 ≤ d.Peer ∧ d.Peer < n := by
  unfold sendsS at hs
  simp at hs
  unfold Good at hG
  omega
 exact ⟨d.Peer.toNat, by omega, by omega⟩
theorem peerR {d : Deed} {b : List Deed} {n : Nat} (hG : Good d b n) (ho : openS d = false) (hs : receivesS d = true) : ∃ q : Nat, d.Peer = (q : Int) ∧ q < n := by
 have hpeer : 0 ≤ d.Peer ∧ d.Peer < n := by
  unfold openS at ho
  rw [hs] at ho
  unfold receivesS at hs
  simp at hs ho
  unfold Good at hG
  omega
 exact ⟨d.Peer.toNat, by omega, by omega⟩

theorem taken_eq (hN : 1300 ≤ N) (h : RunOk r) {p k : Nat} {l : List Deed} {d : Deed} (hp : r.c[p]? = some l) (hk : l[k]? = some d) (hs : sendsS d = true) (hb : k ≤ fN r.at_ p) : dead_run_taken N r (p : Int) (k : Int) = some (takS r.c r.room (fN r.at_) p k) := by
 have hG := h.chk.good l (List.mem_of_getElem? hp) k d hk
 obtain ⟨q, hq, hql⟩ := peerS hG hs
 have hpl := (List.getElem?_eq_some_iff.1 hp).1
 have hkl := (List.getElem?_eq_some_iff.1 hk).1
 have l1 := bg_len h hpl
 unfold dead_run_taken takS
 rw [rowS_eq hp, hk]
 dsimp only
 rw [idx_nat, hp, Option.bind_some, idx_nat, hk, Option.bind_some, hq, pairs_eq hN h hpl hql, Option.bind_some]
 have hbg : (bgS r.c (fN r.at_) p)[k]? = some d := by unfold bgS; rw [rowS_eq hp, List.getElem?_take, if_pos (by omega)]; exact hk
 have hbl := (List.getElem?_eq_some_iff.1 hbg).1
 have hto : toS (q : Int) d = true := by unfold toS; rw [hs, hq]; simp
 rw [mget_ent _ _ _ _ _ d hbl hbg hto]
 simp only [Option.getD_some, Int.toNat_natCast]
 by_cases h0 : 0 ≤ (parS r.c (fN r.at_) p q)[k]?.getD (-1)
 ·rw [if_pos (by simpa using h0)]; simp [h0]
 ·rw [if_neg (by simpa using h0)]
  have hbgrow : ∀ i, i < (bgS r.c (fN r.at_) p).length → (bgS r.c (fN r.at_) p)[i]? = l[i]? := by
   intro i hi
   unfold bgS at hi ⊢
   rw [rowS_eq hp] at hi ⊢
   rw [List.getElem?_take, if_pos (by simp at hi; omega)]
  have hfold := foldE_count (body := dead_run_taken_l1 N r (p : Int) (k : Int)) (fin := fun (q : Int) => match q with | x46 => x46) (fun kv => (takenD r (p : Int) (k : Int) kv).getD false) (fun x => rfl) (entS (bgS r.c (fN r.at_) p) (q : Int) (parS r.c (fN r.at_) p q) (bgS r.c (fN r.at_) p).length) 0
   (fun kv hkv y hy0 hy => by
    obtain ⟨i, m, hi, him, _, rfl⟩ := entS_mem hkv
    rw [hbgrow i hi] at him
    have hlen : (entS (bgS r.c (fN r.at_) p) (q : Int) (parS r.c (fN r.at_) p q) (bgS r.c (fN r.at_) p).length).length ≤ 200 := by
     unfold entS
     exact Nat.le_trans (List.length_filterMap_le _ _) (by rw [List.length_range]; exact l1)
    rw [dead_run_taken_l1_key]
    have hD : ∃ b, takenD r (p : Int) (k : Int) ((i : Int), (parS r.c (fN r.at_) p q)[i]?.getD (-1)) = some b := by
     unfold takenD
     split
     ·split
      ·rw [idx_nat, hp, Option.bind_some]
       dsimp only
       rw [idx_nat, him]; exact ⟨_, rfl⟩
      ·exact ⟨_, rfl⟩
     ·exact ⟨_, rfl⟩
    obtain ⟨b, hbb⟩ := hD
    rw [hbb]
    cases b
    ·rfl
    ·show chk (inR (y + 1)) _ = _
     rw [chk_t (inR_small (by omega) (by omega))]; rfl) (by omega)
  rw [hfold]
  simp only [Option.bind_some, Int.zero_add]
  have hcnt : (entS (bgS r.c (fN r.at_) p) (q : Int) (parS r.c (fN r.at_) p q) (bgS r.c (fN r.at_) p).length).countP (fun kv => (takenD r (p : Int) (k : Int) kv).getD false) = leftS r.c (parS r.c (fN r.at_) p q) p k (q : Int) := by
   unfold entS leftS
   rw [List.countP_filterMap]
   have hsplit : List.range (bgS r.c (fN r.at_) p).length = List.range k ++ (List.range ((bgS r.c (fN r.at_) p).length - k)).map (k + ·) := by
    rw [← List.range_add]; congr 1; omega
   rw [hsplit, List.countP_append]
   have z : List.countP (fun a => ((entF (bgS r.c (fN r.at_) p) (q : Int) (parS r.c (fN r.at_) p q) a).map (fun kv => (takenD r (p : Int) (k : Int) kv).getD false)).getD false) ((List.range ((bgS r.c (fN r.at_) p).length - k)).map (k + ·)) = 0 := by
    rw [List.countP_eq_zero]
    intro a ha
    rw [List.mem_map] at ha
    obtain ⟨j, hj, rfl⟩ := ha
    unfold entF
    split
    ·split
     ·have : ¬ (k : Int) + (j : Int) < (k : Int) := by omega
      simp [takenD, this]
     ·simp
    ·simp
   rw [z, Nat.add_zero]
   refine List.countP_congr fun i hi => ?_
   have hik := List.mem_range.1 hi
   have hil : i < l.length := by omega
   unfold entF freeS
   rw [hbgrow i (by omega), rowS_eq hp, List.getElem?_eq_getElem hil]
   dsimp only
   cases ht : toS (q : Int) l[i]
   ·simp
   ·have h1 : (i : Int) < (k : Int) := by omega
    simp only [↓reduceIte, Option.map_some, Option.getD_some, takenD, h1, idx_nat, hp, Option.bind_some, List.getElem?_eq_getElem hil, Bool.true_and]
    by_cases h2 : (parS r.c (fN r.at_) p q)[i]?.getD (-1) < 0 <;> simp [h2]
  rw [hcnt]
  cases hS : d.Sync
  ·simp [h0]
  ·simp [h0]

theorem received_fold_eq (a2 : Int) : ∀ (m : List (Int × Int)), foldE (ρ := Bool) (dead_run_received_l1 N a2) (fun (q : Unit) => match q with | () => ()) m () = some (if m.any (fun kv => decide (kv.2 = a2)) then .inr true else .inl ()) := by
 intro m
 induction m with
 | nil => rfl
 | cons kv m ih =>
  have e : dead_run_received_l1 N a2 kv () = if kv.2 = a2 then some (LR.ret true) else some (LR.next ()) := by unfold dead_run_received_l1; by_cases h : kv.2 = a2 <;> simp [h]
  rw [foldE, e]
  by_cases h : kv.2 = a2
  ·rw [if_pos h]; simp [h]
  ·rw [if_neg h]; simp only [Option.bind_some]; rw [ih, List.any_cons, decide_eq_false h, Bool.false_or]
theorem received_eq (hN : 1300 ≤ N) (h : RunOk r) {p k : Nat} {l : List Deed} {d : Deed} (hp : r.c[p]? = some l) (hk : l[k]? = some d) (hs : receivesS d = true) : dead_run_received N r (p : Int) (k : Int) = some (recS r.c (fN r.at_) p k) := by
 have hG := h.chk.good l (List.mem_of_getElem? hp) k d hk
 have ho := h.shut l (List.mem_of_getElem? hp) d (List.mem_of_getElem? hk)
 obtain ⟨q, hq, hql⟩ := peerR hG ho hs
 have hpl := (List.getElem?_eq_some_iff.1 hp).1
 unfold dead_run_received recS
 rw [rowS_eq hp, hk]
 dsimp only
 rw [idx_nat, hp, Option.bind_some, idx_nat, hk, Option.bind_some, hq, pairs_eq hN h hql hpl, Option.bind_some, received_fold_eq]
 simp only [Option.bind_some, Int.toNat_natCast]
 have e : (entS (bgS r.c (fN r.at_) q) (p : Int) (parS r.c (fN r.at_) q p) (bgS r.c (fN r.at_) q).length).any (fun kv => decide (kv.2 = (k : Int))) = decide ((k : Int) ∈ parS r.c (fN r.at_) q p) := by
  rw [Bool.eq_iff_iff, List.any_eq_true, decide_eq_true_eq]
  constructor
  ·rintro ⟨kv, hkv, he⟩
   obtain ⟨i, m, hi, him, _, rfl⟩ := entS_mem hkv
   simp only [decide_eq_true_eq] at he
   have hi2 : i < (parS r.c (fN r.at_) q p).length := by unfold parS; rw [partS_len]; exact hi
   rw [List.getElem?_eq_getElem hi2] at he
   simp at he
   rw [← he]; exact List.getElem_mem hi2
  ·intro hm
   obtain ⟨i, hi⟩ := List.getElem?_of_mem hm
   rcases partS_val _ _ _ _ hi with e | ⟨k', _, _, m, him, ht⟩
   ·omega
   ·refine ⟨((i : Int), (k : Int)), ?_, by simp⟩
    unfold entS
    rw [List.mem_filterMap]
    refine ⟨i, List.mem_range.2 (List.getElem?_eq_some_iff.1 him).1, ?_⟩
    unfold entF
    rw [him, hi]
    simp [ht]
 rw [e]
 by_cases hm : (k : Int) ∈ parS r.c (fN r.at_) q p <;> simp [hm]
theorem meetings_eq (hN : 1300 ≤ N) (h : RunOk r) {p : Nat} (hp : p < r.c.length) : dead_run_meetings N r (p : Int) = some (meetS r.c (fN r.at_) p : Int) := by
 have b1 := bg_len h hp
 unfold dead_run_meetings
 rw [begun_eq h (List.getElem?_eq_getElem hp), Option.bind_some, show (fun x => dead_run_meetings_1 N x) = fun x => some (decide (x.Kind = 6)) from rfl, count_eq N _ _ hN (by omega)]
 rfl
theorem late_l1_eq (hN : 1300 ≤ N) (h : RunOk r) {p : Nat} (hp : p < r.c.length) : ∀ (m k : Nat), r.c.length - k < m → k ≤ r.c.length →
  dead_run_late_l1 N r (p : Int) m (((List.range k).filter (fun q => decide (meetS r.c (fN r.at_) q < meetS r.c (fN r.at_) p))).map (fun q : Nat => (q : Int))) (k : Int) = some ((lateS r.c (fN r.at_) p).map (fun q : Nat => (q : Int))) := by
 have hmost := h.chk.most
 intro m
 induction m with
 | zero => intro k h; omega
 | succ m ih =>
  intro k hk hk2
  rw [dead_run_late_l1]
  by_cases hkl : k < r.c.length
  ·have e : (k : Int) + 1 = ((k + 1 : Nat) : Int) := rfl
   rw [if_pos (by simpa using hkl), meetings_eq hN h hkl, Option.bind_some, meetings_eq hN h hp, Option.bind_some]
   have hR : inR ((k : Int) + 1) := inR_small (by omega) (by omega)
   have hlen : (((List.range k).filter (fun q => decide (meetS r.c (fN r.at_) q < meetS r.c (fN r.at_) p))).map (fun q : Nat => (q : Int))).length ≤ k := by
    rw [List.length_map]
    exact Nat.le_trans (List.length_filter_le _ _) (by simp)
   have hgo := ih (k + 1) (by omega) (by omega)
   rw [List.range_succ, List.filter_append, List.map_append] at hgo
   by_cases hlt : meetS r.c (fN r.at_) k < meetS r.c (fN r.at_) p
   ·have hc : ((((List.range k).filter (fun q => decide (meetS r.c (fN r.at_) q < meetS r.c (fN r.at_) p))).map (fun q : Nat => (q : Int))).length + ([(k : Int)] : List Int).length) * 8 ≤ 140737488355328 ∧ (((List.range k).filter (fun q => decide (meetS r.c (fN r.at_) q < meetS r.c (fN r.at_) p))).map (fun q : Nat => (q : Int))).length + ([(k : Int)] : List Int).length ≤ maxLen := by
     rw [List.length_singleton]
     exact ⟨by omega, small_len (by omega)⟩
    rw [if_pos (by simpa using hlt), chk_t hc, chk_t hR, e]
    simpa [hlt] using hgo
   ·rw [if_neg (by simpa using hlt), chk_t hR, e]
    simpa [hlt] using hgo
  ·rw [if_neg (by simpa using hkl), show k = r.c.length by omega]; rfl
theorem late_eq (hN : 1300 ≤ N) (h : RunOk r) {p : Nat} (hp : p < r.c.length) : dead_run_late N r (p : Int) = some ((lateS r.c (fN r.at_) p).map (fun q : Nat => (q : Int))) := by
 have hmost := h.chk.most
 have e := late_l1_eq hN h hp N 0 (by omega) (by omega)
 unfold dead_run_late
 rw [show ((0 : Nat) : Int) = 0 from rfl] at e
 simp only [List.range_zero, List.filter_nil, List.map_nil] at e
 rw [e]; rfl
theorem req_ok {c : List (List Deed)} (hc : CheckOk c) {p a : Nat} {l : List Deed} {d : Deed} (hp : c[p]? = some l) (hk : l[a]? = some d) (h5 : d.Kind = 5) :
  ∃ (k : Nat) (x : Deed), reqS l d.Req = k ∧ l[k]? = some x ∧ k < a ∧ beginsS x = true ∧ x.Req = d.Req := by
 have hG := hc.good l (List.mem_of_getElem? hp) a d hk
 have hal := (List.getElem?_eq_some_iff.1 hk).1
 have hreq : 0 ≤ d.Req ∧ d.Req < cnt (l.take a) := by unfold Good at hG; omega
 obtain ⟨j, dj, hj, hjb, hjr⟩ := req_found (l.take a) (fun k d hd hb => by
  rw [List.getElem?_take] at hd
  split at hd
  ·have := good_begins (hc.good l (List.mem_of_getElem? hp) k d hd) hb
   rw [this, List.take_take, Nat.min_eq_left (by omega)]
  ·cases hd) d.Req hreq.1 (l.take a).length (Nat.le_refl _) (by rw [List.take_length]; exact hreq.2)
 rw [List.getElem?_take] at hj
 split at hj
 ·have hjl := (List.getElem?_eq_some_iff.1 hj).1
  have hex : ∃ x ∈ l, (beginsS x && decide (x.Req = d.Req)) = true := ⟨dj, List.mem_of_getElem? hj, by simp [hjb, hjr]⟩
  have hlt := List.findIdx_lt_length_of_exists hex
  have hle : l.findIdx (fun x => beginsS x && decide (x.Req = d.Req)) ≤ j := by
   apply Nat.le_of_not_lt
   intro hjlt
   have := List.not_of_lt_findIdx hjlt
   have e2 : l[j] = dj := (List.getElem?_eq_some_iff.1 hj).2
   simp [e2, hjb, hjr] at this
  have hg := List.findIdx_getElem (w := hlt)
  simp at hg
  exact ⟨_, _, rfl, List.getElem?_eq_getElem hlt, by unfold reqS; omega, hg.1, hg.2⟩
 ·cases hj
theorem ifun_idx (N : Nat) (l : List Deed) (p : Deed → Bool) (hN : 1300 ≤ N) (hl : l.length ≤ 1000) (hlt : l.findIdx p < l.length) : slices_IndexFunc_Llang_Deed_lang_Deed N l (fun d => some (p d)) = some ((l.findIdx p : Nat) : Int) := by
 unfold slices_IndexFunc_Llang_Deed_lang_Deed
 have h := loop_ret0 (F := slices_IndexFunc_Llang_Deed_lang_Deed_l1 N l (fun d => some (p d))) (len := l.length) (m := N) (fun k => if (l[k]?.map p) = some true then some (k : Int) else none) (by omega)
  (fun m k hk => by rw [slices_IndexFunc_Llang_Deed_lang_Deed_l1, if_neg (by simpa using hk)])
  (fun m k hk => by
   rw [slices_IndexFunc_Llang_Deed_lang_Deed_l1, if_pos (by simpa using hk), idx_nat, List.getElem?_eq_getElem hk]
   cases hd : p l[k]
   ·simp [hd]; rw [chk_t (inR_small (by omega) (by omega))]
   ·simp [hd])
 have hg := List.findIdx_getElem (w := hlt)
 rcases h with ⟨_, hall⟩ | ⟨k, r, hk, hgk, h, hbef⟩
 ·have := hall _ hlt
  rw [List.getElem?_eq_getElem hlt] at this
  simp [hg] at this
 ·rw [h]
  rw [List.getElem?_eq_getElem hk] at hgk
  by_cases hp : p l[k] = true
  ·simp [hp] at hgk
   subst hgk
   have : l.findIdx p = k := by
    rcases Nat.lt_trichotomy (l.findIdx p) k with h1 | h1 | h1
    ·have h2 := hbef _ h1
     rw [List.getElem?_eq_getElem hlt] at h2
     simp [hg] at h2
    ·exact h1
    ·have := List.not_of_lt_findIdx h1
     simp [hp] at this
   rw [this]; rfl
  ·simp [hp] at hgk
theorem request_eq (hN : 1300 ≤ N) (h : RunOk r) {p a : Nat} {l : List Deed} {d : Deed} (hp : r.c[p]? = some l) (hk : l[a]? = some d) (h5 : d.Kind = 5) : dead_run_request N r (p : Int) d.Req = some ((reqS l d.Req : Nat) : Int) := by
 obtain ⟨k, x, e, hx, _⟩ := req_ok h.chk hp hk h5
 have b1 := h.chk.rows l (List.mem_of_getElem? hp)
 have e1 : (fun x => dead_run_request_1 N x d.Req) = fun x => some (beginsS x && decide (x.Req = d.Req)) := by
  funext x; unfold dead_run_request_1; rw [begins_eq]; cases beginsS x <;> simp
 unfold dead_run_request
 rw [idx_nat, hp, Option.bind_some, e1, ifun_idx N l _ hN (by omega) (by show reqS l d.Req < _; rw [e]; exact (List.getElem?_eq_some_iff.1 hx).1)]
 rfl
theorem can_eq (hN : 1300 ≤ N) (h : RunOk r) {p : Nat} (hpl : p < r.c.length) : dead_run_can N r (p : Int) = some (canS r.c r.room (fN r.at_) p) := by
 have hp := List.getElem?_eq_getElem hpl
 generalize r.c[p] = l at hp
 obtain ⟨a, ha, hal⟩ := h.rng p l hp
 have hfa := fN_eq ha
 unfold dead_run_can canS
 rw [idx_nat, ha, Option.bind_some, idx_nat, hp, rowS_eq hp, hfa]
 simp only [Option.bind_some]
 by_cases hE : a = l.length
 ·rw [if_pos (by simp [hE]), List.getElem?_eq_none (by omega)]
 have hlt : a < l.length := by omega
 rw [if_neg (by simp; omega), idx_nat, List.getElem?_eq_getElem hlt, Option.bind_some]
 have hk := List.getElem?_eq_getElem hlt
 generalize hd : l[a] = d at *
 by_cases h1 : d.Kind = 1
 ·rw [if_pos (by simpa using h1), dead_run_can_1, taken_eq hN h hp hk (by simp [sendsS, h1]) (by omega)]
  simp [h1]
 rw [if_neg (by simpa using h1)]
 by_cases h2 : d.Kind = 2
 ·rw [if_pos (by simpa using h2), dead_run_can_2, received_eq hN h hp hk (by simp [receivesS, h2])]
  simp [h2]
 rw [if_neg (by simpa using h2)]
 by_cases h6 : d.Kind = 6
 ·rw [if_pos (by simpa using h6), dead_run_can_3, late_eq hN h hpl]
  simp only [h6, Option.bind_some, List.length_map]
  cases lateS r.c (fN r.at_) p with
  | nil => rfl
  | cons x xs =>
   have : ¬ ((x :: xs).length : Int) = 0 := by simp; omega
   simp only [decide_eq_false this]; rfl
 rw [if_neg (by simpa using h6)]
 by_cases h5 : d.Kind = 5
 ·rw [if_pos (by simpa using h5), dead_run_can_4, idx_nat, hp, Option.bind_some, idx_nat, hk, Option.bind_some]
  obtain ⟨k, x, e, hx, hka, hbx, _⟩ := req_ok h.chk hp hk h5
  dsimp only
  rw [request_eq hN h hp hk h5, Option.bind_some, e]
  simp only [idx_nat, Option.bind_some, hx, sends_eq]
  rw [if_neg h1, if_neg h2, if_neg h6, if_pos h5]
  unfold doesS
  rw [rowS_eq hp, hx]
  cases hsx : sendsS x
  ·have hrx : receivesS x = true := by
    unfold beginsS at hbx; unfold sendsS at hsx; unfold receivesS
    simp at hbx hsx ⊢
    omega
   rw [if_neg (by simp), received_eq hN h hp hx hrx]
   simp [hsx]
  ·rw [if_pos rfl, taken_eq hN h hp hx hsx (by omega)]
   simp [hsx]
 ·rw [if_neg (by simpa using h5)]; simp [h1, h2, h5, h6]
end
end Go.Arm
