/- Plain laws. -/
import Derived.Test.YtmojccilbgjngaaPl13
namespace Go.Arm
open Go

theorem has_eq (l : List Int) (a : Int) (hl : l.length ≤ 1000) : law08_has 1300 l a = some (decide (a ∈ l)) := by
  unfold law08_has
  have h := loop_ret0 (F := law08_has_l1 1300 l a) (len := l.length) (m := 1300) (fun k => if l[k]? = some a then some true else none) (by omega)
    (fun m k hk => by rw [law08_has_l1, if_neg (by simpa using hk)])
    (fun m k hk => by
      rw [law08_has_l1, if_pos (by simpa using hk), idx_nat, List.getElem?_eq_getElem hk, Option.bind_some]
      by_cases hd : l[k] = a
      · rw [if_pos (by simpa using hd), if_pos (by simpa using hd)]
      · rw [if_neg (by simpa using hd), if_neg (by simpa using hd), chk_t (inR_small (by omega) (by omega))]; rfl)
  rcases h with ⟨h, hall⟩ | ⟨k, r, hk, hg, h, _⟩
  · rw [h]
    have : a ∉ l := by
      intro hm
      obtain ⟨k, hk⟩ := List.getElem?_of_mem hm
      have := hall k (List.getElem?_eq_some_iff.1 hk).1
      rw [if_pos hk] at this
      cases this
    simp [this]
  · rw [h]
    by_cases hk2 : l[k]? = some a
    · rw [if_pos hk2] at hg
      cases hg
      have := List.mem_of_getElem? hk2
      simp [this]
    · rw [if_neg hk2] at hg; cases hg
def waitS (l : List Block) : List (Int × List Int) := l.map (fun b => (b.Proc, b.For))
section
variable {c : List (List Deed)} {f : Nat → Nat} {av : List Int}
theorem cycles_l1 {l : List Block} (hc : CaseOk c) {room : Int} (hr : RunOk ⟨c, room, av⟩) (hB : Blks c (fN av) l) (b1 b2 : Bool) (e0 : Int) : ∀ (m k : Nat), l.length - k < m → k ≤ l.length →
    law08_DeadCycles_l1 1300 c (av, b1, b2) (l, e0) m (k : Int) (waitS (l.take k)) = some (.inl (waitS l)) := by
  have hcnt := hB.cnt
  have h6 := hc.six
  intro m
  induction m with
  | zero => intro k h; omega
  | succ m ih =>
    intro k h hk2
    rw [law08_DeadCycles_l1]
    dsimp only
    by_cases hk : k < l.length
    · have hR : inR ((k : Int) + 1) := inR_small (by omega) (by omega)
      have e : (k : Int) + 1 = ((k + 1 : Nat) : Int) := rfl
      obtain ⟨p, hb⟩ := hB.blk _ (List.getElem_mem hk)
      have hgo := ih (k + 1) (by omega) (by omega)
      rw [List.take_succ_eq_append_getElem hk] at hgo
      unfold waitS at hgo
      rw [List.map_append] at hgo
      have hfresh : ∀ e', e' ∈ waitS (l.take k) → e'.1 ≠ l[k].Proc := by
        intro e' he'
        unfold waitS at he'
        rw [List.mem_map] at he'
        obtain ⟨b, hb, rfl⟩ := he'
        obtain ⟨i, hi⟩ := List.getElem?_of_mem hb
        rw [List.getElem?_take] at hi
        split at hi
        · obtain ⟨hi1, hi2⟩ := List.getElem?_eq_some_iff.1 hi
          have h1 := List.pairwise_iff_getElem.1 hB.nodup i k (by simpa using hi1) (by simpa using hk) ‹_›
          simp only [List.getElem_map, hi2] at h1
          exact h1
        · cases hi
      have hinc : ∀ a, 0 < k → l[k - 1]? = some a → a.Proc < l[k].Proc := by
        intro a h0 ha
        exact hB.inc (k - 1) a l[k] ha (by rw [show k - 1 + 1 = k by omega]; exact List.getElem?_eq_getElem hk)
      rw [if_pos (by simpa using hk), idx_nat, List.getElem?_eq_getElem hk, Option.bind_some]
      generalize l[k] = b at hb hgo hfresh hinc
      have hat : av[p]? = some (fN av p : Int) := hr.at hb.lt
      have hp := List.getElem?_eq_getElem hb.lt
      have hlen := hb.len
      rw [rowS_eq hp] at hlen
      have hbl := hb.lt
      have hfl : b.For.length ≠ 0 := fun h0 => hb.some (List.eq_nil_of_length_eq_zero h0)
      have key : (if decide (b.Proc < 0) = true then some true else if decide ((c.length : Int) ≤ b.Proc) = true then some true else (idx av b.Proc).bind fun y3803 => if (!decide (b.At = y3803)) = true then some true else (idx c b.Proc).bind fun y4264 => if decide ((y4264.length : Int) ≤ b.At) = true then some true else some (decide ((b.For.length : Int) = 0))) = some false := by
        rw [hb.proc, if_neg (by simp), if_neg (by simp; omega), idx_nat, hat, Option.bind_some, if_neg (by simp [hb.att]), idx_nat, hp, Option.bind_some, hb.att, if_neg (by simp; omega)]
        exact congrArg some (decide_eq_false (by omega))
      have e1 : (if decide (0 < (k : Int)) = true then chk (inR ((k : Int) - 1)) ((idx l ((k : Int) - 1)).bind fun y111 => if decide (b.Proc ≤ y111.Proc) = true then some true else if decide (b.Proc < 0) = true then some true else if decide ((c.length : Int) ≤ b.Proc) = true then some true else (idx av b.Proc).bind fun y1471 => if (!decide (b.At = y1471)) = true then some true else (idx c b.Proc).bind fun y1944 => if decide ((y1944.length : Int) ≤ b.At) = true then some true else some (decide ((b.For.length : Int) = 0)))
          else if decide (b.Proc < 0) = true then some true else if decide ((c.length : Int) ≤ b.Proc) = true then some true else (idx av b.Proc).bind fun y3803 => if (!decide (b.At = y3803)) = true then some true else (idx c b.Proc).bind fun y4264 => if decide ((y4264.length : Int) ≤ b.At) = true then some true else some (decide ((b.For.length : Int) = 0))) = some false := by
        by_cases h0 : 0 < k
        · have hk1 : k - 1 < l.length := by omega
          have := hinc _ h0 (List.getElem?_eq_getElem hk1)
          rw [if_pos (by simp; omega), chk_t (inR_small (by omega) (by omega)), show (k : Int) - 1 = ((k - 1 : Nat) : Int) by omega, idx_nat, List.getElem?_eq_getElem hk1, Option.bind_some, if_neg (by simp; omega)]
          exact key
        · rw [if_neg (by simp; omega)]; exact key
      rw [e1, Option.bind_some]
      rw [if_neg (by simp), chk_t hR, e, mset_new hfresh]
      exact hgo
    · rw [if_neg (by simpa using hk), List.take_of_length_le (by omega)]
theorem cycles_l2 (hc : CaseOk c) {room : Int} (hr : RunOk ⟨c, room, av⟩) (b1 b2 : Bool) : ∀ (m k : Nat), c.length - k < m → k ≤ c.length →
    law08_DeadCycles_l2 1300 c (av, b1, b2) m (((List.range k).countP (fun p => decide (fN av p = (rowS c p).length)) : Nat) : Int) (k : Int) = some (((List.range c.length).countP (fun p => decide (fN av p = (rowS c p).length)) : Nat) : Int) := by
  have h6 := hc.six
  intro m
  induction m with
  | zero => intro k h; omega
  | succ m ih =>
    intro k h hk2
    rw [law08_DeadCycles_l2]
    dsimp only
    by_cases hk : k < c.length
    · have hR : inR ((k : Int) + 1) := inR_small (by omega) (by omega)
      have e : (k : Int) + 1 = ((k + 1 : Nat) : Int) := rfl
      have hat : av[k]? = some (fN av k : Int) := hr.at hk
      have hp := List.getElem?_eq_getElem hk
      have hgo := ih (k + 1) (by omega) (by omega)
      rw [List.range_succ, List.countP_append, List.countP_singleton, rowS_eq hp] at hgo
      have hle : (List.range k).countP (fun p => decide (fN av p = (rowS c p).length)) ≤ k := Nat.le_trans List.countP_le_length (by simp)
      rw [if_pos (by simpa using hk), idx_nat, hat, Option.bind_some, idx_nat, hp, Option.bind_some]
      by_cases hE : fN av k = c[k].length
      · rw [if_pos (by simp [hE]), chk_t (inR_small (by omega) (by omega)), chk_t hR, e]
        rw [if_pos (by simpa using hE)] at hgo
        exact hgo
      · rw [if_neg (by simp; omega), chk_t hR, e]
        rw [if_neg (by simpa using hE)] at hgo
        exact hgo
    · rw [if_neg (by simpa using hk), show k = c.length by omega]
theorem wait_get {l : List Block} (hnd : (l.map (·.Proc)).Nodup) {b : Block} (hb : b ∈ l) : mget (waitS l) b.Proc = some b.For := by
  induction l with
  | nil => simp at hb
  | cons a l ih =>
    rw [List.map_cons, List.nodup_cons] at hnd
    show mget ((a.Proc, a.For) :: waitS l) b.Proc = some b.For
    unfold mget
    rw [List.find?_cons]
    rcases List.mem_cons.1 hb with e | hb'
    · subst e; simp
    · have hne : ¬ a.Proc = b.Proc := fun h => hnd.1 (List.mem_map.2 ⟨b, hb', h.symm⟩)
      have := ih hnd.2 hb'
      unfold mget at this
      have e2 : (a.Proc == b.Proc) = false := by simpa using hne
      rw [e2]
      exact this
theorem cycles_l3 {l : List Block} (hB : Blks c f l) (hfor : ∀ b ∈ l, b.For.length ≤ 1000) {cyc : List Int} (hC : Circ l cyc) (hlen : cyc.length ≤ 100) (hmin : ∀ z, cyc[0]? = some z → ∀ y ∈ cyc, z ≤ y) (e0 : Int) : law08_DeadCycles_l3 1300 (cyc, e0) (waitS l) 1300 0 = some (.inl ()) := by
  have hl := loop_ret0 (F := law08_DeadCycles_l3 1300 (cyc, e0) (waitS l)) (len := cyc.length) (m := 1300) (fun _ => (none : Option Bool)) (by omega)
    (fun m k hk => by rw [law08_DeadCycles_l3, if_neg (by simpa using hk)])
    (fun m k hk => by
      have hR : inR ((k : Int) + 1) := inR_small (by omega) (by omega)
      obtain ⟨a, b, h1, h2, h3⟩ := hC k hk
      obtain ⟨x, hx, hxp, hxf, _⟩ := nx_some h3
      have hpos : 0 < cyc.length := by omega
      have hz := hmin _ (List.getElem?_eq_getElem hpos) a (List.mem_of_getElem? h1)
      have hw := wait_get hB.nodup hx
      rw [hxp] at hw
      have et : Int.tmod ((k : Int) + 1) (cyc.length : Int) = (((k + 1) % cyc.length : Nat) : Int) := rfl
      have hi0 : idx cyc 0 = some cyc[0] := by rw [show (0 : Int) = ((0 : Nat) : Int) from rfl, idx_nat, List.getElem?_eq_getElem hpos]
      rw [law08_DeadCycles_l3]
      dsimp only
      rw [if_pos (by simpa using hk), idx_nat, h1, Option.bind_some, chk_t hR, chk_t (by omega), et, idx_nat, h2, Option.bind_some, hw]
      rw [show ((some x.For).getD []) = x.For from rfl, has_eq x.For b (hfor x hx), Option.bind_some, if_neg (by simp [hxf]), hi0, Option.bind_some, Option.bind_some, if_neg (by simp; omega), chk_t hR]; rfl)
  rcases hl with ⟨e, _⟩ | ⟨k, r, hk, hg, e, _⟩
  · exact e
  · cases hg
theorem cycles_l5 {room : Int} (hr : RunOk ⟨c, room, av⟩) (b1 b2 : Bool) (b : Block) (hfor : b.For.length ≤ 1000) :
    (law08_DeadCycles_l5 1300 c (av, b1, b2) b 1300 0 = some (.inl ()) ∧ ∀ q ∈ b.For, ∀ k : Nat, q = (k : Int) → k < c.length → ¬ fN av k = (rowS c k).length) ∨ law08_DeadCycles_l5 1300 c (av, b1, b2) b 1300 0 = some (.inr true) := by
  have h := loop_ret0 (F := law08_DeadCycles_l5 1300 c (av, b1, b2) b) (len := b.For.length) (m := 1300) (fun k => match b.For[k]? with | none => none | some q => if 0 ≤ q ∧ q < c.length ∧ fN av q.toNat = (rowS c q.toNat).length then some true else none) (by omega)
    (fun m k hk => by rw [law08_DeadCycles_l5, if_neg (by simpa using hk)])
    (fun m k hk => by
      have hR : inR ((k : Int) + 1) := inR_small (by omega) (by omega)
      rw [law08_DeadCycles_l5, if_pos (by simpa using hk), idx_nat, List.getElem?_eq_getElem hk, Option.bind_some]
      generalize b.For[k] = q
      dsimp only
      by_cases hq : 0 ≤ q ∧ q < c.length
      · obtain ⟨p, rfl⟩ : ∃ p : Nat, q = (p : Int) := ⟨q.toNat, by omega⟩
        have hp : p < c.length := by omega
        have hat : av[p]? = some (fN av p : Int) := hr.at hp
        have hpc := List.getElem?_eq_getElem hp
        rw [if_pos (by simp), if_pos (by simp; omega), idx_nat, hat, Option.bind_some, idx_nat, hpc, Option.bind_some, Option.bind_some, Int.toNat_natCast, rowS_eq hpc]
        by_cases hE : fN av p = c[p].length
        · rw [if_pos (by simp [hE]), works_true, if_pos ⟨by omega, by omega, hE⟩]; rfl
        · rw [if_neg (by simp; omega), if_neg (fun h => hE h.2.2), chk_t hR]; rfl
      · have e1 : (if decide (0 ≤ q) = true then if decide (q < (c.length : Int)) = true then (idx av q).bind fun y5866 => (idx c q).bind fun y5870 => some (decide (y5866 = (y5870.length : Int))) else some false else some false) = some false := by
          by_cases h0 : 0 ≤ q
          · rw [if_pos (by simpa using h0), if_neg (by simp; omega)]
          · rw [if_neg (by simpa using h0)]
        rw [e1, Option.bind_some, if_neg (by simp), if_neg (fun h => hq ⟨h.1, h.2.1⟩), chk_t hR]; rfl)
  rcases h with ⟨e, hall⟩ | ⟨k, r, hk, hg, e, _⟩
  · left
    refine ⟨e, fun q hq k hqk hkc hE => ?_⟩
    obtain ⟨j, hj⟩ := List.getElem?_of_mem hq
    have := hall j (List.getElem?_eq_some_iff.1 hj).1
    rw [hj] at this
    dsimp only at this
    subst hqk
    rw [if_pos ⟨by omega, by omega, by simpa using hE⟩] at this
    cases this
  · right
    rw [e]
    split at hg
    · cases hg
    · split at hg
      · cases hg; rfl
      · cases hg
theorem cycles_l4 {l : List Block} {room : Int} (hr : RunOk ⟨c, room, av⟩) (hl : l.length ≤ 100) (b1 b2 : Bool) (e0 : Int) (hfor : ∀ b ∈ l, b.For.length ≤ 1000) (hex : ∃ b ∈ l, ∃ q ∈ b.For, ∃ k : Nat, q = (k : Int) ∧ k < c.length ∧ fN av k = (rowS c k).length) :
    law08_DeadCycles_l4 1300 c (av, b1, b2) (l, e0) 1300 0 = some (.inr true) := by
  have h := loop_ret0 (F := law08_DeadCycles_l4 1300 c (av, b1, b2) (l, e0)) (len := l.length) (m := 1300) (fun k => match l[k]? with | none => none | some b => if law08_DeadCycles_l5 1300 c (av, b1, b2) b 1300 0 = some (.inl ()) then none else some true) (by omega)
    (fun m k hk => by rw [law08_DeadCycles_l4, if_neg (by simpa using hk)])
    (fun m k hk => by
      have hR : inR ((k : Int) + 1) := inR_small (by omega) (by omega)
      rw [law08_DeadCycles_l4, if_pos (by simpa using hk)]
      dsimp only
      rw [idx_nat, List.getElem?_eq_getElem hk, Option.bind_some]
      dsimp only
      rcases cycles_l5 hr b1 b2 l[k] (hfor _ (List.getElem_mem hk)) with ⟨e, _⟩ | e
      · rw [e, Option.bind_some, if_pos rfl]
        dsimp only
        rw [chk_t hR]; rfl
      · rw [e, Option.bind_some, if_neg (by simp)])
  rcases h with ⟨e, hall⟩ | ⟨k, r, hk, hg, e, _⟩
  · obtain ⟨b, hb, q, hq, k, hqk, hkc, hE⟩ := hex
    obtain ⟨j, hj⟩ := List.getElem?_of_mem hb
    have := hall j (List.getElem?_eq_some_iff.1 hj).1
    rw [hj] at this
    dsimp only at this
    rcases cycles_l5 hr b1 b2 b (hfor _ hb) with ⟨e, hno⟩ | e
    · exact (hno q hq k hqk hkc hE).elim
    · rw [e] at this
      simp at this
  · rw [e]
    split at hg
    · cases hg
    · split at hg
      · cases hg
      · cases hg; rfl
end
theorem forS_len (c : List (List Deed)) (f : Nat → Nat) (p : Nat) (d : Deed) : (forS c f p d).length ≤ c.length + 1 := by
  unfold forS
  split
  · rw [List.length_map]
    unfold lateS
    have := List.length_filter_le (fun q => decide (meetS c f q < meetS c f p)) (List.range c.length)
    rw [List.length_range] at this
    omega
  · simp
theorem law_cycles (c : List (List Deed)) (a1 : U8) (h1 : 0 ≤ a1.n ∧ a1.n ≤ 255) : law08_DeadCycles 1300 c a1 = some true := by
  have hN : 1300 ≤ 1300 := Nat.le_refl _
  have hr0 : 0 ≤ Int.tmod a1.n 6 := Int.tmod_nonneg _ h1.1
  have hb1 := h1.1
  have hb2 := h1.2
  unfold law08_DeadCycles
  obtain ⟨b, hbl, hl⟩ := light_eq hN c
  rw [hbl, Option.bind_some]
  cases b
  · rw [if_pos (by simp), works_true]; rfl
  have hL := hl rfl
  have hc := hL.toCaseOk
  have h6 := hc.six
  obtain ⟨o, av, hfin, he, hs, hE⟩ := End_eq hN hc hr0
  have hR : inR a1.n := inR_small (by omega) (by omega)
  have hB := blks_ok hc hE.term (fun p hp => hE.run.lt hp)
  have hfor : ∀ b ∈ blkS c (fN av) c.length, b.For.length ≤ 1000 := by
    intro b hb
    unfold blkS at hb
    rw [List.mem_filterMap] at hb
    obtain ⟨p, _, hb⟩ := hb
    unfold blkF at hb
    cases hd : (rowS c p)[fN av p]? with
    | none => rw [hd] at hb; cases hb
    | some d =>
      rw [hd] at hb
      simp at hb
      rw [← hb]
      have := forS_len c (fN av) p d
      show (forS c (fN av) p d).length ≤ 1000
      omega
  have hblocks := Blocks_eq hN hc hr0 hfin hE
  obtain ⟨cyc, hcy, hcok⟩ := Cycle_eq hN hc hblocks hB hfor
  rw [if_neg (by simp), chk_t hR, chk_t (by decide), ends_eq hN hc he hE, Option.bind_some, chk_t hR, chk_t (by decide), hblocks, Option.bind_some, chk_t hR, chk_t (by decide), hcy, Option.bind_some]
  dsimp only
  rw [if_neg (by simp), if_neg (by simp), Option.bind_some, if_neg (by simp)]
  generalize blkS c (fN av) c.length = l at hB hfor hcok
  have hcnt := hB.cnt
  have g1 := cycles_l1 hc hE.run hB (allS c (fN av)) true 0 1300 0 (by omega) (by omega)
  rw [show ((0 : Nat) : Int) = 0 from rfl, List.take_zero, show waitS [] = [] from rfl] at g1
  have g2 := cycles_l2 hc hE.run (allS c (fN av)) true 1300 0 (by omega) (by omega)
  rw [show ((0 : Nat) : Int) = 0 from rfl, List.range_zero, List.countP_nil, show ((0 : Nat) : Int) = 0 from rfl] at g2
  rw [g1, Option.bind_some]
  dsimp only
  rw [g2, Option.bind_some]
  rw [chk_t (inR_small (by omega) (by omega)), if_neg (by simp; omega)]
  have g3 : law08_DeadCycles_l3 1300 (cyc, 0) (waitS l) 1300 0 = some (.inl ()) := by
    rcases hcok with ⟨rfl, _⟩ | ⟨_, hlen, hC, z, hz, hzl⟩
    · exact cycles_l3 hB hfor (fun i hi => by simp at hi) (by simp) (fun z hz => by simp at hz) 0
    · exact cycles_l3 hB hfor hC hlen (fun z' hz' y hy => by rw [hz] at hz'; cases hz'; exact hzl y hy) 0
  rw [g3, Option.bind_some]
  dsimp only
  by_cases h0 : 0 < l.length
  · rw [if_pos (by simpa using h0), Option.bind_some]
    rcases hcok with ⟨rfl, hno⟩ | ⟨hne, _⟩
    · rw [if_pos (by simp)]
      obtain ⟨b, hb, hnx⟩ := hno (List.length_pos_iff.1 h0)
      obtain ⟨p, hbp⟩ := hB.blk b hb
      have hfree := nx_none hb hnx
      obtain ⟨q, hq⟩ := List.exists_mem_of_ne_nil _ hbp.some
      have hqr := hbp.rng q hq
      have hqn : isB l q = false := hfree q hq
      have g4 := cycles_l4 hE.run (l := l) (by omega) (allS c (fN av)) true 0 hfor ⟨b, hb, q, hq, q.toNat, by omega, by omega, by
        have hle : fN av q.toNat ≤ (rowS c q.toNat).length := hE.run.lt (show q.toNat < c.length by omega)
        apply Nat.le_antisymm hle
        apply Nat.le_of_not_lt
        intro hlt
        obtain ⟨b', hb', hp'⟩ := hB.all q.toNat (by omega) hlt
        have : isB l q = true := isB_iff.2 ⟨b', hb', by omega⟩
        rw [hqn] at this
        cases this⟩
      rw [g4]; rfl
    · rw [if_neg (by simp; exact hne), works_true]; rfl
  · rw [if_neg (by simpa using h0), Option.bind_some, if_neg (by simp), works_true]; rfl
end Go.Arm
