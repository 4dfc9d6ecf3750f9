/- Plain laws. -/
import Derived.Test.YtmojccilbgjngaaPl9
namespace Go.Arm
open Go

section
variable {N : Nat} {c : List (List Deed)}
theorem follow_l1 (hN : 1300 ≤ N) {room : Int} (a0 : List Int) (s : List Int) (hs : s.length ≤ 1000) : ∀ (m k : Nat) (av : List Int), s.length - k < m → k ≤ s.length → RunOk ⟨c, room, av⟩ →
    (∃ e : Int, dead_Follow_l1 N c s ⟨c, room, a0⟩ m (k : Int) av = some (.inr ([], false, e)) ∧ folS c room (s.drop k) (fN av) = .error e ∧ e ≠ 0) ∨ ∃ av', dead_Follow_l1 N c s ⟨c, room, a0⟩ m (k : Int) av = some (.inl av') ∧ folS c room (s.drop k) (fN av) = .ok (fN av') ∧ RunOk ⟨c, room, av'⟩ := by
  intro m
  induction m with
  | zero => intro k av h; omega
  | succ m ih =>
    intro k av h hk hr
    rw [dead_Follow_l1]
    by_cases hkl : k < s.length
    · have hR : inR ((k : Int) + 1) := inR_small (by omega) (by omega)
      have e : (k : Int) + 1 = ((k + 1 : Nat) : Int) := rfl
      rw [if_pos (by simpa using hkl), idx_nat, List.getElem?_eq_getElem hkl, Option.bind_some, List.drop_eq_getElem_cons hkl, folS]
      generalize s[k] = x
      by_cases hx : x < 0 ∨ (c.length : Int) ≤ x
      · left
        refine ⟨11, ?_, by rw [if_pos hx], by decide⟩
        have e1 : (if decide (x < 0) = true then some true else some (decide ((c.length : Int) ≤ x))) = some true := by
          rcases hx with hx | hx
          · simp [hx]
          · by_cases h1 : x < 0 <;> simp [h1, hx]
        rw [e1]; rfl
      · obtain ⟨p, rfl⟩ : ∃ p : Nat, x = (p : Int) := ⟨x.toNat, by omega⟩
        have hp : p < c.length := by omega
        have e1 : (if decide ((p : Int) < 0) = true then some true else some (decide ((c.length : Int) ≤ (p : Int)))) = some false := by
          have h1 : ¬ (p : Int) < 0 := by omega
          have h2 : ¬ (c.length : Int) ≤ (p : Int) := by omega
          simp only [h1, h2, decide_false, Bool.false_eq_true, ↓reduceIte]
        have hcan : dead_run_can N (Run.with_at_ ⟨c, room, a0⟩ av) (p : Int) = some (canS c room (fN av) p) := can_eq hN hr hp
        have hat : av[p]? = some (fN av p : Int) := hr.at hp
        have hle : fN av p ≤ (rowS c p).length := hr.lt hp
        have h200 : c[p].length ≤ 200 := hr.chk.rows _ (List.getElem_mem hp)
        rw [rowS_eq (List.getElem?_eq_getElem hp)] at hle
        rw [if_neg hx, Int.toNat_natCast, e1, Option.bind_some]
        dsimp only
        rw [if_neg (by simp), hcan, Option.bind_some]
        cases hc : canS c room (fN av) p
        · left
          rw [if_pos (by simp), if_neg (by simp)]
          exact ⟨6, rfl, rfl, by decide⟩
        · rw [if_neg (by simp), if_pos rfl, Option.bind_some]
          dsimp only
          have hR2 : inR ((fN av p : Int) + 1) := inR_small (by omega) (by omega)
          have hset := fN_set (av := av) (p := p) (List.getElem?_eq_some_iff.1 hat).1 _ hat
          rw [idx_nat, hat, Option.bind_some, chk_t hR2, Option.bind_some, chk_t hR, e]
          have := ih (k + 1) (av.set p ((fN av p : Int) + 1)) (by omega) (by omega) (hr.go hp hc)
          rw [hset] at this
          exact this
    · rw [if_neg (by simpa using hkl), List.drop_eq_nil_of_le (by omega)]
      exact Or.inr ⟨av, rfl, rfl, hr⟩
open Classical in
theorem follow_eq (hN : 1300 ≤ N) (h : CaseOk c) {room : Int} (h0 : 0 ≤ room) (s : List Int) (hs : s.length ≤ 1000) :
    (∃ e : Int, dead_Follow N c room s = some ([], false, e) ∧ folS c room s zeroF = .error e ∧ e ≠ 0) ∨ ∃ av, dead_Follow N c room s = some (av, decide (TermS c room (fN av)), 0) ∧ folS c room s zeroF = .ok (fN av) ∧ RunOk ⟨c, room, av⟩ := by
  obtain ⟨h1, h2⟩ := newRun_eq hN h h0
  have h3 := follow_l1 hN (List.replicate c.length 0) s hs N 0 (List.replicate c.length 0) (by omega) (by omega) h2
  rw [show ((0 : Nat) : Int) = 0 from rfl, List.drop_zero, fN_zero] at h3
  unfold dead_Follow
  rw [h1, Option.bind_some, if_neg (by simp), Option.bind_some]
  dsimp only
  rcases h3 with ⟨e, h4, h5, h6⟩ | ⟨av, h4, h5, h6⟩
  · left
    rw [h4]; exact ⟨e, rfl, h5, h6⟩
  · right
    rw [h4, Option.bind_some]
    dsimp only
    have hn := next_eq hN (r := ⟨c, room, av⟩) h6
    have ew : Run.with_at_ (⟨c, room, List.replicate c.length 0⟩ : Run) av = ⟨c, room, av⟩ := rfl
    rw [ew]
    refine ⟨av, ?_, h5, h6⟩
    rcases hn with ⟨e, ht⟩ | ⟨k, hk, e, hc, _⟩
    · rw [e, Option.bind_some]
      have : TermS c room (fN av) := ht
      simp [this]
    · rw [e, Option.bind_some]
      have : ¬ TermS c room (fN av) := fun ht => by
        have h7 := ht k hk
        have h8 : canS c room (fN av) k = true := hc
        rw [h7] at h8; cases h8
      have h9 : ¬ (k : Int) < 0 := by omega
      simp [this, h9]
theorem run_ext {room : Int} {a b : List Int} (ha : RunOk ⟨c, room, a⟩) (hb : RunOk ⟨c, room, b⟩) (h : fN a = fN b) : a = b := by
  have la : a.length = c.length := ha.len
  have lb : b.length = c.length := hb.len
  apply List.ext_getElem (by omega)
  intro i h1 h2
  have h3 : a[i]? = some (fN a i : Int) := ha.at (show i < c.length by omega)
  have h4 : b[i]? = some (fN b i : Int) := hb.at (show i < c.length by omega)
  rw [List.getElem?_eq_getElem h1] at h3
  rw [List.getElem?_eq_getElem h2] at h4
  rw [h] at h3
  rw [Option.some.inj h3, Option.some.inj h4]
end

theorem equal_self {N : Nat} (hN : 1300 ≤ N) (l : List Int) (hl : l.length ≤ 1000) : law08_equal N l l = some true := by
  unfold law08_equal
  rw [if_neg (by simp)]
  have h := loop_ret0 (F := law08_equal_l1 N l l) (len := l.length) (m := N) (fun _ => (none : Option Bool)) (by omega)
    (fun m k hk => by rw [law08_equal_l1, if_neg (by simpa using hk)])
    (fun m k hk => by
      have hR : inR ((k : Int) + 1) := inR_small (by omega) (by omega)
      rw [law08_equal_l1, if_pos (by simpa using hk), idx_nat, List.getElem?_eq_getElem hk, Option.bind_some, Option.bind_some, if_neg (by simp), chk_t hR]; rfl)
  rcases h with ⟨e, _⟩ | ⟨k, x, hk, hg, e, _⟩
  · rw [e]; rfl
  · cases hg

/-- How far all are together. -/
def tot (n : Nat) (f : Nat → Nat) : Nat := ((List.range n).map f).sum
theorem tot_succ (n : Nat) (f : Nat → Nat) : tot (n + 1) f = tot n f + f n := by
  unfold tot; rw [List.range_succ, List.map_append, List.sum_append]; simp
theorem tot_step (f : Nat → Nat) (p : Nat) : ∀ n, tot n (stepF f p) = tot n f + if p < n then 1 else 0
  | 0 => by simp [tot]
  | n + 1 => by
    rw [tot_succ, tot_succ, tot_step f p n]
    unfold stepF
    by_cases h : n = p
    · subst h; simp; omega
    · rw [if_neg h]
      by_cases h2 : p < n
      · rw [if_pos h2, if_pos (by omega)]; omega
      · rw [if_neg h2, if_neg (by omega)]; omega
theorem tot_le (f : Nat → Nat) (B : Nat) : ∀ n, (∀ q, q < n → f q ≤ B) → tot n f ≤ B * n
  | 0, _ => by simp [tot]
  | n + 1, h => by
    rw [tot_succ, Nat.mul_add]
    have := tot_le f B n (fun q hq => h q (by omega))
    have := h n (by omega)
    omega
theorem fol_tot {c : List (List Deed)} {room : Int} : ∀ (s : List Int) (f g : Nat → Nat), folS c room s f = .ok g → tot c.length g = tot c.length f + s.length
  | [], f, g, h => by cases h; simp
  | x :: s, f, g, h => by
    rw [folS] at h
    split at h
    · cases h
    · split at h
      · have := fol_tot s _ _ h
        rw [this, tot_step, if_pos (by omega)]
        simp; omega
      · cases h

section
variable {c : List (List Deed)}
theorem sched_try {R : Int} (hc : CaseOk c) (hr : 0 ≤ R) {l av : List Int} (hl : l.length ≤ 120) (hf : folS c R l zeroF = .ok (fN av)) {p : Nat} (hp : p < c.length) :
    ∃ a b e, dead_Follow 1300 c R (l ++ [(p : Int)]) = some (a, b, e) ∧ ((e = 0 ∧ canS c R (fN av) p = true) ∨ (e ≠ 0 ∧ canS c R (fN av) p = false)) := by
  have hN : 1300 ≤ 1300 := Nat.le_refl _
  cases hcan : canS c R (fN av) p
  · have h1 := fol_snoc_no _ _ _ _ hf hp hcan
    rcases follow_eq hN hc hr (l ++ [(p : Int)]) (by simp; omega) with ⟨e, h2, h3, h4⟩ | ⟨av', h2, h3, _⟩
    · exact ⟨_, _, _, h2, Or.inr ⟨h4, rfl⟩⟩
    · rw [h1] at h3; cases h3
  · have h1 := fol_snoc _ _ _ _ hf hp hcan
    rcases follow_eq hN hc hr (l ++ [(p : Int)]) (by simp; omega) with ⟨e, h2, h3, h4⟩ | ⟨av', h2, h3, _⟩
    · rw [h1] at h3; cases h3
    · exact ⟨_, _, _, h2, Or.inl ⟨rfl, rfl⟩⟩
theorem sched_l2 (a1 y : U8) (h1 : 0 ≤ a1.n ∧ a1.n ≤ 255) (fy : Nat) (hy : y.n = (fy : Int)) (hc : CaseOk c) {l av : List Int} (hl : l.length ≤ 120) (hf : folS c (Int.tmod a1.n 6) l zeroF = .ok (fN av)) :
    ∀ (m k : Nat) (b : Bool), c.length - k < m → (∃ i, k ≤ i ∧ i < c.length ∧ canS c (Int.tmod a1.n 6) (fN av) ((fy % c.length + i) % c.length) = true) →
      ∃ q : Nat, q < c.length ∧ canS c (Int.tmod a1.n 6) (fN av) q = true ∧ law08_DeadSchedules_l2 1300 c a1 y m l b (k : Int) = some (l ++ [(q : Int)], true) := by
  have h6 := hc.six
  have hone := hc.chk.one
  have hr : 0 ≤ Int.tmod a1.n 6 := Int.tmod_nonneg _ h1.1
  intro m
  induction m with
  | zero => intro k b h; omega
  | succ m ih =>
    intro k b h ⟨i, hi1, hi2, hi3⟩
    rw [law08_DeadSchedules_l2]
    have hk : k < c.length := by omega
    have hR : inR ((k : Int) + 1) := inR_small (by omega) (by omega)
    have e : (k : Int) + 1 = ((k + 1 : Nat) : Int) := rfl
    have et : Int.tmod (Int.tmod y.n (c.length : Int) + (k : Int)) (c.length : Int) = (((fy % c.length + k) % c.length : Nat) : Int) := by rw [hy]; rfl
    have et2 : Int.tmod y.n (c.length : Int) = ((fy % c.length : Nat) : Int) := by rw [hy]; rfl
    have hq : (fy % c.length + k) % c.length < c.length := Nat.mod_lt _ (by omega)
    have hm : fy % c.length < c.length := Nat.mod_lt _ (by omega)
    rw [et]
    have hlen1 : (([] : List Int).length + l.length) * 8 ≤ 140737488355328 ∧ ([] : List Int).length + l.length ≤ maxLen := ⟨by simp; omega, small_len (by simp; omega)⟩
    have hlen2 : ((([] : List Int) ++ l).length + ([(((fy % c.length + k) % c.length : Nat) : Int)] : List Int).length) * 8 ≤ 140737488355328 ∧ (([] : List Int) ++ l).length + ([(((fy % c.length + k) % c.length : Nat) : Int)] : List Int).length ≤ maxLen := ⟨by simp; omega, small_len (by simp; omega)⟩
    rw [if_pos (by simpa using hk), chk_t hlen1, et2, chk_t (inR_small (by omega) (by omega)), chk_t (by omega), chk_t hlen2, chk_t (inR_small (by omega) (by omega)), chk_t (by decide), List.nil_append]
    obtain ⟨a, b', e', hfo, hor⟩ := sched_try hc hr hl hf hq
    rw [hfo, Option.bind_some]
    dsimp only
    rcases hor with ⟨he, hcan⟩ | ⟨he, hcan⟩
    · rw [if_pos (by simpa using he)]
      exact ⟨_, hq, hcan, rfl⟩
    · rw [if_neg (by simpa using he), chk_t hR, e]
      refine ih (k + 1) b (by omega) ⟨i, ?_, hi2, hi3⟩
      rcases Nat.lt_or_ge k i with h7 | h7
      · exact h7
      · rw [show i = k by omega, hcan] at hi3; cases hi3
theorem sched_l3 (a1 : U8) (h1 : 0 ≤ a1.n ∧ a1.n ≤ 255) (hc : CaseOk c) {l av : List Int} (hl : l.length ≤ 120) (hf : folS c (Int.tmod a1.n 6) l zeroF = .ok (fN av)) :
    ∀ (m k : Nat) (b : Bool), c.length - k < m → (∃ i, k ≤ i ∧ i < c.length ∧ canS c (Int.tmod a1.n 6) (fN av) i = true) →
      ∃ q : Nat, q < c.length ∧ canS c (Int.tmod a1.n 6) (fN av) q = true ∧ law08_DeadSchedules_l3 1300 c a1 m l b (k : Int) = some (l ++ [(q : Int)], true) := by
  have h6 := hc.six
  have hone := hc.chk.one
  have hr : 0 ≤ Int.tmod a1.n 6 := Int.tmod_nonneg _ h1.1
  intro m
  induction m with
  | zero => intro k b h; omega
  | succ m ih =>
    intro k b h ⟨i, hi1, hi2, hi3⟩
    rw [law08_DeadSchedules_l3]
    have hk : k < c.length := by omega
    have hR : inR ((k : Int) + 1) := inR_small (by omega) (by omega)
    have e : (k : Int) + 1 = ((k + 1 : Nat) : Int) := rfl
    have et : Int.tmod (0 + (k : Int)) (c.length : Int) = (k : Int) := by
      rw [Int.zero_add]
      show ((k % c.length : Nat) : Int) = (k : Int)
      rw [Nat.mod_eq_of_lt hk]
    rw [et]
    have hlen1 : (([] : List Int).length + l.length) * 8 ≤ 140737488355328 ∧ ([] : List Int).length + l.length ≤ maxLen := ⟨by simp; omega, small_len (by simp; omega)⟩
    have hlen2 : ((([] : List Int) ++ l).length + ([(k : Int)] : List Int).length) * 8 ≤ 140737488355328 ∧ (([] : List Int) ++ l).length + ([(k : Int)] : List Int).length ≤ maxLen := ⟨by simp; omega, small_len (by simp; omega)⟩
    rw [if_pos (by simpa using hk), chk_t hlen1, chk_t (inR_small (by omega) (by omega)), chk_t (by omega), chk_t hlen2, chk_t (inR_small (by omega) (by omega)), chk_t (by decide), List.nil_append]
    obtain ⟨a, b', e', hfo, hor⟩ := sched_try hc hr hl hf hk
    rw [hfo, Option.bind_some]
    dsimp only
    rcases hor with ⟨he, hcan⟩ | ⟨he, hcan⟩
    · rw [if_pos (by simpa using he)]
      exact ⟨_, hk, hcan, rfl⟩
    · rw [if_neg (by simpa using he), chk_t hR, e]
      refine ih (k + 1) b (by omega) ⟨i, ?_, hi2, hi3⟩
      rcases Nat.lt_or_ge k i with h7 | h7
      · exact h7
      · rw [show i = k by omega, hcan] at hi3; cases hi3
/-- A number of steps around the circle from one process to another. -/
theorem around {n a p : Nat} (hp : p < n) : ∃ i, i < n ∧ (a % n + i) % n = p := by
  have ha : a % n < n := Nat.mod_lt _ (by omega)
  by_cases h : a % n ≤ p
  · exact ⟨p - a % n, by omega, by rw [show a % n + (p - a % n) = p by omega, Nat.mod_eq_of_lt hp]⟩
  · exact ⟨p + n - a % n, by omega, by rw [show a % n + (p + n - a % n) = p + n by omega, Nat.add_mod_right, Nat.mod_eq_of_lt hp]⟩
def OkU8 (x : U8) : Prop := 0 ≤ x.n ∧ x.n ≤ 255
theorem sched_l1 (a1 : U8) (a2 : List U8) (h1 : OkU8 a1) (h2 : ∀ x ∈ a2, OkU8 x) (ha2 : a2.length ≤ 200) (hL : LightOk c) {o av : List Int} (hE : EndOk c (Int.tmod a1.n 6) o av) (b b' : Bool) :
    ∀ (m k : Nat) (l x : List Int), 130 - k < m → folS c (Int.tmod a1.n 6) l zeroF = .ok (fN x) → RunOk ⟨c, Int.tmod a1.n 6, x⟩ → l.length = k → law08_DeadSchedules_l1 1300 c a1 a2 (av, b, b') m l (k : Int) = some (.inr true) := by
  have hN : 1300 ≤ 1300 := Nat.le_refl _
  have hc := hL.toCaseOk
  have h6 := hc.six
  have hone := hc.chk.one
  have hr : 0 ≤ Int.tmod a1.n 6 := Int.tmod_nonneg _ h1.1
  intro m
  induction m with
  | zero => intro k l x h; omega
  | succ m ih =>
    intro k l x hm hf hrun hlk
    have hb := h1.1
    have hb' := h1.2
    have ht := fol_tot _ _ _ hf
    have hz : tot c.length zeroF = 0 := by have := tot_le zeroF 0 c.length (fun _ _ => Nat.le_refl _); omega
    have hup : ∀ q, q < c.length → fN x q ≤ 20 := fun q hq => by
      have h3 : fN x q ≤ (rowS c q).length := hrun.lt hq
      rw [rowS_eq (List.getElem?_eq_getElem hq)] at h3
      have := hL.few _ (List.getElem_mem hq)
      omega
    have htl := tot_le (fN x) 20 c.length hup
    have hk : k ≤ 120 := by omega
    have hR : inR ((k : Int) + 1) := inR_small (by omega) (by omega)
    have e : (k : Int) + 1 = ((k + 1 : Nat) : Int) := rfl
    rw [law08_DeadSchedules_l1, if_pos (by simp; omega), chk_t (inR_small (by omega) (by omega)), chk_t (by decide)]
    rcases follow_eq hN hc hr l (by omega) with ⟨e1, _, h4, _⟩ | ⟨x', h3, h4, h5⟩
    · rw [hf] at h4; cases h4
    have hxx : x' = x := run_ext h5 hrun (by rw [hf] at h4; injection h4 with h4; exact h4.symm)
    subst hxx
    rw [h3, Option.bind_some]
    dsimp only
    rw [if_neg (by simp)]
    by_cases hterm : TermS c (Int.tmod a1.n 6) (fN x')
    · have hav : x' = av := run_ext hrun hE.run (fol_unique hf hE.fol hterm hE.term)
      subst hav
      have hlen : x'.length = c.length := hrun.len
      rw [if_pos (by simpa using hterm), equal_self hN x' (by omega), Option.bind_some, if_pos rfl, works_true]
      rfl
    · rw [if_neg (by simpa using hterm)]
      have hex : ∃ p, p < c.length ∧ canS c (Int.tmod a1.n 6) (fN x') p = true := by
        apply Classical.byContradiction
        intro hno
        apply hterm
        intro p hp
        cases hcp : canS c (Int.tmod a1.n 6) (fN x') p
        · rfl
        · exact (hno ⟨p, hp, hcp⟩).elim
      obtain ⟨p, hp, hcp⟩ := hex
      have go : ∀ q, q < c.length → canS c (Int.tmod a1.n 6) (fN x') q = true → law08_DeadSchedules_l1 1300 c a1 a2 (av, b, b') m (l ++ [(q : Int)]) ((k + 1 : Nat) : Int) = some (.inr true) := by
        intro q hq hcq
        have hat : x'[q]? = some (fN x' q : Int) := hrun.at hq
        refine ih (k + 1) (l ++ [(q : Int)]) (x'.set q ((fN x' q : Int) + 1)) (by omega) ?_ (hrun.go hq hcq) (by simp [hlk])
        rw [fN_set (List.getElem?_eq_some_iff.1 hat).1 _ hat]
        exact fol_snoc _ _ _ _ hf hq hcq
      by_cases ha : 0 < a2.length
      · have hmod : k % a2.length < a2.length := Nat.mod_lt _ ha
        have hi : idx a2 (Int.tmod (k : Int) (a2.length : Int)) = some a2[k % a2.length] := by
          rw [show Int.tmod (k : Int) (a2.length : Int) = ((k % a2.length : Nat) : Int) from rfl, idx_nat, List.getElem?_eq_getElem hmod]
        have hy := h2 _ (List.getElem_mem hmod)
        rw [if_pos (by simp; omega), chk_t (by omega), hi, Option.bind_some]
        generalize a2[k % a2.length] = y at hy
        have hy1 := hy.1
        have hy2 := hy.2
        rw [chk_t (inR_small (by omega) (by omega)), chk_t (by omega)]
        obtain ⟨i, hi1, hi2⟩ := around (a := y.n.toNat) hp
        obtain ⟨q, hq, hcq, hs⟩ := sched_l2 a1 y h1 y.n.toNat (by omega) hc (by omega) hf 1300 0 false (by omega) ⟨i, by omega, hi1, by rw [hi2]; exact hcp⟩
        rw [show ((0 : Nat) : Int) = 0 from rfl] at hs
        rw [hs, Option.bind_some]
        dsimp only
        rw [if_neg (by simp), chk_t hR, e]
        exact go q hq hcq
      · rw [if_neg (by simp only [decide_eq_true_eq]; omega)]
        obtain ⟨q, hq, hcq, hs⟩ := sched_l3 a1 h1 hc (by omega) hf 1300 0 false (by omega) ⟨p, by omega, hp, hcp⟩
        rw [show ((0 : Nat) : Int) = 0 from rfl] at hs
        rw [hs, Option.bind_some]
        dsimp only
        rw [if_neg (by simp), chk_t hR, e]
        exact go q hq hcq
theorem law_sched (c : List (List Deed)) (a1 : U8) (a2 : List U8) (h1 : OkU8 a1) (h2 : ∀ x ∈ a2, OkU8 x) : law08_DeadSchedules 1300 c a1 a2 = some true := by
  have hN : 1300 ≤ 1300 := Nat.le_refl _
  have hb := h1.1
  have hb' := h1.2
  have hr : 0 ≤ Int.tmod a1.n 6 := Int.tmod_nonneg _ h1.1
  unfold law08_DeadSchedules
  obtain ⟨b, hbl, hl⟩ := light_eq hN c
  rw [hbl, Option.bind_some]
  cases b
  · rw [if_pos (by simp), Option.bind_some]
    dsimp only
    rw [if_pos rfl, works_true]; rfl
  rw [if_neg (by simp), Option.bind_some]
  dsimp only
  by_cases h200 : 200 < a2.length
  · rw [if_pos (by simp; omega), works_true]; rfl
  have hL := hl rfl
  have hc := hL.toCaseOk
  have h6 := hc.six
  obtain ⟨o, av, _, he, hs, hE⟩ := End_eq hN hc hr
  have hlo := hE.len 20 hL.few
  have hR : inR a1.n := inR_small (by omega) (by omega)
  rw [if_neg (by simp; omega), chk_t hR, chk_t (by decide), ends_eq hN hc he hE, Option.bind_some, chk_t hR, chk_t (by decide), hs, Option.bind_some, chk_t hR, chk_t (by decide)]
  dsimp only
  have hlen : av.length = c.length := hE.run.len
  rcases follow_eq hN hc hr o (by omega) with ⟨e1, _, h4, _⟩ | ⟨x', h3, h4, h5⟩
  · rw [hE.fol] at h4; cases h4
  have hxx : x' = av := run_ext h5 hE.run (by rw [hE.fol] at h4; injection h4 with h4; exact h4.symm)
  subst hxx
  have hterm := hE.term
  rw [h3, Option.bind_some]
  dsimp only
  rw [if_neg (by simp), if_neg (by simp), if_neg (by simp), if_neg (by simpa using hterm), equal_self hN x' (by omega), Option.bind_some, Option.bind_some]
  rw [if_neg (by simp)]
  have hl1 := sched_l1 a1 a2 h1 h2 (by omega) hL hE (allS c (fN x')) true 1300 0 [] (List.replicate c.length 0) (by omega) (by rw [fN_zero]; rfl) (newRun_eq hN hc hr).2 rfl
  rw [show ((0 : Nat) : Int) = 0 from rfl] at hl1
  rw [hl1]; rfl
end
end Go.Arm
