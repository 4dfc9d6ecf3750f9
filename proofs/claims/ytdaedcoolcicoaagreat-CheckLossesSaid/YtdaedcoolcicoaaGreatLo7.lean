/- Plain laws. -/
import Derived.Test.YtdaedcoolcicoaaGreatLo1
namespace Go.Arm
open Go Go.RowKit

theorem ix_lev (N : Nat) (xs : List Level) (f : Level → Option Bool) (p : Level → Bool) (hf : ∀ x ∈ xs, f x = some (p x)) (hlen : xs.length ≤ 1000) : ∀ (k i : Nat), xs.length < i + k → i ≤ xs.length →
    ∃ r, slices_IndexFunc_Lcheck_Level_check_Level_l1 N xs f k (i : Int) = some r ∧ ((r = .inl () ∧ (xs.drop i).any p = false) ∨ ∃ j : Int, r = .inr j ∧ 0 ≤ j ∧ (xs.drop i).any p = true)
  | 0, i, h, h2 => by omega
  | k + 1, i, h, h2 => by
    rw [slices_IndexFunc_Lcheck_Level_check_Level_l1.eq_2]
    by_cases hi : i < xs.length
    · have hx : idx xs (i : Int) = some xs[i] := idx_at (by omega) (by simp [hi])
      have hd : xs.drop i = xs[i] :: xs.drop (i + 1) := List.drop_eq_getElem_cons hi
      simp only [show ((i : Int) < xs.length) by omega, decide_true, if_true, hx, Option.bind_some, hf _ (List.getElem_mem hi)]
      have hin : inR ((i : Int) + 1) := by unfold inR; omega
      rw [hd]
      by_cases hp : p xs[i] = true
      · exact ⟨.inr i, if_pos hp, .inr ⟨i, rfl, by omega, by rw [List.any_cons, hp, Bool.true_or]⟩⟩
      · obtain ⟨r, h3, h4⟩ := ix_lev N xs f p hf hlen k (i + 1) (by omega) (by omega)
        have hp' : p xs[i] = false := by cases h : p xs[i]; rfl; exact absurd h hp
        refine ⟨r, ?_, ?_⟩
        · rw [if_neg hp]
          unfold chk
          rw [if_pos hin]
          exact h3
        · rw [List.any_cons, hp', Bool.false_or]; exact h4
    · have he : i = xs.length := by omega
      refine ⟨.inl (), ?_, .inl ⟨rfl, ?_⟩⟩
      · simp [show ¬ ((i : Int) < xs.length) by omega]
      · subst he; simp
theorem contains_lev (N : Nat) (xs : List Level) (f : Level → Option Bool) (p : Level → Bool) (hf : ∀ x ∈ xs, f x = some (p x)) (hlen : xs.length ≤ 1000) (hN : 1000 < N) : slices_ContainsFunc_Lcheck_Level_check_Level N xs f = some (xs.any p) := by
  unfold slices_ContainsFunc_Lcheck_Level_check_Level slices_IndexFunc_Lcheck_Level_check_Level
  obtain ⟨r, h1, h2⟩ := ix_lev N xs f p hf hlen N 0 (by omega) (by omega)
  have h1' : slices_IndexFunc_Lcheck_Level_check_Level_l1 N xs f N 0 = some r := h1
  rw [h1']
  rcases h2 with ⟨rfl, h3⟩ | ⟨j, rfl, h3, h4⟩
  · simp only [List.drop_zero] at h3; simp [h3]
  · simp only [List.drop_zero] at h4; simp [h4, h3]

theorem ix_int (N : Nat) (xs : List Int) (f : Int → Option Bool) (p : Int → Bool) (hf : ∀ x ∈ xs, f x = some (p x)) (hlen : xs.length ≤ 1000) : ∀ (k i : Nat), xs.length < i + k → i ≤ xs.length →
    ∃ r, slices_IndexFunc_Lint_int_l1 N xs f k (i : Int) = some r ∧ ((r = .inl () ∧ (xs.drop i).any p = false) ∨ ∃ j : Int, r = .inr j ∧ 0 ≤ j ∧ (xs.drop i).any p = true)
  | 0, i, h, h2 => by omega
  | k + 1, i, h, h2 => by
    rw [slices_IndexFunc_Lint_int_l1.eq_2]
    by_cases hi : i < xs.length
    · have hx : idx xs (i : Int) = some xs[i] := idx_at (by omega) (by simp [hi])
      have hd : xs.drop i = xs[i] :: xs.drop (i + 1) := List.drop_eq_getElem_cons hi
      simp only [show ((i : Int) < xs.length) by omega, decide_true, if_true, hx, Option.bind_some, hf _ (List.getElem_mem hi)]
      have hin : inR ((i : Int) + 1) := by unfold inR; omega
      rw [hd]
      by_cases hp : p xs[i] = true
      · exact ⟨.inr i, if_pos hp, .inr ⟨i, rfl, by omega, by rw [List.any_cons, hp, Bool.true_or]⟩⟩
      · obtain ⟨r, h3, h4⟩ := ix_int N xs f p hf hlen k (i + 1) (by omega) (by omega)
        have hp' : p xs[i] = false := by cases h : p xs[i]; rfl; exact absurd h hp
        refine ⟨r, ?_, ?_⟩
        · rw [if_neg hp]
          unfold chk
          rw [if_pos hin]
          exact h3
        · rw [List.any_cons, hp', Bool.false_or]; exact h4
    · have he : i = xs.length := by omega
      refine ⟨.inl (), ?_, .inl ⟨rfl, ?_⟩⟩
      · simp [show ¬ ((i : Int) < xs.length) by omega]
      · subst he; simp
theorem contains_int (N : Nat) (xs : List Int) (f : Int → Option Bool) (p : Int → Bool) (hf : ∀ x ∈ xs, f x = some (p x)) (hlen : xs.length ≤ 1000) (hN : 1000 < N) : slices_ContainsFunc_Lint_int N xs f = some (xs.any p) := by
  unfold slices_ContainsFunc_Lint_int slices_IndexFunc_Lint_int
  obtain ⟨r, h1, h2⟩ := ix_int N xs f p hf hlen N 0 (by omega) (by omega)
  have h1' : slices_IndexFunc_Lint_int_l1 N xs f N 0 = some r := h1
  rw [h1']
  rcases h2 with ⟨rfl, h3⟩ | ⟨j, rfl, h3, h4⟩
  · simp only [List.drop_zero] at h3; simp [h3]
  · simp only [List.drop_zero] at h4; simp [h4, h3]

def badL (l : Level) : Bool := decide (l.Cost < 1) || decide (1024 < l.Cost) || decide (l.Mean < 1) || decide (1024 < l.Mean)
theorem badL_ok {l : Level} (h : badL l = false) : LevOk l := by
  simp only [badL, Bool.or_eq_false_iff, decide_eq_false_iff_not] at h
  unfold LevOk; omega
def badD (d : Int) : Bool := decide (d < 1) || decide (8 < d)
theorem badD_ok {d : Int} (h : badD d = false) : 1 ≤ d ∧ d ≤ 8 := by
  simp only [badD, Bool.or_eq_false_iff, decide_eq_false_iff_not] at h
  omega
theorem levelled_2 (N : Nat) (l : Level) : check_levelled_2 N l = some (badL l) := by
  unfold check_levelled_2 check_levelled_1 badL
  by_cases h1 : l.Cost < 1 <;> by_cases h2 : 1024 < l.Cost <;> by_cases h3 : l.Mean < 1 <;> by_cases h4 : 1024 < l.Mean <;> simp [h1, h2, h3, h4]
theorem lose_1 (N : Nat) (d : Int) : check_Lose_1 N d = some (badD d) := by
  unfold check_Lose_1 badD
  by_cases h1 : d < 1 <;> simp [h1]
/-- The levels are as they are to be. -/
def goodL (ls : List Level) : Bool := decide (1 ≤ ls.length) && decide (ls.length ≤ 3) && !ls.any badL
theorem levelled_eq (N : Nat) (ls : List Level) (hN : 1000 < N) : check_levelled N ls = some (if goodL ls then 0 else 3) := by
  unfold check_levelled goodL
  by_cases h1 : (ls.length : Int) < 1
  · have : ¬ 1 ≤ ls.length := by omega
    simp [h1, this]
  · by_cases h2 : 3 < (ls.length : Int)
    · have : ¬ ls.length ≤ 3 := by omega
      simp [h1, h2, this]
    · have a1 : 1 ≤ ls.length := by omega
      have a2 : ls.length ≤ 3 := by omega
      simp only [h1, h2, decide_false, Bool.false_eq_true, if_false, a1, a2, decide_true, Bool.and_self, Bool.true_and]
      rw [contains_lev N ls _ badL (fun x _ => levelled_2 N x) (by omega) hN]
      cases h : ls.any badL <;> simp
theorem levels_l1 (N : Nat) (ls : List Level) (hlen : ls.length ≤ 1000) : ∀ (k i : Nat), ls.length < i + k → i ≤ ls.length → ref14_levels_l1 N ls k (i : Int) = some (if (ls.drop i).any badL then .inr 3 else .inl ())
  | 0, i, h, h2 => by omega
  | k + 1, i, h, h2 => by
    rw [ref14_levels_l1.eq_2]
    by_cases hi : i < ls.length
    · have hx : idx ls (i : Int) = some ls[i] := idx_at (by omega) (by simp [hi])
      have hd : ls.drop i = ls[i] :: ls.drop (i + 1) := List.drop_eq_getElem_cons hi
      simp only [show ((i : Int) < ls.length) by omega, decide_true, if_true, hx, Option.bind_some]
      have ih := levels_l1 N ls hlen k (i + 1) (by omega) (by omega)
      have hin : inR ((i : Int) + 1) := by unfold inR; omega
      have hany : (ls.drop i).any badL = (badL ls[i] || (ls.drop (i + 1)).any badL) := by rw [hd, List.any_cons]
      generalize ls[i] = l at *
      have hb : (if decide (l.Cost < 1) = true then some true else if decide (1024 < l.Cost) = true then some true else if decide (l.Mean < 1) = true then some true else some (decide (1024 < l.Mean))) = some (badL l) := by
        unfold badL
        by_cases h1 : l.Cost < 1 <;> by_cases h2 : 1024 < l.Cost <;> by_cases h3 : l.Mean < 1 <;> by_cases h4 : 1024 < l.Mean <;> simp [h1, h2, h3, h4]
      rw [hb]
      simp only [Option.bind_some]
      by_cases hbl : badL l = true
      · rw [if_pos hbl, if_pos (show (ls.drop i).any badL = true by rw [hany, hbl, Bool.true_or])]
      · have e : (ls.drop i).any badL = (ls.drop (i + 1)).any badL := by rw [hany, Bool.eq_false_iff.2 hbl, Bool.false_or]
        rw [if_neg hbl, e]
        unfold chk
        rw [if_pos hin]; exact ih
    · have he : i = ls.length := by omega
      subst he; simp
theorem levels_eq (N : Nat) (ls : List Level) (hN : 1000 < N) : ref14_levels N ls = some (if goodL ls then 0 else 3) := by
  unfold ref14_levels goodL
  by_cases h1 : (ls.length : Int) < 1
  · have : ¬ 1 ≤ ls.length := by omega
    simp [h1, this]
  · by_cases h2 : 3 < (ls.length : Int)
    · have : ¬ ls.length ≤ 3 := by omega
      simp [h1, h2, this]
    · have a1 : 1 ≤ ls.length := by omega
      have a2 : ls.length ≤ 3 := by omega
      have := levels_l1 N ls (by omega) N 0 (by omega) (by omega)
      have e : ref14_levels_l1 N ls N 0 = _ := this
      simp only [h1, h2, decide_false, Bool.false_eq_true, if_false, a1, a2, decide_true, Bool.and_self, Bool.true_and, e, List.drop_zero, Option.bind_some]
      cases h : ls.any badL <;> simp
theorem lose_l (N : Nat) (ds : List Int) (hlen : ds.length ≤ 1000) (x : Loss) : ∀ (k i : Nat), ds.length < i + k → i ≤ ds.length → ref14_Lose_l1 N ds k (i : Int) x = some (if (ds.drop i).any badD then .inr (⟨0, 0⟩, 3) else .inl x)
  | 0, i, h, h2 => by omega
  | k + 1, i, h, h2 => by
    rw [ref14_Lose_l1.eq_2]
    by_cases hi : i < ds.length
    · have hx : idx ds (i : Int) = some ds[i] := idx_at (by omega) (by simp [hi])
      have hd : ds.drop i = ds[i] :: ds.drop (i + 1) := List.drop_eq_getElem_cons hi
      simp only [show ((i : Int) < ds.length) by omega, decide_true, if_true, hx, Option.bind_some]
      have ih := lose_l N ds hlen x k (i + 1) (by omega) (by omega)
      have hin : inR ((i : Int) + 1) := by unfold inR; omega
      have hany : (ds.drop i).any badD = (badD ds[i] || (ds.drop (i + 1)).any badD) := by rw [hd, List.any_cons]
      generalize ds[i] = d at *
      have hb : (if decide (d < 1) = true then some true else some (decide (8 < d))) = some (badD d) := by
        unfold badD
        by_cases h1 : d < 1 <;> simp [h1]
      rw [hb]
      simp only [Option.bind_some]
      by_cases hbl : badD d = true
      · rw [if_pos hbl, if_pos (show (ds.drop i).any badD = true by rw [hany, hbl, Bool.true_or])]
      · have e : (ds.drop i).any badD = (ds.drop (i + 1)).any badD := by rw [hany, Bool.eq_false_iff.2 hbl, Bool.false_or]
        rw [if_neg hbl, e]
        unfold chk
        rw [if_pos hin]; exact ih
    · have he : i = ds.length := by omega
      subst he; simp
end Go.Arm
namespace Go.Arm
open Go Go.RowKit

theorem goodL_ok {ls : List Level} (h : goodL ls = true) : 1 ≤ ls.length ∧ ls.length ≤ 3 ∧ ∀ l ∈ ls, LevOk l := by
  simp only [goodL, Bool.and_eq_true, decide_eq_true_eq, Bool.not_eq_true'] at h
  refine ⟨h.1.1, h.1.2, fun l hl => badL_ok ?_⟩
  have := List.any_eq_false.1 h.2 l hl
  simpa using this
theorem noBad {ds : List Int} (h : ds.any badD = false) : ∀ d ∈ ds, 1 ≤ d ∧ d ≤ 8 := fun d hd => badD_ok (by have := List.any_eq_false.1 h d hd; simpa using this)

theorem Lose_eq {N : Nat} {ls : List Level} {P : Int} {ds : List Int} (h10 : ls.length ≤ 10) (hN : 562949953421312 < N) : ∃ R, check_Lose N ls P ds = some R ∧ ref14_Lose N ls P ds = some R := by
  unfold check_Lose ref14_Lose
  rw [levelled_eq N ls (by omega), levels_eq N ls (by omega)]
  simp only [Option.bind_some]
  cases hg : goodL ls
  · exact ⟨_, rfl, rfl⟩
  · obtain ⟨hl0, hl1, hl⟩ := goodL_ok hg
    simp only [if_true, decide_true, Bool.not_true, Bool.false_eq_true, if_false]
    by_cases h1 : P < 1
    · simp only [h1, decide_true, if_true, Option.bind_some]; exact ⟨_, rfl, rfl⟩
    · by_cases h2 : 4096 < P
      · simp only [h1, h2, decide_true, decide_false, Bool.false_eq_true, if_true, if_false, Option.bind_some]; exact ⟨_, rfl, rfl⟩
      · simp only [h1, h2, decide_false, Bool.false_eq_true, if_false, Option.bind_some, chk]
        rw [if_pos (show inR ((ls.length : Int) - 1) by unfold inR; omega), if_pos (show inR ((ls.length : Int) - 1) by unfold inR; omega)]
        by_cases h3 : (ds.length : Int) = (ls.length : Int) - 1
        · simp only [h3, decide_true, Bool.not_true, Bool.false_eq_true, if_false]
          rw [contains_int N ds _ badD (fun x _ => lose_1 N x) (by omega) (by omega)]
          have hl1' := lose_l N ds (by omega) ⟨0, 0⟩ N 0 (by omega) (by omega)
          have e : ref14_Lose_l1 N ds N 0 ⟨0, 0⟩ = _ := hl1'
          rw [e]
          simp only [List.drop_zero, Option.bind_some]
          cases hb : ds.any badD
          · obtain ⟨R, _, hR⟩ := same_all (P := P) hl0 hl1 hl (by omega) (by omega) (noBad hb)
            obtain ⟨r1, r2⟩ := hR N hN
            simp only [Bool.false_eq_true, if_false, Option.bind_some, r1, r2]
            exact ⟨_, rfl, rfl⟩
          · simp only [if_true, Option.bind_some]; exact ⟨_, rfl, rfl⟩
        · simp only [h3, decide_false, Bool.not_false, if_true, Option.bind_some]; exact ⟨_, rfl, rfl⟩

theorem copy_l1 (N : Nat) (ls : List Level) (hlen : ls.length ≤ 1000) : ∀ (k i : Nat), ls.length < i + k → i ≤ ls.length → law14_levels_l1 N ls k (ls.take i) (i : Int) = some ls
  | 0, i, h, h2 => by omega
  | k + 1, i, h, h2 => by
    rw [law14_levels_l1.eq_2]
    by_cases hi : i < ls.length
    · have hx : idx ls (i : Int) = some ls[i] := idx_at (by omega) (by simp [hi])
      simp only [show ((i : Int) < ls.length) by omega, decide_true, if_true, hx, Option.bind_some]
      unfold chk
      have ih := copy_l1 N ls hlen k (i + 1) (by omega) (by omega)
      have ht : ls.take (i + 1) = ls.take i ++ [(⟨ls[i].Cost, ls[i].Mean⟩ : Level)] := by rw [List.take_succ_eq_append_getElem hi]
      rw [if_pos ⟨by simp; omega, by simp [maxLen]; omega⟩, if_pos (show inR ((i : Int) + 1) by unfold inR; omega), ← ht]
      exact ih
    · have he : i = ls.length := by omega
      subst he; simp
theorem copy_eq (N : Nat) (ls : List Level) (hlen : ls.length ≤ 1000) (hN : 1000 < N) : law14_levels N ls = some ls := by
  unfold law14_levels
  have := copy_l1 N ls hlen N 0 (by omega) (by omega)
  have e : law14_levels_l1 N ls N [] 0 = some ls := this
  rw [e]; rfl

theorem ints_l1 (N : Nat) (xs : List Int) (hlen : xs.length ≤ 100000) : ∀ (k i : Nat), xs.length < i + k → i ≤ xs.length → ref01_SameInts_l1 N xs xs k (i : Int) = some (.inl ())
  | 0, i, h, h2 => by omega
  | k + 1, i, h, h2 => by
    rw [ref01_SameInts_l1.eq_2]
    by_cases hi : i < xs.length
    · have hx : idx xs (i : Int) = some xs[i] := idx_at (by omega) (by simp [hi])
      simp only [show ((i : Int) < xs.length) by omega, decide_true, if_true, hx, Option.bind_some, Bool.not_true, Bool.false_eq_true, if_false]
      unfold chk
      rw [if_pos (show inR ((i : Int) + 1) by unfold inR; omega)]
      exact ints_l1 N xs hlen k (i + 1) (by omega) (by omega)
    · have he : i = xs.length := by omega
      subst he; simp
theorem ints_eq (N : Nat) (xs : List Int) (hlen : xs.length ≤ 100000) (hN : 100000 < N) : ref01_SameInts N xs xs = some true := by
  unfold ref01_SameInts
  have e : ref01_SameInts_l1 N xs xs N 0 = some (.inl ()) := ints_l1 N xs hlen N 0 (by omega) (by omega)
  simp [e]
end Go.Arm
namespace Go.Arm
open Go Go.RowKit

theorem l4_eq (N : Nat) (base : Int) : ∀ (m : Nat) (i : Int) (xs : List Int), ref14_Best_l4 N base m i xs = check_numbers_l2 N base m i xs
  | 0, _, _ => rfl
  | m + 1, i, xs => by
    rw [ref14_Best_l4.eq_2, check_numbers_l2.eq_2]
    simp only [l4_eq N base m]
theorem l5_eq (N : Nat) (base : Int) : ∀ (m : Nat) (i : Int) (xs : List Int), ref14_Best_l5 N base m i xs = check_numbers_l2 N base m i xs
  | 0, _, _ => rfl
  | m + 1, i, xs => by
    rw [ref14_Best_l5.eq_2, check_numbers_l2.eq_2]
    simp only [l5_eq N base m]

/-- How much is still to be counted. -/
def rest (base : Int) : List Int → Nat
  | [] => 0
  | [d] => (base - d).toNat
  | d :: e :: _ => (base - d).toNat * 100 + (base - e).toNat
def CurOk (base : Int) (n : Nat) (cur : List Int) : Prop := cur.length = n ∧ ∀ d ∈ cur, 1 ≤ d ∧ d ≤ base

/-- One step of the count: it ends, or it goes on with a list that is nearer to the end. -/
theorem count {N : Nat} {base : Int} {n : Nat} {cur : List Int} (hb : 1 ≤ base ∧ base ≤ 8) (hn : n ≤ 2) (hc : CurOk base n cur) (hN : 10 < N) :
    ∃ i xs, check_numbers_l2 N base N ((n : Int) - 1) cur = some (i, xs) ∧ (i < 0 ∨ (¬ i < 0 ∧ ∃ v, idx xs i = some v ∧ inR (v + 1) ∧ CurOk base n (xs.set i.toNat (v + 1)) ∧ rest base (xs.set i.toNat (v + 1)) < rest base cur)) := by
  obtain ⟨k, hk⟩ : ∃ k, N = k + 3 := ⟨N - 3, by omega⟩
  obtain ⟨h1, h2⟩ := hc
  have n1 : ¬ (0 : Int) ≤ -1 := by omega
  match cur, h1 with
  | [], h1 =>
    subst h1
    refine ⟨-1, [], ?_, .inl (by omega)⟩
    rw [hk]
    simp [check_numbers_l2]
  | [d], h1 =>
    have h1' : n = 1 := by simpa using h1.symm
    subst h1'
    obtain ⟨d0, d1⟩ := h2 d (by simp)
    by_cases hd : d = base
    · refine ⟨-1, [1], ?_, .inl (by omega)⟩
      subst hd
      rw [hk]
      simp [check_numbers_l2, idx, chk, show inR (-1) by decide]
    · refine ⟨0, [d], ?_, .inr ⟨by omega, d, rfl, by unfold inR; omega, ⟨by simp, ?_⟩, ?_⟩⟩
      · rw [hk]
        simp [check_numbers_l2, idx, hd]
      · intro z hz; simp at hz; omega
      · simp [rest]; omega
  | [d, e], h1 =>
    have h1' : n = 2 := by simpa using h1.symm
    subst h1'
    obtain ⟨d0, d1⟩ := h2 d (by simp)
    obtain ⟨e0, e1⟩ := h2 e (by simp)
    by_cases he : e = base
    · by_cases hd : d = base
      · refine ⟨-1, [1, 1], ?_, .inl (by omega)⟩
        subst he; subst hd
        rw [hk]
        simp [check_numbers_l2, idx, chk, show inR (-1) by decide, show inR 0 by decide]
      · refine ⟨0, [d, 1], ?_, .inr ⟨by omega, d, rfl, by unfold inR; omega, ⟨by simp, ?_⟩, ?_⟩⟩
        · rw [hk]
          simp [check_numbers_l2, idx, chk, hd, he, show inR 0 by decide]
        · intro z hz; simp at hz; omega
        · simp [rest]; omega
    · refine ⟨1, [d, e], ?_, .inr ⟨by omega, e, rfl, by unfold inR; omega, ⟨by simp, ?_⟩, ?_⟩⟩
      · rw [hk]
        simp [check_numbers_l2, idx, he]
      · intro z hz; simp at hz; omega
      · simp [rest]; omega
  | _ :: _ :: _ :: _, h1 => simp at h1; omega
end Go.Arm
namespace Go.Arm
open Go Go.RowKit

theorem clone_eq (N : Nat) (xs : List Int) (h : xs.length ≤ 1000) : slices_Clone_Lint_int N xs = some xs := by
  unfold slices_Clone_Lint_int chk
  rw [if_pos ⟨by simp; omega, by simp [maxLen]; omega⟩]; rfl

/-- What a search keeps. -/
def StOk (n : Nat) (q : Int × Loss × List Int) : Prop := (q.1 = 0 ∨ Fine q.2.1) ∧ q.2.2.length ≤ n

theorem best_1 {N : Nat} {ls : List Level} {P : Int} {cur : List Int} {R : Loss} {q : Int × Loss × List Int} (hR : Fine R) (hq : q.1 = 0 ∨ Fine q.2.1) (hl : check_lose N ls P cur = some R) (hN : 3 < N) :
    check_Best_1 N cur ls P q.1 q.2.1 q.2.2 = some (if decide (q.1 = 0) || lessL R q.2.1 then (P, R, cur) else q) := by
  unfold check_Best_1
  rw [hl]
  simp only [Option.bind_some]
  by_cases h0 : q.1 = 0
  · simp [h0]
  · have hF : Fine q.2.1 := hq.resolve_left h0
    obtain ⟨k, rfl⟩ : ∃ k, N = k + 3 := ⟨N - 3, by omega⟩
    obtain ⟨c, h1, h2⟩ := compare_less k hR hF
    simp only [h0, decide_false, Bool.false_eq_true, if_false, h1, Option.bind_some, h2, Bool.false_or]
    cases lessL R q.2.1 <;> rfl

theorem search {N : Nat} {ls : List Level} {P base : Int} {n : Nat} (hls : goodL ls = true) (hP : 1 ≤ P ∧ P ≤ 4096) (hb : 1 ≤ base ∧ base ≤ 8) (hn : n + 1 = ls.length) (hN : 36893488147419103232 < N) :
    ∀ (m : Nat) (q : Int × Loss × List Int) (cur : List Int), StOk 2 q → CurOk base n cur → rest base cur < m →
      ∃ r, check_numbers_l1 N (n : Int) base (fun x q => check_Best_1 N x ls P q.1 q.2.1 q.2.2) m q cur = some (.inr r) ∧ ref14_Best_l3 N ls base P m q.1 q.2.2 q.2.1 cur = some (r.1, r.2.2, r.2.1) ∧ StOk 2 r
  | 0, _, _, _, _, h => absurd h (Nat.not_lt_zero _)
  | m + 1, q, cur, hq, hc, hm => by
    obtain ⟨hl0, hl1, hl⟩ := goodL_ok hls
    obtain ⟨R, hF, hR⟩ := same_all (P := P) (ds := cur) hl0 hl1 hl hP (by rw [hc.1]; exact hn) (fun d hd => by have := hc.2 d hd; omega)
    obtain ⟨r1, r2⟩ := hR N (by omega)
    obtain ⟨i, xs, hcnt, hgo⟩ := count (N := N) hb (by omega) hc (by omega)
    have hin : inR ((n : Int) - 1) := by unfold inR; omega
    have hnn : (((ls.length : Int) - 1).toNat : Int) = (n : Int) := by omega
    have hlen : cur.length ≤ 2 := by rw [hc.1]; omega
    have hbst := best_1 (q := q) hF hq.1 r1 (by omega)
    have hless : ¬ q.1 = 0 → ref14_Less N R q.2.1 = some (lessL R q.2.1) := fun h0 => less_eq N R q.2.1 hF (hq.1.resolve_left h0) (by
      have a := hF; have b := hq.1.resolve_left h0
      unfold Fine at a b; omega)
    have hwhich : (if decide (q.1 = 0) = true then some true else Option.bind (ref14_Less N R q.2.1) fun y => some y) = some (decide (q.1 = 0) || lessL R q.2.1) := by
      by_cases h0 : q.1 = 0
      · simp [h0]
      · rw [hless h0]; simp [h0]
    have hcl : (([] : List Int).length + cur.length) * 8 ≤ 140737488355328 ∧ ([] : List Int).length + cur.length ≤ maxLen := ⟨by simp; omega, by simp [maxLen]; omega⟩
    rw [check_numbers_l1.eq_2, ref14_Best_l3.eq_2]
    rw [clone_eq N cur (by omega), r2]
    simp only [Option.bind_some, hbst, hwhich]
    unfold chk
    rw [if_pos hin]
    simp only [hcnt, Option.bind_some, hnn, l4_eq, l5_eq, if_pos hin, List.nil_append]
    rw [if_pos (show (([] : List Int).length + cur.length) * 8 ≤ 140737488355328 ∧ ([] : List Int).length + cur.length ≤ maxLen from hcl)]
    generalize hbt : (decide (q.1 = 0) || lessL R q.2.1) = bt
    have hq' : StOk 2 (if bt = true then (P, R, cur) else q) := by
      cases bt
      · exact hq
      · exact ⟨.inr hF, hlen⟩
    rcases hgo with hneg | ⟨hpos, v, hv, hvin, hok, hrest⟩
    · refine ⟨_, by simp only [hneg, decide_true, if_true], ?_, hq'⟩
      cases bt <;> simp [hneg]
    · obtain ⟨r, e1, e2, e3⟩ := search hls hP hb hn hN m (if bt = true then (P, R, cur) else q) (xs.set i.toNat (v + 1)) hq' hok (by omega)
      refine ⟨r, ?_, ?_, e3⟩
      · simp only [hpos, decide_false, Bool.false_eq_true, if_false, hv, Option.bind_some, if_pos hvin]
        exact e1
      · cases bt
        · simp only [hpos, decide_false, Bool.false_eq_true, if_false, hv, Option.bind_some, if_pos hvin]
          exact e2
        · simp only [hpos, decide_false, Bool.false_eq_true, if_false, if_true, hv, Option.bind_some, if_pos hvin]
          exact e2
end Go.Arm
namespace Go.Arm
open Go Go.RowKit

theorem repeat_eq {N n : Nat} (hn : n ≤ 2) (hN : 10 < N) : slices_Repeat_Lint_int N [1] (n : Int) = some (List.replicate n 1) := by
  obtain ⟨k, hk⟩ : ∃ k, N = k + 3 := ⟨N - 3, by omega⟩
  unfold slices_Repeat_Lint_int math_bits_Mul
  have h0 : ¬ ((n : Int) < 0) := by omega
  have e1 : convK .u64 (([1] : List Int).length : Int) = 1 := by decide
  rw [convU (a := (n : Int)) (by omega) (by omega), e1, mul64_eq N (by decide) (by decide) (by omega) (by omega)]
  have e2 : (1 : Int) * (n : Int) / 18446744073709551616 = 0 := by omega
  have e3 : (1 : Int) * (n : Int) % 18446744073709551616 = n := by omega
  rw [e2, e3]
  have e4 : convK .i64 (n : Int) = n := wrap_in (by unfold inR; omega)
  have e5 : ¬ ((9223372036854775807 : Int) < n) := by omega
  simp only [h0, decide_false, Bool.false_eq_true, if_false, Option.bind_some, Int.lt_irrefl, e4, e5, Int.toNat_natCast]
  unfold chk
  rw [if_pos ⟨by omega, by omega, by omega⟩]
  rw [hk]
  match n, hn with
  | 0, _ => simp [slices_Repeat_Lint_int_l1, cpy, show convK .i64 0 = 0 by decide]
  | 1, _ => simp [slices_Repeat_Lint_int_l1, cpy, show convK .i64 1 = 1 by decide]
  | 2, _ => simp [slices_Repeat_Lint_int_l1, cpy, cut, chk, show convK .i64 2 = 2 by decide, show inR 2 by decide]

theorem ones_eq {N n : Nat} {ls : List Level} (hn : n ≤ 2) (hl : n + 1 = ls.length) (hN : 10 < N) : ref14_Best_l2 N ls N 0 (List.replicate n 0) = some (List.replicate n 1) := by
  obtain ⟨k, hk⟩ : ∃ k, N = k + 3 := ⟨N - 3, by omega⟩
  conv => lhs; rw [hk]
  match n, hn with
  | 0, _ => simp [ref14_Best_l2, show ls.length - 1 = 0 by omega]
  | 1, _ => simp [ref14_Best_l2, show ls.length - 1 = 1 by omega, idx, chk, show inR 1 by decide]
  | 2, _ => simp [ref14_Best_l2, show ls.length - 1 = 2 by omega, idx, chk, show inR 1 by decide, show inR 2 by decide]

theorem numbers_eq {N : Nat} {ls : List Level} {P base : Int} {n : Nat} (hls : goodL ls = true) (hP : 1 ≤ P ∧ P ≤ 4096) (hb : 1 ≤ base ∧ base ≤ 8) (hn : n + 1 = ls.length) (hN : 36893488147419103232 < N) {q : Int × Loss × List Int} (hq : StOk 2 q) :
    ∃ r, check_numbers N (n : Int) base (fun x q => check_Best_1 N x ls P q.1 q.2.1 q.2.2) q = some r ∧ ref14_Best_l3 N ls base P N q.1 q.2.2 q.2.1 (List.replicate n 1) = some (r.1, r.2.2, r.2.1) ∧ StOk 2 r := by
  obtain ⟨hl0, hl1, hl⟩ := goodL_ok hls
  have hc : CurOk base n (List.replicate n 1) := ⟨by simp, fun d hd => by rw [List.eq_of_mem_replicate hd]; omega⟩
  have hrest : rest base (List.replicate n 1) < N := by
    have : n ≤ 2 := by omega
    match n, this with
    | 0, _ => simp [rest]; omega
    | 1, _ => simp [rest, List.replicate]; omega
    | 2, _ => simp [rest, List.replicate]; omega
  obtain ⟨r, h1, h2, h3⟩ := search hls hP hb hn hN N q _ hq hc hrest
  refine ⟨r, ?_, h2, h3⟩
  unfold check_numbers
  rw [repeat_eq (by omega) (by omega)]
  simp only [Option.bind_some, h1]

theorem groups {N : Nat} {ls : List Level} {top base : Int} (hls : goodL ls = true) (htop : top ≤ 4096) (hb : 1 ≤ base ∧ base ≤ 8) (hN : 36893488147419103232 < N) :
    ∀ (m : Nat) (P best : Int) (divs : List Int) (least : Loss), 1 ≤ P → StOk 2 (best, least, divs) → (top + 1 - P).toNat < m →
      ∃ b ds, check_Best_l1 N ls top base m P best divs least = some (b, ds) ∧ ref14_Best_l1 N ls top base m best divs P least = some (b, ds) ∧ ds.length ≤ 2
  | 0, _, _, _, _, _, _, h => absurd h (Nat.not_lt_zero _)
  | m + 1, P, best, divs, least, hP, hq, hm => by
    obtain ⟨hl0, hl1, hl⟩ := goodL_ok hls
    obtain ⟨n, hn⟩ : ∃ n, n + 1 = ls.length := ⟨ls.length - 1, by omega⟩
    have hnn : (ls.length : Int) - 1 = (n : Int) := by omega
    rw [check_Best_l1.eq_2, ref14_Best_l1.eq_2]
    by_cases ht : P ≤ top
    · obtain ⟨r, h1, h2, h3⟩ := numbers_eq hls (P := P) (by omega) hb hn hN hq
      obtain ⟨b, ds, e1, e2, e3⟩ := groups hls htop hb hN m (P + 1) r.1 r.2.2 r.2.1 (by omega) h3 (by omega)
      refine ⟨b, ds, ?_, ?_, e3⟩
      · simp only [ht, decide_true, if_true, hnn]
        unfold chk
        rw [if_pos (show inR (n : Int) by unfold inR; omega), h1]
        simp only [Option.bind_some]
        rw [if_pos (show inR (P + 1) by unfold inR; omega)]
        exact e1
      · simp only [ht, decide_true, if_true, hnn, Int.toNat_natCast]
        unfold chk
        rw [if_pos (show inR (n : Int) by unfold inR; omega), if_pos ⟨by omega, by omega, by omega⟩, ones_eq (by omega) hn (by omega)]
        simp only [Option.bind_some, h2]
        rw [if_pos (show inR (P + 1) by unfold inR; omega)]
        exact e2
    · exact ⟨best, divs, by simp [ht], by simp [ht], hq.2⟩

theorem Best_eq {N : Nat} {ls : List Level} {top base : Int} (hN : 36893488147419103232 < N) : ∃ R, check_Best N ls top base = some R ∧ ref14_Best N ls top base = some R ∧ R.2.1.length ≤ 2 := by
  unfold check_Best ref14_Best
  rw [levelled_eq N ls (by omega), levels_eq N ls (by omega)]
  simp only [Option.bind_some]
  cases hg : goodL ls
  · exact ⟨_, rfl, rfl, by simp⟩
  · simp only [if_true, decide_true, Bool.not_true, Bool.false_eq_true, if_false]
    by_cases h1 : top < 1
    · simp only [h1, decide_true, if_true, Option.bind_some]; exact ⟨_, rfl, rfl, by simp⟩
    · by_cases h2 : 4096 < top
      · simp only [h1, h2, decide_true, decide_false, Bool.false_eq_true, if_true, if_false, Option.bind_some]; exact ⟨_, rfl, rfl, by simp⟩
      · by_cases h3 : base < 1
        · simp only [h1, h2, h3, decide_true, decide_false, Bool.false_eq_true, if_true, if_false, Option.bind_some]; exact ⟨_, rfl, rfl, by simp⟩
        · by_cases h4 : 8 < base
          · simp only [h1, h2, h3, h4, decide_true, decide_false, Bool.false_eq_true, if_true, if_false, Option.bind_some]; exact ⟨_, rfl, rfl, by simp⟩
          · simp only [h1, h2, h3, h4, decide_false, Bool.false_eq_true, if_false, Option.bind_some]
            obtain ⟨b, ds, e1, e2, e3⟩ := groups hg (top := top) (by omega) (show 1 ≤ base ∧ base ≤ 8 by omega) hN N 1 0 [] ⟨0, 0⟩ (by omega) ⟨.inl rfl, by simp⟩ (by omega)
            rw [e1, e2]
            exact ⟨_, rfl, rfl, e3⟩

/-- The law: whatever the input, true. -/
theorem law (a0 : List Level) (a1 : Int) (a2 : List Int) (a3 a4 : Int) : ∃ N, law14_CheckLosses N a0 a1 a2 a3 a4 = some true := by
  refine ⟨36893488147419103233, ?_⟩
  generalize hN' : (36893488147419103233 : Nat) = N
  have hN : 36893488147419103232 < N := by omega
  clear hN'
  unfold law14_CheckLosses
  have hw : ∀ N, law14_works N = some true := fun _ => rfl
  by_cases h1 : 10 < (a0.length : Int)
  · simp [h1, hw]
  · have hpre : ∃ b, (if decide (10 < (a2.length : Int)) = true then some true else if decide (60 < a3) = true then if decide (a3 ≤ 4096) = true then some true else if decide (4 < a4) = true then some (decide (a4 ≤ 8)) else some false else if decide (4 < a4) = true then some (decide (a4 ≤ 8)) else some false) = some b := by
      repeat' split
      all_goals exact ⟨_, rfl⟩
    obtain ⟨b, hb⟩ := hpre
    simp only [h1, decide_false, Bool.false_eq_true, if_false, hb, Option.bind_some]
    cases b
    · obtain ⟨R, r1, r2⟩ := Lose_eq (N := N) (ls := a0) (P := a1) (ds := a2) (by omega) (by omega)
      obtain ⟨S, s1, s2, s3⟩ := Best_eq (N := N) (ls := a0) (top := a3) (base := a4) hN
      simp only [Bool.false_eq_true, if_false, copy_eq N a0 (by omega) (by omega), Option.bind_some, r1, r2, s1, s2, decide_true, Bool.not_true, if_true, ints_eq N S.2.1 (by omega) (by omega), hw]
    · simp [hw]
end Go.Arm
