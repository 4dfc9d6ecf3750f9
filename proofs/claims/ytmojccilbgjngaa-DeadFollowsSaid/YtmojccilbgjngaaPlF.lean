/- Plain laws. -/
import Derived.Test.YtmojccilbgjngaaPl8
namespace Go.Arm
open Go

section
variable {N : Nat} {c : List (List Deed)}
theorem follow_l1 (hN : 1300 ≤ N) {room : Int} (a0 : List Int) (s : List Int) (hs : s.length ≤ 1000) : ∀ (m k : Nat) (av : List Int), s.length - k < m → k ≤ s.length → RunOk ⟨c, room, av⟩ →
    (∃ e : Int, dead_Follow_l1 N c s ⟨c, room, a0⟩ m (k : Int) av = some (.inr ([], false, e)) ∧ folS c room (s.drop k) (fN av) = .error e ∧ e ≠ 0) ∨ ∃ av', dead_Follow_l1 N c s ⟨c, room, a0⟩ m (k : Int) av = some (.inl av') ∧ folS c room (s.drop k) (fN av) = .ok (fN av') ∧ RunOk ⟨c, room, av'⟩ := by
  intro m
  induction m with
  | zero => intro k av h; omega
  | succ m ih =>
    intro k av h hk hr
    rw [dead_Follow_l1]
    by_cases hkl : k < s.length
    · have hR : inR ((k : Int) + 1) := inR_small (by omega) (by omega)
      have e : (k : Int) + 1 = ((k + 1 : Nat) : Int) := rfl
      rw [if_pos (by simpa using hkl), idx_nat, List.getElem?_eq_getElem hkl, Option.bind_some, List.drop_eq_getElem_cons hkl, folS]
      generalize s[k] = x
      by_cases hx : x < 0 ∨ (c.length : Int) ≤ x
      · left
        refine ⟨11, ?_, by rw [if_pos hx], by decide⟩
        have e1 : (if decide (x < 0) = true then some true else some (decide ((c.length : Int) ≤ x))) = some true := by
          rcases hx with hx | hx
          · simp [hx]
          · by_cases h1 : x < 0 <;> simp [h1, hx]
        rw [e1]; rfl
      · obtain ⟨p, rfl⟩ : ∃ p : Nat, x = (p : Int) := ⟨x.toNat, by omega⟩
        have hp : p < c.length := by omega
        have e1 : (if decide ((p : Int) < 0) = true then some true else some (decide ((c.length : Int) ≤ (p : Int)))) = some false := by
          have h1 : ¬ (p : Int) < 0 := by omega
          have h2 : ¬ (c.length : Int) ≤ (p : Int) := by omega
          simp only [h1, h2, decide_false, Bool.false_eq_true, ↓reduceIte]
        have hcan : dead_run_can N (Run.with_at_ ⟨c, room, a0⟩ av) (p : Int) = some (canS c room (fN av) p) := can_eq hN hr hp
        have hat : av[p]? = some (fN av p : Int) := hr.at hp
        have hle : fN av p ≤ (rowS c p).length := hr.lt hp
        have h200 : c[p].length ≤ 200 := hr.chk.rows _ (List.getElem_mem hp)
        rw [rowS_eq (List.getElem?_eq_getElem hp)] at hle
        rw [if_neg hx, Int.toNat_natCast, e1, Option.bind_some]
        dsimp only
        rw [if_neg (by simp), hcan, Option.bind_some]
        cases hc : canS c room (fN av) p
        · left
          rw [if_pos (by simp), if_neg (by simp)]
          exact ⟨6, rfl, rfl, by decide⟩
        · rw [if_neg (by simp), if_pos rfl, Option.bind_some]
          dsimp only
          have hR2 : inR ((fN av p : Int) + 1) := inR_small (by omega) (by omega)
          have hset := fN_set (av := av) (p := p) (List.getElem?_eq_some_iff.1 hat).1 _ hat
          rw [idx_nat, hat, Option.bind_some, chk_t hR2, Option.bind_some, chk_t hR, e]
          have := ih (k + 1) (av.set p ((fN av p : Int) + 1)) (by omega) (by omega) (hr.go hp hc)
          rw [hset] at this
          exact this
    · rw [if_neg (by simpa using hkl), List.drop_eq_nil_of_le (by omega)]
      exact Or.inr ⟨av, rfl, rfl, hr⟩
open Classical in
theorem follow_eq (hN : 1300 ≤ N) (h : CaseOk c) {room : Int} (h0 : 0 ≤ room) (s : List Int) (hs : s.length ≤ 1000) :
    (∃ e : Int, dead_Follow N c room s = some ([], false, e) ∧ folS c room s zeroF = .error e ∧ e ≠ 0) ∨ ∃ av, dead_Follow N c room s = some (av, decide (TermS c room (fN av)), 0) ∧ folS c room s zeroF = .ok (fN av) ∧ RunOk ⟨c, room, av⟩ := by
  obtain ⟨h1, h2⟩ := newRun_eq hN h h0
  have h3 := follow_l1 hN (List.replicate c.length 0) s hs N 0 (List.replicate c.length 0) (by omega) (by omega) h2
  rw [show ((0 : Nat) : Int) = 0 from rfl, List.drop_zero, fN_zero] at h3
  unfold dead_Follow
  rw [h1, Option.bind_some, if_neg (by simp), Option.bind_some]
  dsimp only
  rcases h3 with ⟨e, h4, h5, h6⟩ | ⟨av, h4, h5, h6⟩
  · left
    rw [h4]; exact ⟨e, rfl, h5, h6⟩
  · right
    rw [h4, Option.bind_some]
    dsimp only
    have hn := next_eq hN (r := ⟨c, room, av⟩) h6
    have ew : Run.with_at_ (⟨c, room, List.replicate c.length 0⟩ : Run) av = ⟨c, room, av⟩ := rfl
    rw [ew]
    refine ⟨av, ?_, h5, h6⟩
    rcases hn with ⟨e, ht⟩ | ⟨k, hk, e, hc, _⟩
    · rw [e, Option.bind_some]
      have : TermS c room (fN av) := ht
      simp [this]
    · rw [e, Option.bind_some]
      have : ¬ TermS c room (fN av) := fun ht => by
        have h7 := ht k hk
        have h8 : canS c room (fN av) k = true := hc
        rw [h7] at h8; cases h8
      have h9 : ¬ (k : Int) < 0 := by omega
      simp [this, h9]
theorem run_ext {room : Int} {a b : List Int} (ha : RunOk ⟨c, room, a⟩) (hb : RunOk ⟨c, room, b⟩) (h : fN a = fN b) : a = b := by
  have la : a.length = c.length := ha.len
  have lb : b.length = c.length := hb.len
  apply List.ext_getElem (by omega)
  intro i h1 h2
  have h3 : a[i]? = some (fN a i : Int) := ha.at (show i < c.length by omega)
  have h4 : b[i]? = some (fN b i : Int) := hb.at (show i < c.length by omega)
  rw [List.getElem?_eq_getElem h1] at h3
  rw [List.getElem?_eq_getElem h2] at h4
  rw [h] at h3
  rw [Option.some.inj h3, Option.some.inj h4]
end

end Go.Arm
