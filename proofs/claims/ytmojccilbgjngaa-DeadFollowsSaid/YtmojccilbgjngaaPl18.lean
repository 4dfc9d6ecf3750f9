/- Plain laws. -/
import Derived.Test.YtmojccilbgjngaaPl17
import Derived.Test.YtmojccilbgjngaaPlF
import Derived.Test.YtmojccilbgjngaaPlW
namespace Go.Arm
open Go

section
variable {N : Nat} {c : List (List Deed)}
theorem rfollow_l1 (hN : 1300 ≤ N) {room : Int} (a0 : List Int) (s : List Int) (hs : s.length ≤ 1000) : ∀ (m k : Nat) (av : List Int), s.length - k < m → k ≤ s.length → RunOk ⟨c, room, av⟩ →
    (∃ e : Int, ref08_Follow_l1 N c s ⟨c, room, a0⟩ m (k : Int) av = some (.inr ([], false, e)) ∧ folS c room (s.drop k) (fN av) = .error e ∧ e ≠ 0) ∨ ∃ av', ref08_Follow_l1 N c s ⟨c, room, a0⟩ m (k : Int) av = some (.inl av') ∧ folS c room (s.drop k) (fN av) = .ok (fN av') ∧ RunOk ⟨c, room, av'⟩ := by
  intro m
  induction m with
  | zero => intro k av h; omega
  | succ m ih =>
    intro k av h hk hr
    rw [ref08_Follow_l1]
    by_cases hkl : k < s.length
    · have hR : inR ((k : Int) + 1) := inR_small (by omega) (by omega)
      have e : (k : Int) + 1 = ((k + 1 : Nat) : Int) := rfl
      rw [if_pos (by simpa using hkl), idx_nat, List.getElem?_eq_getElem hkl, Option.bind_some, List.drop_eq_getElem_cons hkl, folS]
      generalize s[k] = x
      by_cases hx : x < 0 ∨ (c.length : Int) ≤ x
      · left
        refine ⟨11, ?_, by rw [if_pos hx], by decide⟩
        have e1 : (if decide (x < 0) = true then some true else some (decide ((c.length : Int) ≤ x))) = some true := by
          rcases hx with hx | hx
          · simp [hx]
          · by_cases h1 : x < 0 <;> simp [h1, hx]
        rw [e1]; rfl
      · obtain ⟨p, rfl⟩ : ∃ p : Nat, x = (p : Int) := ⟨x.toNat, by omega⟩
        have hp : p < c.length := by omega
        have e1 : (if decide ((p : Int) < 0) = true then some true else some (decide ((c.length : Int) ≤ (p : Int)))) = some false := by
          have h1 : ¬ (p : Int) < 0 := by omega
          have h2 : ¬ (c.length : Int) ≤ (p : Int) := by omega
          simp only [h1, h2, decide_false, Bool.false_eq_true, ↓reduceIte]
        have hcan : ref08_Case_can N (Case.with_At ⟨c, room, a0⟩ av) (p : Int) = some (canS c room (fN av) p) := rcan_eq hN hr hp
        have hat : av[p]? = some (fN av p : Int) := hr.at hp
        have hle : fN av p ≤ (rowS c p).length := hr.lt hp
        have h200 : c[p].length ≤ 200 := hr.chk.rows _ (List.getElem_mem hp)
        rw [rowS_eq (List.getElem?_eq_getElem hp)] at hle
        rw [if_neg hx, Int.toNat_natCast, e1, Option.bind_some]
        dsimp only
        rw [if_neg (by simp), hcan, Option.bind_some]
        cases hc : canS c room (fN av) p
        · left
          rw [if_pos (by simp), if_neg (by simp)]
          exact ⟨6, rfl, rfl, by decide⟩
        · rw [if_neg (by simp), if_pos rfl]
          have hR2 : inR ((fN av p : Int) + 1) := inR_small (by omega) (by omega)
          have hset := fN_set (av := av) (p := p) (List.getElem?_eq_some_iff.1 hat).1 _ hat
          rw [idx_nat, hat, Option.bind_some, chk_t hR2, Option.bind_some, chk_t hR, e]
          have := ih (k + 1) (av.set p ((fN av p : Int) + 1)) (by omega) (by omega) (hr.go hp hc)
          rw [hset] at this
          exact this
    · rw [if_neg (by simpa using hkl), List.drop_eq_nil_of_le (by omega)]
      exact Or.inr ⟨av, rfl, rfl, hr⟩
theorem run0 (hc : CheckOk c) (hs : ∀ l ∈ c, ∀ d ∈ l, openS d = false) (room : Int) : RunOk ⟨c, room, List.replicate c.length 0⟩ := by
  refine ⟨hc, hs, by show (List.replicate c.length (0 : Int)).length = c.length; simp, fun k l hk => ⟨0, ?_, by omega⟩⟩
  show (List.replicate c.length (0 : Int))[k]? = some 0
  have hkk : c[k]? = some l := hk
  have := (List.getElem?_eq_some_iff.1 hkk).1
  rw [List.getElem?_replicate, if_pos (by simpa using this)]
open Classical in
theorem rfollow_eq (hN : 1300 ≤ N) {room : Int} (hb : BegS c room 0) (s : List Int) (hs : s.length ≤ 1000) :
    (∃ e : Int, ref08_Follow N c room s = some ([], false, e) ∧ folS c room s zeroF = .error e ∧ e ≠ 0) ∨ ∃ av, ref08_Follow N c room s = some (av, decide (TermS c room (fN av)), 0) ∧ folS c room s zeroF = .ok (fN av) ∧ RunOk ⟨c, room, av⟩ := by
  obtain ⟨hc, hsh, h0⟩ := hb.ok0
  obtain ⟨e, he, h1⟩ := started_exact N c room hN
  have : e = 0 := he.same hb
  subst this
  have h2 := run0 hc hsh room
  have h3 := rfollow_l1 hN (List.replicate c.length 0) s hs N 0 (List.replicate c.length 0) (by omega) (by omega) h2
  rw [show ((0 : Nat) : Int) = 0 from rfl, List.drop_zero, fN_zero] at h3
  unfold ref08_Follow
  rw [h1, Option.bind_some, if_neg (by simp), if_pos rfl, Option.bind_some]
  dsimp only
  rcases h3 with ⟨e, h4, h5, h6⟩ | ⟨av, h4, h5, h6⟩
  · left
    rw [h4]; exact ⟨e, rfl, h5, h6⟩
  · right
    rw [h4, Option.bind_some]
    dsimp only
    have hn := least_eq hN h6
    have ew : Case.with_At (⟨c, room, List.replicate c.length 0⟩ : Case) av = ⟨c, room, av⟩ := rfl
    rw [ew]
    refine ⟨av, ?_, h5, h6⟩
    rcases hn with ⟨e, ht⟩ | ⟨k, hk, e, hc⟩
    · rw [e, Option.bind_some]
      simp [ht]
    · rw [e, Option.bind_some]
      have : ¬ TermS c room (fN av) := fun ht => by
        have h7 := ht k hk
        rw [h7] at hc; cases hc
      have h9 : ¬ (k : Int) < 0 := by omega
      simp [this, h9]
theorem sameints_self {N : Nat} (hN : 1300 ≤ N) (l : List Int) (hl : l.length ≤ 1000) : ref01_SameInts N l l = some true := by
  unfold ref01_SameInts
  rw [if_neg (by simp)]
  have h := loop_ret0 (F := ref01_SameInts_l1 N l l) (len := l.length) (m := N) (fun _ => (none : Option Bool)) (by omega)
    (fun m k hk => by rw [ref01_SameInts_l1, if_neg (by simpa using hk)])
    (fun m k hk => by
      have hR : inR ((k : Int) + 1) := inR_small (by omega) (by omega)
      rw [ref01_SameInts_l1, if_pos (by simpa using hk), idx_nat, List.getElem?_eq_getElem hk, Option.bind_some, Option.bind_some, if_neg (by simp), chk_t hR]; rfl)
  rcases h with ⟨e, _⟩ | ⟨k, x, hk, hg, e, _⟩
  · rw [e]; rfl
  · cases hg
end
theorem follows_same (c : List (List Deed)) (room : Int) (s : List Int) (hF : FewOk c) (hs : s.length ≤ 100) : ∃ l b e, dead_Follow 1300 c room s = some (l, b, e) ∧ ref08_Follow 1300 c room s = some (l, b, e) ∧ l.length ≤ 1000 := by
  have hN : 1300 ≤ 1300 := Nat.le_refl _
  obtain ⟨e, he, h1⟩ := newRun_exact 1300 c room hN
  obtain ⟨e', he', h2⟩ := started_exact 1300 c room hN
  have := he.same he'
  subst this
  by_cases h0 : e = 0
  · subst h0
    obtain ⟨hc, hsh, hr⟩ := he.ok0
    have hgap := hF.gap
    have hmost := hc.most
    have hcase : CaseOk c := ⟨hc, hsh, by omega⟩
    rcases follow_eq hN hcase hr s (by omega) with ⟨e1, h3, h4, h5⟩ | ⟨av, h3, h4, h5⟩
    · rcases rfollow_eq hN he s (by omega) with ⟨e2, h6, h7, h8⟩ | ⟨av', h6, h7, h8⟩
      · rw [h4] at h7
        injection h7 with h7
        subst h7
        exact ⟨[], false, e1, h3, h6, by simp⟩
      · rw [h4] at h7; cases h7
    · rcases rfollow_eq hN he s (by omega) with ⟨e2, h6, h7, h8⟩ | ⟨av', h6, h7, h8⟩
      · rw [h4] at h7; cases h7
      · rw [h4] at h7
        injection h7 with h7
        have := run_ext h5 h8 h7
        subst this
        have hl : av.length = c.length := h5.len
        exact ⟨av, _, 0, h3, h6, by omega⟩
  · refine ⟨[], false, e, ?_, ?_, by simp⟩
    · unfold dead_Follow
      rw [h1, Option.bind_some, if_pos (by simpa using h0)]
    · unfold ref08_Follow
      rw [h2, Option.bind_some, if_pos (by simpa using h0)]
theorem law_follows (c : List (List Deed)) (room : Int) (s : List Int) : law08_DeadFollows 1300 c room s = some true := by
  have hN : 1300 ≤ 1300 := Nat.le_refl _
  unfold law08_DeadFollows
  obtain ⟨b, hb, hF⟩ := few_eq hN c
  rw [hb, Option.bind_some, works_true]
  cases b
  · rfl
  rw [if_neg (by simp), Option.bind_some]
  dsimp only
  by_cases h100 : 100 < s.length
  · rw [if_pos (by simp; omega)]; rfl
  rw [if_neg (by simp; omega)]
  have hF := hF rfl
  have hl80 := hF.len
  obtain ⟨l, b, e, h1, h2, h3⟩ := follows_same c room s hF (by omega)
  rw [deeds_eq hN (by omega) (fun l hl => by have := hF.rows l hl; omega), Option.bind_some, h1, Option.bind_some, h2, Option.bind_some, sameints_self hN l h3, Option.bind_some, if_pos rfl, if_pos (by simp), if_pos (by simp)]
  rfl
end Go.Arm
