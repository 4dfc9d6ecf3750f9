/- Plain laws. -/
import Derived.Test.YtmojccilbgjngaaPl8
import Derived.Test.YtmojccilbgjngaaPlW
namespace Go.Arm
open Go

structure LightOk (c : List (List Deed)) : Prop extends CaseOk c where
  few : ∀ l ∈ c, l.length ≤ 20
theorem light_l2 {N : Nat} (hN : 1300 ≤ N) (l : List Deed) (hl : l.length ≤ 20) : (law08_light_l2 N l N 0 = some (.inl ()) ∧ ∀ d ∈ l, ¬ d.Peer = -1) ∨ law08_light_l2 N l N 0 = some (.inr false) := by
  have h := loop_ret0 (F := law08_light_l2 N l) (len := l.length) (m := N) (fun k => if (l[k]?.map (·.Peer)) = some (-1) then some false else none) (by omega)
    (fun m k hk => by rw [law08_light_l2, if_neg (by simpa using hk)])
    (fun m k hk => by
      have hR : inR ((k : Int) + 1) := inR_small (by omega) (by omega)
      rw [law08_light_l2, if_pos (by simpa using hk), idx_nat, List.getElem?_eq_getElem hk, Option.bind_some]
      by_cases hp : l[k].Peer = -1
      · rw [if_pos (by simpa using hp), if_pos (by simp [hp])]
      · rw [if_neg (by simpa using hp), if_neg (by simp [hp]), chk_t hR]; rfl)
  rcases h with ⟨e, hall⟩ | ⟨k, x, hk, hg, e, _⟩
  · refine Or.inl ⟨e, fun d hd hp => ?_⟩
    obtain ⟨k, hk⟩ := List.getElem?_of_mem hd
    have := hall k (List.getElem?_eq_some_iff.1 hk).1
    rw [hk] at this
    simp [hp] at this
  · right
    rw [e]
    split at hg
    · cases hg; rfl
    · cases hg
theorem light_eq {N : Nat} (hN : 1300 ≤ N) (c : List (List Deed)) : ∃ b, law08_light N c = some b ∧ (b = true → LightOk c) := by
  unfold law08_light
  by_cases h6 : 6 < c.length
  · have h6' : 6 < (c.length : Int) := by omega
    rw [if_pos (by simpa using h6'), Option.bind_some]
    exact ⟨false, rfl, fun h => by cases h⟩
  have h6' : ¬ 6 < (c.length : Int) := by omega
  obtain ⟨e, he, heq⟩ := check_eq N c hN
  rw [if_neg (by simpa using h6'), he, Option.bind_some, Option.bind_some]
  dsimp only
  by_cases h0 : e = 0
  · have hc := heq.1 h0
    rw [if_neg (by simp [h0])]
    have hl := loop_ret0 (F := law08_light_l1 N c) (len := c.length) (m := N) (fun k => if 20 < (rowS c k).length then some false else if law08_light_l2 N (rowS c k) N 0 = some (.inl ()) then none else some false) (by omega)
      (fun m k hk => by rw [law08_light_l1, if_neg (by simpa using hk)])
      (fun m k hk => by
        have hR : inR ((k : Int) + 1) := inR_small (by omega) (by omega)
        rw [rowS_eq (List.getElem?_eq_getElem hk), law08_light_l1, if_pos (by simpa using hk), idx_nat, List.getElem?_eq_getElem hk, Option.bind_some]
        by_cases h20 : 20 < c[k].length
        · rw [if_pos (by simp; omega), if_pos h20]
        · rw [if_neg (by simp; omega), if_neg h20]
          rcases light_l2 hN c[k] (by omega) with ⟨e, _⟩ | e
          · rw [e, Option.bind_some, if_pos rfl]
            dsimp only
            rw [chk_t hR]; rfl
          · rw [e, Option.bind_some, if_neg (by simp)])
    rcases hl with ⟨e, hall⟩ | ⟨k, x, hk, hg, e, _⟩
    · rw [e]
      refine ⟨true, rfl, fun _ => ?_⟩
      have key : ∀ l ∈ c, l.length ≤ 20 ∧ ∀ d ∈ l, ¬ d.Peer = -1 := by
        intro l hl
        obtain ⟨k, hk⟩ := List.getElem?_of_mem hl
        have := hall k (List.getElem?_eq_some_iff.1 hk).1
        rw [rowS_eq hk] at this
        by_cases h20 : 20 < l.length
        · rw [if_pos h20] at this; cases this
        · rw [if_neg h20] at this
          refine ⟨by omega, ?_⟩
          rcases light_l2 hN l (by omega) with ⟨_, h⟩ | e
          · exact h
          · rw [e] at this; simp at this
      refine ⟨⟨hc, fun l hl d hd => ?_, by omega⟩, fun l hl => (key l hl).1⟩
      unfold openS
      simp [(key l hl).2 d hd]
    · rw [e]
      refine ⟨false, ?_, fun h => by cases h⟩
      split at hg
      · cases hg; rfl
      · split at hg
        · cases hg
        · cases hg; rfl
  · rw [if_pos (by simp [h0])]
    exact ⟨false, rfl, fun h => by cases h⟩

section
variable {N : Nat} {c : List (List Deed)}
theorem ends_l1 (hlen6 : c.length ≤ 6) {room : Int} {av : List Int} (hr : RunOk ⟨c, room, av⟩) : ∀ (m k : Nat) (b : Bool), c.length - k < m → k ≤ c.length →
    law08_ends_l1 N c (av, 0) m b (k : Int) = some (.inl (b && (List.range' k (c.length - k)).all (fun p => decide (fN av p = (rowS c p).length)))) := by
  have hlen : av.length = c.length := hr.len
  intro m
  induction m with
  | zero => intro k b h; omega
  | succ m ih =>
    intro k b h hk
    rw [law08_ends_l1]
    by_cases hkl : k < c.length
    · have hR : inR ((k : Int) + 1) := inR_small (by omega) (by omega)
      have e : (k : Int) + 1 = ((k + 1 : Nat) : Int) := rfl
      have hat : av[k]? = some (fN av k : Int) := hr.at hkl
      have hle : fN av k ≤ (rowS c k).length := hr.lt hkl
      have hrow := rowS_eq (List.getElem?_eq_getElem hkl)
      rw [hrow] at hle
      dsimp only
      rw [if_pos (by simp; omega), idx_nat, hat, Option.bind_some, if_neg (by simp), idx_nat, List.getElem?_eq_getElem hkl, Option.bind_some, Option.bind_some, if_neg (by simp; omega)]
      rw [show c.length - k = (c.length - (k + 1)) + 1 by omega, List.range'_succ, List.all_cons, hrow]
      cases b
      · rw [if_neg (by simp), chk_t hR, e, ih (k + 1) false (by omega) (by omega)]
        simp
      · rw [if_pos rfl, Option.bind_some, chk_t hR, e, ih (k + 1) _ (by omega) (by omega)]
        have e3 : decide ((fN av k : Int) = (c[k].length : Int)) = decide (fN av k = c[k].length) := by
          rw [decide_eq_decide]; omega
        rw [e3, Bool.true_and]
    · rw [if_neg (by simp; omega), show c.length - k = 0 by omega]; simp
theorem ends_eq (hN : 1300 ≤ N) (h : CaseOk c) {room : Int} {out av : List Int} (he : dead_End N c room = some (av, 0)) (hE : EndOk c room out av) : law08_ends N c room = some (av, allS c (fN av), true) := by
  have hlen : av.length = c.length := hE.run.len
  have h6 := h.six
  unfold law08_ends
  rw [he, Option.bind_some, if_neg (by simp), Option.bind_some]
  dsimp only
  have hl := ends_l1 (N := N) h6 hE.run N 0 true (by omega) (by omega)
  rw [show ((0 : Nat) : Int) = 0 from rfl] at hl
  rw [if_neg (by simp; omega), hl]
  unfold allS
  rw [List.range_eq_range']
  simp
theorem comes_tot (hN : 1300 ≤ N) (h : CaseOk c) {room room' : Int} (h0 : 0 ≤ room) (hr : room ≤ room') (hc : dead_comes N c room = some true) : dead_comes N c room' = some true := by
  obtain ⟨o, a, _, e1, _, h1⟩ := End_eq hN h h0
  obtain ⟨o', a', _, e2, _, h2⟩ := End_eq hN h (room := room') (by omega)
  rw [comes_eq hN h e1 h1] at hc
  rw [comes_eq hN h e2 h2, allS_mono hr h1 h2 (Option.some.inj hc)]
theorem decide_l1_eq (hN : 1300 ≤ N) (h : CaseOk c) (y : Bool × Int) : ∀ (m : Nat) (lo hi : Int), 0 ≤ lo → lo < hi → hi ≤ 200 → (hi - lo).toNat < m → dead_comes N c lo = some false → dead_comes N c hi = some true →
    ∃ x, dead_Decide_l1 N (c, y) m lo hi = some x ∧ 0 < x ∧ x ≤ 200 ∧ dead_comes N c x = some true ∧ dead_comes N c (x - 1) = some false := by
  intro m
  induction m with
  | zero => intro lo hi _ _ _ h; omega
  | succ m ih =>
    intro lo hi h0 h1 h2 hm hlo hhi
    have hR1 : inR (hi - lo) := inR_small (by omega) (by omega)
    rw [dead_Decide_l1, chk_t hR1]
    by_cases hlt : 1 < hi - lo
    · have hR2 : inR (lo + hi) := inR_small (by omega) (by omega)
      have e : Int.tdiv (lo + hi) 2 = (lo + hi) / 2 := Int.tdiv_eq_ediv_of_nonneg (by omega)
      rw [if_pos (by simpa using hlt), chk_t hR2, e]
      have hR3 : (2 ≠ (0 : Int)) ∧ inR ((lo + hi) / 2) := ⟨by decide, inR_small (by omega) (by omega)⟩
      rw [chk_t hR3]
      obtain ⟨b, hb⟩ := comes_ok hN h (room := (lo + hi) / 2) (by omega)
      dsimp only
      rw [hb, Option.bind_some]
      cases b
      · rw [if_neg (by simp)]; exact ih _ _ (by omega) (by omega) (by omega) (by omega) hb hhi
      · rw [if_pos rfl]; exact ih _ _ (by omega) (by omega) (by omega) (by omega) hlo hb
    · rw [if_neg (by simpa using hlt)]
      exact ⟨hi, rfl, by omega, h2, hhi, by rw [show hi - 1 = lo by omega]; exact hlo⟩
/-- What a verdict says. -/
def Says (N : Nat) (c : List (List Deed)) (v : Verdict) : Prop :=
  (v = ⟨1, 0⟩ ∧ dead_comes N c 0 = some true) ∨ (v = ⟨3, 0⟩ ∧ dead_comes N c 0 = some false ∧ dead_comes N c 200 = some false) ∨
  ∃ x, v = ⟨2, x⟩ ∧ 0 < x ∧ x ≤ 200 ∧ dead_comes N c x = some true ∧ dead_comes N c (x - 1) = some false ∧ dead_comes N c 0 = some false
theorem Decide_eq {c0 : List (List Deed)} (hN : 1300 ≤ N) (hn : dead_Narrow N c0 = some (c, true, 0)) (h : CaseOk c) : ∃ v, dead_Decide N c0 = some (v, 0) ∧ Says N c v := by
  unfold dead_Decide
  obtain ⟨b0, e0⟩ := comes_ok hN h (room := 0) (by omega)
  obtain ⟨b1, e1⟩ := comes_ok hN h (room := 200) (by omega)
  rw [hn, Option.bind_some, if_neg (by simp), if_neg (by simp), e0, Option.bind_some]
  cases b0
  · rw [if_neg (by simp), e1, Option.bind_some]
    cases b1
    · rw [if_pos (by simp)]; exact ⟨⟨3, 0⟩, rfl, Or.inr (Or.inl ⟨rfl, e0, e1⟩)⟩
    · rw [if_neg (by simp), Option.bind_some]
      obtain ⟨x, e2, h1, h2, h3, h4⟩ := decide_l1_eq hN h (true, 0) N 0 200 (by omega) (by omega) (by omega) (by omega) e0 e1
      dsimp only
      rw [e2]; exact ⟨⟨2, x⟩, rfl, Or.inr (Or.inr ⟨x, rfl, h1, h2, h3, h4, e0⟩)⟩
  · rw [if_pos rfl]; exact ⟨⟨1, 0⟩, rfl, Or.inl ⟨rfl, e0⟩⟩
end
end Go.Arm
