/- Plain laws. -/
import Derived.Test.YtmojccilbgjngaaPl9
namespace Go.Arm
open Go

theorem Narrow_light {c : List (List Deed)} (h : CaseOk c) : dead_Narrow 1300 c = some (c, true, 0) := Narrow_self (Nat.le_refl _) h
theorem room_l2 {c : List (List Deed)} (h6 : c.length ≤ 6) (x : List Int) (av : List Int) (b b' : Bool) (hlen : av.length = c.length) (hx : x.length ≤ c.length) (hle : ∀ (k : Nat) (a a' : Int), x[k]? = some a → av[k]? = some a' → a ≤ a') : law08_DeadRoom_l2 1300 x (av, b, b') 1300 0 = some (.inl ()) := by
  have hl := loop_ret0 (F := law08_DeadRoom_l2 1300 x (av, b, b')) (len := x.length) (m := 1300) (fun _ => (none : Option Bool)) (by omega)
    (fun m k hk => by rw [law08_DeadRoom_l2, if_neg (by simpa using hk)])
    (fun m k hk => by
      have hR : inR ((k : Int) + 1) := inR_small (by omega) (by omega)
      have hka : k < av.length := by omega
      have := hle k _ _ (List.getElem?_eq_getElem hk) (List.getElem?_eq_getElem hka)
      rw [law08_DeadRoom_l2, if_pos (by simpa using hk)]
      dsimp only
      rw [idx_nat, List.getElem?_eq_getElem hka, Option.bind_some, idx_nat, List.getElem?_eq_getElem hk, Option.bind_some, if_neg (by simp; omega), chk_t hR]; rfl)
  rcases hl with ⟨e, _⟩ | ⟨k, r, hk, hg, e, _⟩
  · exact e
  · cases hg
theorem says_want {c : List (List Deed)} (h : CaseOk c) {v : Verdict} (hv : Says 1300 c v) {room : Int} (h0 : 0 ≤ room) (h200 : room ≤ 200) {b : Bool} (hb : dead_comes 1300 c room = some b) :
    (if decide (v.Kind = 1) = true then some true else if decide (v.Kind = 2) = true then some (decide (v.Room ≤ room)) else some false) = some b := by
  have hN : 1300 ≤ 1300 := Nat.le_refl _
  rcases hv with ⟨rfl, h1⟩ | ⟨rfl, h1, h2⟩ | ⟨x, rfl, h1, h2, h3, h4, h5⟩
  · have := comes_tot hN h (Int.le_refl 0) h0 h1
    rw [hb] at this
    cases this
    rfl
  · cases b
    · rfl
    · have := comes_tot hN h h0 h200 hb
      rw [h2] at this
      cases this
  · rw [if_neg (by simp), if_pos (by simp)]
    dsimp only
    by_cases hx : x ≤ room
    · have := comes_tot hN h (by omega) hx h3
      rw [hb] at this
      cases this
      simp [hx]
    · cases b
      · simp [hx]
      · have := comes_tot hN h h0 (show room ≤ x - 1 by omega) hb
        rw [h4] at this
        cases this
theorem room_l1 {c : List (List Deed)} (h : CaseOk c) {v : Verdict} (e0 : Int) (hv : Says 1300 c v) : ∀ (m k : Nat) (x : List Int), 23 - k < m → k ≤ 23 → (x = [] ∨ ∃ (room : Int) (o : List Int), 0 ≤ room ∧ room ≤ k ∧ EndOk c room o x) → law08_DeadRoom_l1 1300 c (v, e0) m x (k : Int) = some (.inl ()) := by
  have hN : 1300 ≤ 1300 := Nat.le_refl _
  intro m
  induction m with
  | zero => intro k x hk; omega
  | succ m ih =>
    intro k x hk hk2 hx
    rw [law08_DeadRoom_l1]
    by_cases hk3 : k < 23
    · have hR : inR ((k : Int) + 1) := inR_small (by omega) (by omega)
      have e : (k : Int) + 1 = ((k + 1 : Nat) : Int) := rfl
      obtain ⟨o, av, _, he, _, hE⟩ := End_eq hN h (room := (k : Int)) (by omega)
      have hcm := comes_eq hN h he hE
      have hw := says_want h hv (by omega) (by omega) hcm
      have hlen : av.length = c.length := hE.run.len
      rw [if_pos (by simp; omega), ends_eq hN h he hE, Option.bind_some]
      dsimp only
      rw [if_neg (by simp), room_l2 h.six x av _ _ hlen (by
        rcases hx with rfl | ⟨room, o', h0, hr, hE'⟩
        · simp
        · have : x.length = c.length := hE'.run.len
          omega) (by
        intro j a a' ha ha'
        rcases hx with rfl | ⟨room, o', h0, hr, hE'⟩
        · simp at ha
        · have hj : j < c.length := by have := (List.getElem?_eq_some_iff.1 ha').1; omega
          have h1 : x[j]? = some (fN x j : Int) := hE'.run.at hj
          have h2 : av[j]? = some (fN av j : Int) := hE.run.at hj
          have h3 := all_mono hr hE' hE j
          rw [ha] at h1
          rw [ha'] at h2
          cases h1
          cases h2
          omega), Option.bind_some]
      dsimp only
      rw [hw, Option.bind_some]
      rw [if_neg (by simp), chk_t hR, e]
      exact ih (k + 1) av (by omega) (by omega) (Or.inr ⟨(k : Int), o, by omega, by omega, hE⟩)
    · rw [if_neg (by simp; omega)]
theorem law_room (c : List (List Deed)) : law08_DeadRoom 1300 c = some true := by
  have hN : 1300 ≤ 1300 := Nat.le_refl _
  unfold law08_DeadRoom
  rw [works_true]
  obtain ⟨b, hb, hl⟩ := light_eq hN c
  rw [hb, Option.bind_some]
  cases b
  · rfl
  · have h := (hl rfl).toCaseOk
    obtain ⟨v, hd, hv⟩ := Decide_eq hN (Narrow_light h) h
    rw [if_neg (by simp), hd, Option.bind_some, if_neg (by simp)]
    have h1 := room_l1 h 0 hv 1300 0 [] (by omega) (by omega) (Or.inl rfl)
    rw [show ((0 : Nat) : Int) = 0 from rfl] at h1
    rw [h1, Option.bind_some]
    dsimp only
    rcases hv with ⟨rfl, _⟩ | ⟨rfl, _⟩ | ⟨x, rfl, h1, _⟩
    · rfl
    · rfl
    · rw [if_pos (by simpa using h1)]; rfl
end Go.Arm
