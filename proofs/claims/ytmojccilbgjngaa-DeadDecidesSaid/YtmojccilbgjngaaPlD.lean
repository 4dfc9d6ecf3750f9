/- Plain laws. -/
import Derived.Test.YtmojccilbgjngaaPl8
namespace Go.Arm
open Go

section
variable {N : Nat} {c : List (List Deed)}
theorem comes_tot (hN : 1300 ≤ N) (h : CaseOk c) {room room' : Int} (h0 : 0 ≤ room) (hr : room ≤ room') (hc : dead_comes N c room = some true) : dead_comes N c room' = some true := by
 obtain ⟨o, a, _, e1, _, h1⟩ := End_eq hN h h0
 obtain ⟨o', a', _, e2, _, h2⟩ := End_eq hN h (room := room') (by omega)
 rw [comes_eq hN h e1 h1] at hc
 rw [comes_eq hN h e2 h2, allS_mono hr h1 h2 (Option.some.inj hc)]
theorem decide_l1_eq (hN : 1300 ≤ N) (h : CaseOk c) (y : Bool × Int) : ∀ (m : Nat) (lo hi : Int), 0 ≤ lo → lo < hi → hi ≤ 200 → (hi - lo).toNat < m → dead_comes N c lo = some false → dead_comes N c hi = some true →
  ∃ x, dead_Decide_l1 N (c, y) m lo hi = some x ∧ 0 < x ∧ x ≤ 200 ∧ dead_comes N c x = some true ∧ dead_comes N c (x - 1) = some false := by
 intro m
 induction m with
 | zero => intro lo hi _ _ _ h; omega
 | succ m ih =>
  intro lo hi h0 h1 h2 hm hlo hhi
  have hR1 : inR (hi - lo) := inR_small (by omega) (by omega)
  rw [dead_Decide_l1, chk_t hR1]
  by_cases hlt : 1 < hi - lo
  ·have hR2 : inR (lo + hi) := inR_small (by omega) (by omega)
   have e : Int.tdiv (lo + hi) 2 = (lo + hi) / 2 := Int.tdiv_eq_ediv_of_nonneg (by omega)
   rw [if_pos (by simpa using hlt), chk_t hR2, e]
   have hR3 : (2 ≠ (0 : Int)) ∧ inR ((lo + hi) / 2) := ⟨by decide, inR_small (by omega) (by omega)⟩
   rw [chk_t hR3]
   obtain ⟨b, hb⟩ := comes_ok hN h (room := (lo + hi) / 2) (by omega)
   dsimp only
   rw [hb, Option.bind_some]
   cases b
   ·rw [if_neg (by simp)]; exact ih _ _ (by omega) (by omega) (by omega) (by omega) hb hhi
   ·rw [if_pos rfl]; exact ih _ _ (by omega) (by omega) (by omega) (by omega) hlo hb
  ·rw [if_neg (by simpa using hlt)]
   exact ⟨hi, rfl, by omega, h2, hhi, by rw [show hi - 1 = lo by omega]; exact hlo⟩
def Says (N : Nat) (c : List (List Deed)) (v : Verdict) : Prop :=
 (v = ⟨1, 0⟩ ∧ dead_comes N c 0 = some true) ∨ (v = ⟨3, 0⟩ ∧ dead_comes N c 0 = some false ∧ dead_comes N c 200 = some false) ∨
 ∃ x, v = ⟨2, x⟩ ∧ 0 < x ∧ x ≤ 200 ∧ dead_comes N c x = some true ∧ dead_comes N c (x - 1) = some false ∧ dead_comes N c 0 = some false
theorem Decide_eq {c0 : List (List Deed)} (hN : 1300 ≤ N) (hn : dead_Narrow N c0 = some (c, true, 0)) (h : CaseOk c) : ∃ v, dead_Decide N c0 = some (v, 0) ∧ Says N c v := by
 unfold dead_Decide
 obtain ⟨b0, e0⟩ := comes_ok hN h (room := 0) (by omega)
 obtain ⟨b1, e1⟩ := comes_ok hN h (room := 200) (by omega)
 rw [hn, Option.bind_some, if_neg (by simp), if_neg (by simp), e0, Option.bind_some]
 cases b0
 ·rw [if_neg (by simp), e1, Option.bind_some]
  cases b1
  ·rw [if_pos (by simp)]; exact ⟨⟨3, 0⟩, rfl, Or.inr (Or.inl ⟨rfl, e0, e1⟩)⟩
  ·rw [if_neg (by simp), Option.bind_some]
   obtain ⟨x, e2, h1, h2, h3, h4⟩ := decide_l1_eq hN h (true, 0) N 0 200 (by omega) (by omega) (by omega) (by omega) e0 e1
   dsimp only
   rw [e2]; exact ⟨⟨2, x⟩, rfl, Or.inr (Or.inr ⟨x, rfl, h1, h2, h3, h4, e0⟩)⟩
 ·rw [if_pos rfl]; exact ⟨⟨1, 0⟩, rfl, Or.inl ⟨rfl, e0⟩⟩
end
end Go.Arm
