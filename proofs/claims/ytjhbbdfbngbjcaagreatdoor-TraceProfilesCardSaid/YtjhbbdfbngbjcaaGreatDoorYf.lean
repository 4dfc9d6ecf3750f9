/- A part of the walks of profiles. -/
import Derived.Test.YtjhbbdfbngbjcaaGreatDoorZu
namespace Go.Proofs.YtjhbbdfbngbjcaaGreatDoor
noncomputable section
open Go Go.X Go.Arm
theorem wrong_ok {h : AH} {z : Int} : Arm.Calls Tryz.prog 43 [nv z] h (fun r => r.1 = .bool (costBad z) ∧ Sm Nix h r.2) := by
 refine Calls_W 9 Tryz.f43 ?_
 have T0 : Sm Nix h h := .refl
 refine W_sg 1 kr (L_nil (W_seq ?_))
 by_cases hz : z < 0
 ·
  refine W_rg 1 kr (L_i (z) (0) (.bool true) rfl rfl kr kr rfl (by first | (simp; done) | (simp; omega)) (L_g 5 kr (L_nil (W_ret ?_))))
  repeat first | with_reducible refine then_ret ?_ | with_reducible refine blk_ret ?_
  refine done_of (v := .bool true) (.inl rfl) kr ?_
  exact ⟨by rw [show costBad z = true by unfold costBad; simp; omega], T0⟩
 ·
  refine W_rg 1 kr (L_i (z) (0) (.bool false) rfl rfl kr kr rfl (by simp; omega) (L_g 2 kr (L_want kr (L_i (z) (1048576) (.bool (decide (1048576 < z))) rfl rfl kr kr rfl (rfl) (L_g 2 kr (L_nil (W_ret ?_)))))))
  repeat first | with_reducible refine then_ret ?_ | with_reducible refine blk_ret ?_
  refine done_of (v := .bool (decide (1048576 < z))) (.inl rfl) kr ?_
  exact ⟨by rw [show costBad z = decide (1048576 < z) by unfold costBad; simp; omega], T0⟩
theorem many1_ok {h : AH} {F : Nat → Prop} {V : Option Nat → Value} {N q : Nat} {L : Lf} (I : TIn h F V N L) (hq : q < N) : Arm.Calls Tryz.prog 45 [V (some q)] h (fun r => r.1 = .bool (decide (10000 < (L q).length)) ∧ Sm Nix h r.2) := by
 refine Calls_W 6 Tryz.f45 ?_
 have T0 : Sm Nix h h := .refl
 refine W_sg 1 kr (L_nil (W_sg 1 kr (L_ln _ rfl rfl kr ((I.ext T0).lenR (T := 28) (el := 59) kr hq) (L_i (((L q).length : Int)) (10000) (.bool (decide (10000 < (L q).length))) rfl rfl kr kr rfl (by simp; omega) (L_g 1 kr (L_nil (W_ret ?_)))))))
 repeat first | with_reducible refine then_ret ?_ | with_reducible refine blk_ret ?_
 refine done_of (v := .bool (decide (10000 < (L q).length))) (.inl rfl) kr ?_
 exact ⟨rfl, T0⟩
theorem index1_ok {h : AH} {F : Nat → Prop} {V : Option Nat → Value} {N : Nat} {L : Lf} (I : TIn h F V N L) (hN : N < 1000000) : Arm.Calls Tryz.prog 80 [V none, .func (.func 45) ⟨[]⟩ ⟨[]⟩] h (fun r => ∃ z : Int, r.1 = nv z ∧ decide (0 ≤ z) = manyB N L ∧ Sm Nix h r.2) := by
 refine Calls_W 19 Tryz.f80 ?_
 have T0 : Sm Nix h h := .refl
 refine W_sg 1 kr (L_nil (W_seq (W_sg 1 kr (L_ln _ rfl rfl kr ((I.ext T0).len (T := 26) (el := 28) kr) (L_g 1 kr (L_nil (W_block ?_)))))))
 refine W_loop (fun mm fr hh => ∃ (k : Nat), (k ≤ N) ∧ (∀ q, q < k → decide (10000 < (L q).length) = false) ∧ mm = N - k ∧ fr 0 = V none ∧ fr 1 = .func (.func 45) ⟨[]⟩ ⟨[]⟩ ∧ fr 7 = nv (N : Int) ∧ fr 8 = nv (k : Int) ∧ Sm Nix h hh) (N) ?_ ?_
 ·
  exact ⟨0, Nat.zero_le _, (fun q hq => by omega), rfl, kr, kr, kr, kr, T0⟩
 rintro mm100 fr100 h100 ⟨k, hk, hno, hm100, y100_0, y100_1, y100_7, y100_8, T100⟩
 have N100 := T100.nx
 refine W_set (k := 0) y100_0 (W_set (k := 1) y100_1 (W_set (k := 7) y100_7 (W_set (k := 8) y100_8 (W_sg 1 kr (L_nil (W_seq ?_))))))
 refine W_cond (decide ((k : Int) < (N : Nat))) kr (fun hb => ?_) (fun hb => ?_)
 ·
  have hlt : k < N := by simp at hb; omega
  refine W_skip (W_seq (W_block (W_sg 2 kr (L_nil (W_seq (W_region (L_g 3 kr ?_)))))))
  obtain ⟨b1, o1, i1, l1⟩ := (I.ext T100).row (T := 26) (el := 28) kr kr kr hlt
  refine L_ix _ rfl rfl kr kr (i1) (L_ld _ rfl rfl kr (l1) (L_c rfl rfl kr (many1_ok (I.ext T100) hlt) ?_))
  rintro v101 h101 ⟨e101, t101⟩
  try dsimp only at e101
  try dsimp only at t101
  subst e101
  have T101 := T100.ext t101
  have N101 := T101.nx
  have M101 := t101.nx
  refine L_nil ?_
  refine W_cond (decide (10000 < (L k).length)) kr (fun hb => ?_) (fun hb => ?_)
  ·
    refine W_sg 2 kr (L_nil (W_ret ?_))
    repeat first | with_reducible refine then_ret ?_ | with_reducible refine blk_ret ?_
    refine done_of (v := nv (k : Int)) (.inl rfl) kr ?_
    refine ⟨_, rfl, ?_, T101⟩
    rw [show manyB N L = true from ?_]
    · simp
    · exact List.any_eq_true.2 ⟨k, List.mem_range.2 hlt, hb⟩
  ·
    refine W_skip (W_region (L_i ((k : Int)) (1) (nv ((k + 1 : Nat) : Int)) rfl rfl kr kr rfl (inc_ok (by omega)) (L_g 1 kr (L_nil ?_))))
    exact ⟨N - (k + 1), by omega, k + 1, by omega, (fun q hq => (Nat.lt_succ_iff_lt_or_eq.1 hq).elim (hno q) (fun e => by rw [e]; exact hb)), rfl, kr, kr, kr, kr, T101⟩
 ·
  have hge : N ≤ k := by simp at hb; omega
  refine W_exit ?_
  repeat with_reducible refine then_exit ?_
  refine exit_here (W_sg 1 kr (L_nil (W_ret ?_)))
  repeat first | with_reducible refine then_ret ?_ | with_reducible refine blk_ret ?_
  refine done_of (v := nv (-1)) (.inl rfl) kr ?_
  refine ⟨_, rfl, ?_, T100⟩
  rw [show manyB N L = false from ?_]
  · decide
  · exact List.any_eq_false.2 (fun q hq => by rw [hno q (by have := List.mem_range.1 hq; omega)]; simp)
theorem index2_ok {h : AH} {v : Value} {zs : List Int} (G : Sd h 1 v zs.length (zs.map nv)) (hN : zs.length < 1000000) : Arm.Calls Tryz.prog 81 [v, .func (.func 43) ⟨[]⟩ ⟨[]⟩] h (fun r => ∃ z : Int, r.1 = nv z ∧ decide (0 ≤ z) = zs.any costBad ∧ Sm Nix h r.2) := by
 refine Calls_W 19 Tryz.f81 ?_
 have T0 : Sm Nix h h := .refl
 refine W_sg 1 kr (L_nil (W_seq (W_sg 1 kr (L_ln _ rfl rfl kr ((G.ext T0).len (T := 45) (el := 3) kr) (L_g 1 kr (L_nil (W_block ?_)))))))
 refine W_loop (fun mm fr hh => ∃ (k : Nat), (k ≤ zs.length) ∧ (∀ q, q < k → costBad ((zs[q]?).getD 0) = false) ∧ mm = zs.length - k ∧ fr 0 = v ∧ fr 1 = .func (.func 43) ⟨[]⟩ ⟨[]⟩ ∧ fr 7 = nv (zs.length : Int) ∧ fr 8 = nv (k : Int) ∧ Sm Nix h hh) (zs.length) ?_ ?_
 ·
  exact ⟨0, Nat.zero_le _, (fun q hq => by omega), rfl, kr, kr, kr, kr, T0⟩
 rintro mm102 fr102 h102 ⟨k, hk, hno, hm102, y102_0, y102_1, y102_7, y102_8, T102⟩
 have N102 := T102.nx
 refine W_set (k := 0) y102_0 (W_set (k := 1) y102_1 (W_set (k := 7) y102_7 (W_set (k := 8) y102_8 (W_sg 1 kr (L_nil (W_seq ?_))))))
 refine W_cond (decide ((k : Int) < (zs.length : Nat))) kr (fun hb => ?_) (fun hb => ?_)
 ·
  have hlt : k < zs.length := by simp at hb; omega
  refine W_skip (W_seq (W_block (W_sg 2 kr (L_nil (W_seq (W_region (L_g 3 kr ?_)))))))
  obtain ⟨b1, o1, _, i1, l1⟩ := (G.ext T102).at (P := Tryz.prog) (T := 45) (el := 3) kr kr hlt .i64
  have l2 := l1 0 (by decide)
  rw [Nat.add_zero, Nat.mul_one, Nat.add_zero, List.getElem?_map, List.getElem?_eq_getElem hlt] at l2
  have l2 : _ = some (nv (zs[k])) := l2
  rw [show zs[k] = (zs[k]?).getD 0 by rw [List.getElem?_eq_getElem hlt]; rfl] at l2
  refine L_ix _ rfl rfl kr kr (i1) (L_ld _ rfl rfl kr (ld_cell kr l2) (L_c rfl rfl kr (wrong_ok (z := (zs[k]?).getD 0)) ?_))
  rintro v103 h103 ⟨e103, t103⟩
  try dsimp only at e103
  try dsimp only at t103
  subst e103
  have T103 := T102.ext t103
  have N103 := T103.nx
  have M103 := t103.nx
  refine L_nil ?_
  refine W_cond (costBad ((zs[k]?).getD 0)) kr (fun hb => ?_) (fun hb => ?_)
  ·
    refine W_sg 2 kr (L_nil (W_ret ?_))
    repeat first | with_reducible refine then_ret ?_ | with_reducible refine blk_ret ?_
    refine done_of (v := nv (k : Int)) (.inl rfl) kr ?_
    refine ⟨_, rfl, ?_, T103⟩
    rw [show zs.any costBad = true from ?_]
    · simp
    · refine List.any_eq_true.2 ⟨zs[k], List.getElem_mem hlt, ?_⟩
      rw [List.getElem?_eq_getElem hlt] at hb; exact hb
  ·
    refine W_skip (W_region (L_i ((k : Int)) (1) (nv ((k + 1 : Nat) : Int)) rfl rfl kr kr rfl (inc_ok (by omega)) (L_g 1 kr (L_nil ?_))))
    exact ⟨zs.length - (k + 1), by omega, k + 1, by omega, (fun q hq => (Nat.lt_succ_iff_lt_or_eq.1 hq).elim (hno q) (fun e => by rw [e]; exact hb)), rfl, kr, kr, kr, kr, T103⟩
 ·
  have hge : zs.length ≤ k := by simp at hb; omega
  refine W_exit ?_
  repeat with_reducible refine then_exit ?_
  refine exit_here (W_sg 1 kr (L_nil (W_ret ?_)))
  repeat first | with_reducible refine then_ret ?_ | with_reducible refine blk_ret ?_
  refine done_of (v := nv (-1)) (.inl rfl) kr ?_
  refine ⟨_, rfl, ?_, T102⟩
  rw [show zs.any costBad = false from ?_]
  · decide
  · refine List.any_eq_false.2 (fun z hz => ?_)
    obtain ⟨i, hi, rfl⟩ := List.getElem_of_mem hz
    have := hno i (by omega)
    rw [List.getElem?_eq_getElem hi] at this
    simpa using this
theorem contains1_ok {h : AH} {F : Nat → Prop} {V : Option Nat → Value} {N : Nat} {L : Lf} (I : TIn h F V N L) (hN : N < 1000000) : Arm.Calls Tryz.prog 44 [V none, .func (.func 45) ⟨[]⟩ ⟨[]⟩] h (fun r => r.1 = .bool (manyB N L) ∧ Sm Nix h r.2) := by
 refine Calls_W 9 Tryz.f44 ?_
 have T0 : Sm Nix h h := .refl
 refine W_sg 1 kr (L_nil (W_sg 2 kr (L_c rfl rfl kr (index1_ok (I.ext T0) hN) ?_)))
 rintro v104 h104 ⟨z, e104, hz, t104⟩
 try dsimp only at t104
 dsimp only at e104 t104 hz
 subst e104
 have T104 := T0.ext t104
 have N104 := T104.nx
 have M104 := t104.nx
 refine L_i (z) (0) (.bool (decide (0 ≤ z))) rfl rfl kr kr rfl (rfl) (L_g 1 kr (L_nil (W_ret ?_)))
 repeat first | with_reducible refine then_ret ?_ | with_reducible refine blk_ret ?_
 refine done_of (v := .bool (decide (0 ≤ z))) (.inl rfl) kr ?_
 exact ⟨by rw [hz], T104⟩
theorem contains2_ok {h : AH} {v : Value} {zs : List Int} (G : Sd h 1 v zs.length (zs.map nv)) (hN : zs.length < 1000000) : Arm.Calls Tryz.prog 46 [v, .func (.func 43) ⟨[]⟩ ⟨[]⟩] h (fun r => r.1 = .bool (zs.any costBad) ∧ Sm Nix h r.2) := by
 refine Calls_W 9 Tryz.f46 ?_
 have T0 : Sm Nix h h := .refl
 refine W_sg 1 kr (L_nil (W_sg 2 kr (L_c rfl rfl kr (index2_ok (G.ext T0) hN) ?_)))
 rintro v105 h105 ⟨z, e105, hz, t105⟩
 try dsimp only at t105
 dsimp only at e105 t105 hz
 subst e105
 have T105 := T0.ext t105
 have N105 := T105.nx
 have M105 := t105.nx
 refine L_i (z) (0) (.bool (decide (0 ≤ z))) rfl rfl kr kr rfl (rfl) (L_g 1 kr (L_nil (W_ret ?_)))
 repeat first | with_reducible refine then_ret ?_ | with_reducible refine blk_ret ?_
 refine done_of (v := .bool (decide (0 ≤ z))) (.inl rfl) kr ?_
 exact ⟨by rw [hz], T105⟩
end
end Go.Proofs.YtjhbbdfbngbjcaaGreatDoor
