/- A part of the walks of profiles. -/
import Derived.Test.YtjhbbdfbngbjcaaGreatDoorZy
import Derived.Test.YtjhbbdfbngbjcaaGreatDoorZz
namespace Go.Proofs.YtjhbbdfbngbjcaaGreatDoor
noncomputable section
open Go Go.X Go.Arm
theorem rbegin_ok {h : AH} {F : Nat → Prop} {hi B tb N : Nat} {VL VS : Option Nat → Value} {L : Lf} {S : Sf} {C : TC} {p : Nat} (H : RT h F tb VL (VS none) N L C) (X : SpL h hi B VS N S) (hp : p < N) (hl : (S p).length < 1000000000) : Arm.Calls Tryz.prog 25 [ptr tb, nv (p : Int)] h (fun r => r.1 = nv (bgn S p (S p).length) ∧ Sm Nix h r.2) := by
 by_cases h0 : (S p).length = 0
 · have hv : (bgn S p (S p).length) = 0 := by unfold bgn; rw [if_pos h0]
   rw [hv]
   refine Calls_W 33 Tryz.f25 ?_
   have T0 : Sm Nix h h := .refl
   refine W_sg 1 kr (L_nil (W_seq (W_sg 3 kr (L_ld _ rfl rfl kr ((H.ext T0).cl.ld (o := 5) kr rfl) (L_g 1 kr ?_)))))
   obtain ⟨b1, o1, i1, l1⟩ := (X.ext T0).row (T := 39) (el := 52) kr kr kr hp
   refine L_ix _ rfl rfl kr kr (i1) (L_ld _ rfl rfl kr ((X.ext T0).rowLd (T := 39) (el := 52) kr kr kr hp i1) (L_ln _ rfl rfl kr ((X.ext T0).lenR (T := 52) (el := 56) kr p) (L_i (((S p).length : Int)) (0) (.bool true) rfl rfl kr kr rfl (by rw [h0]; rfl) (L_nil ?_))))
   refine W_cond true kr (fun _ => ?_) (fun e => by cases e)
   refine W_sg 1 kr (L_nil (W_ret ?_))
   repeat first | with_reducible refine then_ret ?_ | with_reducible refine blk_ret ?_
   refine done_of (v := nv 0) (.inl rfl) kr ?_
   exact ⟨rfl, T0⟩
 · obtain ⟨s, hs⟩ : ∃ s, (S p)[(S p).length - 1]? = some s := ⟨_, List.getElem?_eq_getElem (by omega)⟩
   have hv : (bgn S p (S p).length) = s.e := by unfold bgn; rw [if_neg h0, hs]
   rw [hv]
   refine Calls_W 33 Tryz.f25 ?_
   have T0 : Sm Nix h h := .refl
   refine W_sg 1 kr (L_nil (W_seq (W_sg 3 kr (L_ld _ rfl rfl kr ((H.ext T0).cl.ld (o := 5) kr rfl) (L_g 1 kr ?_)))))
   obtain ⟨b1, o1, i1, l1⟩ := (X.ext T0).row (T := 39) (el := 52) kr kr kr hp
   refine L_ix _ rfl rfl kr kr (i1) (L_ld _ rfl rfl kr ((X.ext T0).rowLd (T := 39) (el := 52) kr kr kr hp i1) (L_ln _ rfl rfl kr ((X.ext T0).lenR (T := 52) (el := 56) kr p) (L_i (((S p).length : Int)) (0) (.bool false) rfl rfl kr kr rfl (show Value.bool (((S p).length : Int) == 0) = _ by rw [beq_eq_false_iff_ne.2 (by omega)]) (L_nil ?_))))
   refine W_cond false kr (fun e => by cases e) (fun _ => ?_)
   refine W_skip (W_seq (W_drawn kr (D_l (l := [0,1,2,3,4,5,6,7,8,9,10,11,12,13,14,15,16,17,18,19]) kr kr Rk_nil (NS_b 3 kr (NS_ld _ rfl rfl kr kr kr ((H.ext T0).cl.ld (o := 5) kr rfl) (NS_b 1 kr ?_))))))
   obtain ⟨b1, o1, i1, l1⟩ := (X.ext T0).row (T := 39) (el := 52) kr kr kr hp
   refine NS_ix _ rfl rfl kr kr kr kr (i1) (NS_ld _ rfl rfl kr kr kr ((X.ext T0).rowLd (T := 39) (el := 52) kr kr kr hp i1) (NS_b 3 kr (NS_ld _ rfl rfl kr kr kr ((H.ext T0).cl.ld (o := 5) kr rfl) (NS_b 1 kr ?_))))
   obtain ⟨b1, o1, i1, l1⟩ := (X.ext T0).row (T := 39) (el := 52) kr kr kr hp
   refine NS_ix _ rfl rfl kr kr kr kr (i1) (NS_ld _ rfl rfl kr kr kr ((X.ext T0).rowLd (T := 39) (el := 52) kr kr kr hp i1) (NS_ln _ rfl rfl kr kr kr ((X.ext T0).lenR (T := 52) (el := 56) kr p) (NS_i (((S p).length : Int)) (1) (nv (((S p).length - 1 : Nat) : Int)) rfl rfl kr kr kr kr rfl (dec_ok h0 hl) ?_)))
   obtain ⟨b2, o2, i2, l2⟩ := (X.ext T0).sp (T := 52) (el := 56) kr kr hs
   refine NS_ix _ rfl rfl kr kr kr kr (i2) (NS_b 1 kr (NS_ld _ rfl rfl kr kr kr (ld_cell kr (SpL.spCell (X.ext T0) (T := 52) (el := 56) kr kr hs i2 (j := 1) (by decide))) (NS_b 1 kr (NS_nil (W_ret ?_)))))
   repeat first | with_reducible refine then_ret ?_ | with_reducible refine blk_ret ?_
   refine done_of (v := nv s.e) (.inl rfl) kr ?_
   exact ⟨rfl, T0⟩
def opR : Option (Option (Int × Nat × Nat)) → Value
 | none => .tuple ⟨[nv 0, nv 0, .bool false]⟩
 | some acc => .tuple ⟨[nv (accA acc), nv (accP acc), .bool true]⟩
theorem opn_step {L : Lf} {S : Sf} {no : Int} {k j : Nat} {acc : Option (Int × Nat × Nat)} (h : opn L S no k = some acc) (hf : fnd (L k) 3 0 no = some j) : opn L S no (k + 1) = if (S k).length < j then none else some (opAcc S (k, j) acc) := by
 conv => lhs; unfold opn
 rw [h]
 dsimp only
 rw [hf]
 dsimp only
 split
 · rfl
 · cases acc <;> rfl
theorem opn_skip {L : Lf} {S : Sf} {no : Int} {k : Nat} {acc : Option (Int × Nat × Nat)} (h : opn L S no k = some acc) (hf : fnd (L k) 3 0 no = none) : opn L S no (k + 1) = some acc := by
 conv => lhs; unfold opn
 rw [h]
 dsimp only
 rw [hf]
theorem ropen_ok {h : AH} {F : Nat → Prop} {hi B tb N : Nat} {VL VS : Option Nat → Value} {L : Lf} {S : Sf} {C : TC} (H : RT h F tb VL (VS none) N L C) (X : SpL h hi B VS N S) (g : Gd N L S) (hB : ∀ q, (L q).length < 1000000000) (hN : N < 1000000000) {no : Int} : Arm.Calls Tryz.prog 28 [ptr tb, nv no] h (fun r => r.1 = opR (opn L S no N) ∧ Sm Nix h r.2) := by
 refine Calls_W 63 Tryz.f28 ?_
 have T0 : Sm Nix h h := .refl
 refine W_sg 3 kr (L_nil (W_sg 2 kr (L_nil (W_seq (W_seq (W_region (L_g 1 kr ?_)))))))
 refine L_nil (W_block ?_)
 refine W_loop (fun mm fr hh => ∃ (k : Nat) (acc : Option (Int × Nat × Nat)), (k ≤ N) ∧ (opn L S no k = some acc) ∧ mm = N - k ∧ fr 0 = ptr tb ∧ fr 1 = nv no ∧ fr 7 = nv (accA acc) ∧ fr 8 = nv (accP acc) ∧ fr 9 = nv (k : Int) ∧ Sm Nix h hh) (N) ?_ ?_
 ·
  exact ⟨0, none, Nat.zero_le _, rfl, rfl, kr, kr, kr, kr, kr, T0⟩
 rintro mm175 fr175 h175 ⟨k, acc, hk, ho, hm175, y175_0, y175_1, y175_7, y175_8, y175_9, T175⟩
 have N175 := T175.nx
 refine W_set (k := 0) y175_0 (W_set (k := 1) y175_1 (W_set (k := 7) y175_7 (W_set (k := 8) y175_8 (W_set (k := 9) y175_9 (W_seq (W_sg 4 kr (L_ld _ rfl rfl kr ((H.ext T175).cl.ld (o := 0) kr rfl) (L_ln _ rfl rfl kr ((H.ext T175).inp.len (T := 22) (el := 27) kr) (L_g 1 kr ?_)))))))))
 refine L_nil ?_
 refine W_cond (decide ((k : Int) < (N : Nat))) kr (fun hb => ?_) (fun hb => ?_)
 ·
  have hlt : k < N := by simp at hb; omega
  refine W_skip (W_seq (W_block (W_sg 3 kr (L_ld _ rfl rfl kr ((H.ext T175).cl.ld (o := 0) kr rfl) (L_g 1 kr ?_)))))
  obtain ⟨b3, o3, i3, l3⟩ := (H.ext T175).inp.row (T := 22) (el := 27) kr kr kr hlt
  refine L_ix _ rfl rfl kr kr (i3) (L_ld _ rfl rfl kr ((H.ext T175).inp.rowLd (T := 22) (el := 27) kr kr kr hlt i3) (L_g 1 kr (L_c rfl rfl kr (find_ok 3 0 no ((H.ext T175).inp.r k hlt) (hB k)) ?_)))
  rintro v176 h176 ⟨e176, t176⟩
  try dsimp only at e176
  try dsimp only at t176
  subst e176
  have T176 := T175.ext t176
  have N176 := T176.nx
  have M176 := t176.nx
  refine L_g 1 kr (L_nil (W_seq (W_seq ?_)))
  rcases hf : fnd (L k) 3 0 no with _ | j
  ·
   refine W_rg 1 kr (L_i ((fndZ (L k) 3 0 no)) (0) (.bool true) rfl rfl kr kr rfl (by rw [fndZ_none hf]; rfl) (L_nil ?_))
   refine W_cond true kr (fun _ => ?_) (fun e => by cases e)
   refine W_exit ?_
   repeat with_reducible refine then_exit ?_
   refine exit_here (W_rg 1 kr (L_i ((k : Int)) (1) (nv ((k + 1 : Nat) : Int)) rfl rfl kr kr rfl (inc_ok (by omega)) (L_g 1 kr (L_nil ?_))))
   exact ⟨N - (k + 1), by omega, k + 1, acc, by omega, opn_skip ho hf, rfl, kr, kr, kr, kr, kr, T176⟩
  ·
   have hjl := fnd_lt hf
   have hBk := hB k
   refine W_rg 1 kr (L_i ((fndZ (L k) 3 0 no)) (0) (.bool false) rfl rfl kr kr rfl (by rw [fndZ_some hf]; simp) (L_nil ?_))
   refine W_cond false kr (fun e => by cases e) (fun _ => ?_)
   refine W_skip (W_seq (W_sg 3 kr (L_ld _ rfl rfl kr ((H.ext T176).cl.ld (o := 5) kr rfl) (L_g 1 kr ?_))))
   obtain ⟨b1, o1, i1, l1⟩ := (X.ext T176).row (T := 39) (el := 52) kr kr kr hlt
   refine L_ix _ rfl rfl kr kr (i1) (L_ld _ rfl rfl kr ((X.ext T176).rowLd (T := 39) (el := 52) kr kr kr hlt i1) (L_ln _ rfl rfl kr ((X.ext T176).lenR (T := 52) (el := 56) kr k) (L_g 1 kr (L_i (((S k).length : Int)) ((fndZ (L k) 3 0 no)) (.bool (decide ((S k).length < j))) rfl rfl kr kr rfl (by rw [fndZ_some hf]; simp) (L_nil ?_)))))
   refine W_cond (decide ((S k).length < j)) kr (fun hb => ?_) (fun hb => ?_)
   ·
    have hlj : (S k).length < j := of_decide_eq_true hb
    refine W_sg 3 kr (L_nil (W_ret ?_))
    repeat first | with_reducible refine then_ret ?_ | with_reducible refine blk_ret ?_
    refine done_of (v := .tuple ⟨[nv 0, nv 0, .bool false]⟩) (.inl rfl) kr ?_
    exact ⟨by rw [opn_stays (k := k + 1) (by rw [opn_step ho hf, if_pos hlj]) N (by omega)]; rfl, T176⟩
   ·
    have hlj : ¬ (S k).length < j := of_decide_eq_false hb
    refine W_skip (W_sg 1 kr (L_nil (W_seq (W_sg 1 kr (L_i ((fndZ (L k) 3 0 no)) (0) (.bool (decide (0 < j))) rfl rfl kr kr rfl (by rw [fndZ_some hf]; simp) (L_nil ?_))))))
    refine W_cond (decide (0 < j)) kr (fun hb => ?_) (fun hb => ?_)
    ·
     have hj0 : 0 < j := of_decide_eq_true hb
     obtain ⟨s, hs⟩ : ∃ s, (S k)[j - 1]? = some s := ⟨_, List.getElem?_eq_getElem (by omega)⟩
     have hbg : bgn S k j = s.e := by unfold bgn; rw [if_neg (by omega), hs]
     refine W_rg 3 kr (L_ld _ rfl rfl kr ((H.ext T176).cl.ld (o := 5) kr rfl) (L_g 1 kr ?_))
     obtain ⟨b1, o1, i1, l1⟩ := (X.ext T176).row (T := 39) (el := 52) kr kr kr hlt
     refine L_ix _ rfl rfl kr kr (i1) (L_ld _ rfl rfl kr ((X.ext T176).rowLd (T := 39) (el := 52) kr kr kr hlt i1) (L_g 1 kr (L_i ((fndZ (L k) 3 0 no)) (1) (nv ((j - 1 : Nat) : Int)) rfl rfl kr kr rfl (by rw [fndZ_some hf]; exact dec_ok (by omega) (by omega)) ?_)))
     obtain ⟨b2, o2, i2, l2⟩ := (X.ext T176).sp (T := 52) (el := 56) kr kr hs
     refine L_ix _ rfl rfl kr kr (i2) (L_g 1 kr (L_ld _ rfl rfl kr (ld_cell kr (SpL.spCell (X.ext T176) (T := 52) (el := 56) kr kr hs i2 (j := 1) (by decide))) (L_g 1 kr (L_nil (W_seq (W_region (L_p (nv (bgn S k j)) rfl (by rw [hbg]; kernel_rfl) (L_g 1 kr (L_i ((bgn S k j)) ((accA acc)) (.bool (decide (accA acc < bgn S k j))) rfl rfl kr kr rfl (rfl) (L_nil ?_))))))))))
     refine W_cond (decide (accA acc < bgn S k j)) kr (fun hb => ?_) (fun hb => ?_)
     ·
      have hb2 : accA acc < bgn S k j := of_decide_eq_true hb
      refine W_region (L_p (nv (bgn S k j)) rfl (by rw [hbg]; kernel_rfl) (L_g 3 kr (L_nil (W_rg 1 kr (L_i ((k : Int)) (1) (nv ((k + 1 : Nat) : Int)) rfl rfl kr kr rfl (inc_ok (by omega)) (L_g 1 kr (L_nil ?_)))))))
      exact ⟨N - (k + 1), by omega, k + 1, some (bgn S k j, k, j), by omega, by rw [opn_step ho hf, if_neg hlj, opAcc_lt hb2], rfl, kr, kr, kr, kr, kr, T176⟩
     ·
      have hb2 : ¬ accA acc < bgn S k j := of_decide_eq_false hb
      refine W_skip (W_rg 1 kr (L_i ((k : Int)) (1) (nv ((k + 1 : Nat) : Int)) rfl rfl kr kr rfl (inc_ok (by omega)) (L_g 1 kr (L_nil ?_))))
      exact ⟨N - (k + 1), by omega, k + 1, acc, by omega, by rw [opn_step ho hf, if_neg hlj, opAcc_ge hb2 (g.bgn _ _).1], rfl, kr, kr, kr, kr, kr, T176⟩
    ·
     have hj0 : j = 0 := by simpa using hb
     have hbg : bgn S k j = 0 := by unfold bgn; rw [if_pos hj0]
     refine W_skip (W_seq (W_region (L_p (nv (bgn S k j)) rfl (by rw [hbg]; kernel_rfl) (L_g 1 kr (L_i ((bgn S k j)) ((accA acc)) (.bool (decide (accA acc < bgn S k j))) rfl rfl kr kr rfl (rfl) (L_nil ?_))))))
     refine W_cond (decide (accA acc < bgn S k j)) kr (fun hb => ?_) (fun hb => ?_)
     ·
      have hb2 : accA acc < bgn S k j := of_decide_eq_true hb
      refine W_region (L_p (nv (bgn S k j)) rfl (by rw [hbg]; kernel_rfl) (L_g 3 kr (L_nil (W_rg 1 kr (L_i ((k : Int)) (1) (nv ((k + 1 : Nat) : Int)) rfl rfl kr kr rfl (inc_ok (by omega)) (L_g 1 kr (L_nil ?_)))))))
      exact ⟨N - (k + 1), by omega, k + 1, some (bgn S k j, k, j), by omega, by rw [opn_step ho hf, if_neg hlj, opAcc_lt hb2], rfl, kr, kr, kr, kr, kr, T176⟩
     ·
      have hb2 : ¬ accA acc < bgn S k j := of_decide_eq_false hb
      refine W_skip (W_rg 1 kr (L_i ((k : Int)) (1) (nv ((k + 1 : Nat) : Int)) rfl rfl kr kr rfl (inc_ok (by omega)) (L_g 1 kr (L_nil ?_))))
      exact ⟨N - (k + 1), by omega, k + 1, acc, by omega, by rw [opn_step ho hf, if_neg hlj, opAcc_ge hb2 (g.bgn _ _).1], rfl, kr, kr, kr, kr, kr, T176⟩
 ·
  have hge : N = k := by simp at hb; omega
  subst hge
  refine W_exit ?_
  repeat with_reducible refine then_exit ?_
  refine exit_here (W_sg 5 kr (L_nil (W_ret ?_)))
  repeat first | with_reducible refine then_ret ?_ | with_reducible refine blk_ret ?_
  refine done_of (v := .tuple ⟨[nv (accA acc), nv (accP acc), .bool true]⟩) (.inl rfl) kr ?_
  exact ⟨by rw [ho]; rfl, T175⟩
end
end Go.Proofs.YtjhbbdfbngbjcaaGreatDoor
