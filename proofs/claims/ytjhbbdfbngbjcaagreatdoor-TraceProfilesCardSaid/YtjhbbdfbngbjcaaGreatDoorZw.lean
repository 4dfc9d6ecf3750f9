/- A part of the walks of profiles. -/
import Derived.Test.YtjhbbdfbngbjcaaGreatDoorZv
namespace Go.Proofs.YtjhbbdfbngbjcaaGreatDoor
noncomputable section
open Go Go.X Go.Arm
set_option maxHeartbeats 1000000 in
theorem opening_ok {h : AH} {F : Nat → Prop} {hi B tb sb mb N : Nat} {VL VS : Option Nat → Value} {L : Lf} {S : Sf} {C : TC} {mt : List (Int × List (Nat × Nat))} (H : PT h F tb sb mb VL (VS none) N L C mt) (X : SpL h hi B VS N S) (g : Gd N L S) (hB : ∀ q, (L q).length < 1000000000) (hN : N < 1000000000) {no : Int} {r0 : Option (Option (Int × Nat × Nat))} (hr0 : opn L S no N = r0) :
  Arm.Calls Tryz.prog 52 [ptr tb, nv no] h (fun r => r.1 = opV r0 ∧ Sm Nix h r.2) := by
 subst hr0
 rw [opn_opl]
 obtain ⟨sv, hlk, hRs⟩ := lookMeets H.meets no
 rw [H.mts no] at hRs
 have hml : ∀ e, e ∈ meetL L no N → e.1 < N ∧ fnd (L e.1) 3 0 no = some e.2 := fun e he => meetL_lt he
 have hll : (meetL L no N).length < 1000000000 := by have := meetL_len L no N; omega
 generalize meetL L no N = l at hRs hml hll ⊢
 refine Calls_W 42 Tryz.f52 ?_
 have T0 : Sm Nix h h := .refl
 refine W_sg 1 kr (L_nwc [nv 0, nv 0] .ptr rfl rfl kr fun h4 c4 t4 n4 => ?_)
 have T4 := T0.ext t4
 have N4 := T4.nx
 refine L_g 1 kr (L_nil (W_sg 1 kr (L_nwc [nv 0, nv 0] .ptr rfl rfl kr fun h5 c5 t5 n5 => ?_)))
 replace c4 := c4.ext t5
 have T5 := T4.ext t5
 have N5 := T5.nx
 refine L_g 1 kr ?_
 obtain ⟨h6, e6, d6, t6, n6⟩ := c5.sA 91 [nv 0, nv 0]
 replace c4 := c4.sn t6
 replace c5 := d6
 have T6 := T5.tr t6
 have N6 := T6.nx
 refine L_st _ rfl rfl rfl kr kr (e6) (L_nil (W_seq (W_sg 3 kr (L_ld _ rfl rfl kr ((H.ext T6).cl.ld (o := 6) kr rfl) (L_g 1 kr (L_lk _ rfl rfl kr kr ((look_ext (b := mb) T6 H.meets.1).trans hlk) (L_ln _ rfl rfl kr ((hRs.1.ext T6).len (T := 32) (el := 91) kr) (L_g 1 kr (L_nil ?_)))))))))
 refine W_block ?_
 refine W_loop (fun mm fr hh => ∃ (k : Nat) (acc : Option (Int × Nat × Nat)), (k ≤ l.length) ∧ (opl S acc (l.drop k) = opl S none l) ∧ mm = l.length - k ∧ fr 0 = ptr tb ∧ fr 5 = ptr h.next ∧ fr 7 = nv (accA acc) ∧ fr 8 = ptr h4.next ∧ fr 19 = sv ∧ fr 20 = nv (l.length : Int) ∧ fr 21 = nv (k : Int) ∧ Sm Nix h hh ∧ Cl hh (h.next) [nv 0, nv 0] ∧ Cl hh (h4.next) (accW acc)) (l.length) ?_ ?_
 ·
  exact ⟨0, none, Nat.zero_le _, rfl, rfl, kr, kr, kr, kr, kr, kr, kr, T6, c4, c5⟩
 rintro mm7 fr7 h7 ⟨k, acc, hk, hacc, hm7, y7_0, y7_5, y7_7, y7_8, y7_19, y7_20, y7_21, T7, c4, c5⟩
 have N7 := T7.nx
 have B7_t5 := c4.lt
 have B7_t8 := c5.lt
 refine W_set (k := 0) y7_0 (W_set (k := 5) y7_5 (W_set (k := 7) y7_7 (W_set (k := 8) y7_8 (W_set (k := 19) y7_19 (W_set (k := 20) y7_20 (W_set (k := 21) y7_21 (W_sg 1 kr (L_nil (W_seq ?_)))))))))
 refine W_cond (decide ((k : Int) < (l.length : Nat))) kr (fun hb => ?_) (fun hb => ?_)
 ·
  have hlt : k < l.length := by simp at hb; omega
  obtain ⟨e, he⟩ : ∃ e, l[k]? = some e := ⟨_, List.getElem?_eq_getElem hlt⟩
  obtain ⟨he1, he2⟩ := hml e (List.mem_of_getElem? he)
  have hst := opl_step (S := S) (acc := acc) he
  have heB : e.2 < 1000000000 := Nat.lt_trans (fnd_lt he2) (hB e.1)
  obtain ⟨b9, o9, _, i9, l9⟩ := (hRs.1.ext T7).at (P := Tryz.prog) (T := 32) (el := 91) kr kr hlt .i64
  refine W_skip (W_seq (W_block (W_seq (W_region (L_ix _ rfl rfl kr kr (i9) (L_ld _ rfl rfl kr (ld_l (l := st2 e) kr (fun j hj => by rw [l9 j hj]; exact flat_at st2 st2_len he hj)) (L_nwc [nv 0, nv 0] .ptr rfl rfl kr fun h8 c8 t8 n8 => ?_)))))))
  replace c4 := c4.ext t8
  replace c5 := c5.ext t8
  have T8 := T7.ext t8
  have N8 := T8.nx
  obtain ⟨h9, e9, d9, t9, n9⟩ := c8.sA 91 [nv (e.1 : Int), nv (e.2 : Int)]
  replace c4 := c4.sn t9
  replace c5 := c5.sn t9
  replace c8 := d9
  have T9 := T8.tr t9
  have N9 := T9.nx
  refine L_st _ rfl rfl rfl kr kr (e9) (L_nil (W_seq ?_))
  by_cases hlt2 : (S e.1).length < e.2
  ·
   rw [if_pos hlt2] at hst
   refine W_rg 1 kr (L_ld _ rfl rfl kr (Cl.allN (n := 2) c8 rfl kr) (L_c rfl rfl kr (begin_not (H.ext T9) (X.ext T9) he1 hlt2) ?_))
   rintro v10 h10 ⟨e10, t10⟩
   try dsimp only at e10
   try dsimp only at t10
   subst e10
   replace c4 := c4.ext t10
   have T10 := T9.ext t10
   have N10 := T10.nx
   have M10 := t10.nx
   refine L_g 5 kr (L_nil (W_seq (W_sg 2 kr (L_nil ?_))))
   refine W_cond true kr (fun _ => ?_) (fun e => by cases e)
   refine W_seq (W_region (L_g 2 kr ?_))
   obtain ⟨h11, e11, d11, t11, n11⟩ := c4.sA 91 [nv 0, nv 0]
   replace c4 := d11
   have T11 := T10.tr t11
   have N11 := T11.nx
   refine L_st _ rfl rfl rfl kr kr (e11) (L_g 1 kr (L_nil (W_ret ?_)))
   repeat first | with_reducible refine then_ret ?_ | with_reducible refine blk_ret ?_
   refine done_of (.inl rfl) (evR_tct kr kr kr (u := nv 0) (w := .bool false) kr (a := ⟨h.next, 0, none⟩) kr (Cl.allN (n := 2) c4 rfl kr) kr) ?_
   rw [← hacc, hst]
   exact ⟨rfl, T11⟩
  ·
   rw [if_neg hlt2] at hst
   refine W_rg 1 kr (L_ld _ rfl rfl kr (Cl.allN (n := 2) c8 rfl kr) (L_c rfl rfl kr (begin_ok (H.ext T9) (X.ext T9) he1 (Nat.le_of_not_lt hlt2) heB) ?_))
   rintro v12 h12 ⟨e12, t12⟩
   try dsimp only at e12
   try dsimp only at t12
   subst e12
   replace c4 := c4.ext t12
   replace c5 := c5.ext t12
   replace c8 := c8.ext t12
   have T12 := T9.ext t12
   have N12 := T12.nx
   have M12 := t12.nx
   refine L_g 5 kr (L_nil (W_seq (W_sg 2 kr (L_nil ?_))))
   refine W_cond false kr (fun e => by cases e) (fun _ => ?_)
   refine W_skip (W_sg 2 kr (L_i ((bgn S e.1 e.2)) ((accA acc)) (.bool (decide (accA acc < bgn S e.1 e.2))) rfl rfl kr kr rfl (rfl) (L_nil ?_)))
   refine W_cond (decide (accA acc < bgn S e.1 e.2)) kr (fun hb => ?_) (fun hb => ?_)
   ·
    have hb2 : accA acc < bgn S e.1 e.2 := of_decide_eq_true hb
    refine W_drawn kr (D_e (e := 3) (l := [0,1,2]) (s' := []) kr kr rfl kr Rk_nil (NS_b 1 kr (NS_ld _ rfl rfl kr kr kr (Cl.allN (n := 2) c8 rfl kr) (NS_b 1 kr (NS_nil ?_)))))
    obtain ⟨h13, e13, d13, t13, n13⟩ := Cl.storeN (P := Tryz.prog) (T := 91) (n := 2) (v := .agg ⟨[nv (e.1 : Int), nv (e.2 : Int)]⟩) (cs := [nv (e.1 : Int), nv (e.2 : Int)]) c5 (accW_len _) kr rfl rfl (List.all_eq_true.1 rfl)
    replace c4 := c4.sn t13
    replace c5 := d13
    have T13 := T12.tr t13
    have N13 := T13.nx
    refine L_st _ rfl rfl rfl kr kr (e13) ?_
    refine L_nil ⟨rfl, ?_⟩
    refine D_l (l := []) kr kr Rk_nil (NS_nil (W_region (L_i ((k : Int)) (1) (nv ((k + 1 : Nat) : Int)) rfl rfl kr kr rfl (inc_ok (by omega)) (L_g 1 kr (L_nil ?_)))))
    exact ⟨l.length - (k + 1), by omega, k + 1, some (bgn S e.1 e.2, e.1, e.2), by omega, by rw [← opAcc_lt hb2, ← hacc, hst], rfl, kr, kr, kr, kr, kr, kr, kr, T13, c4, c5⟩
   ·
    have hb2 : ¬ accA acc < bgn S e.1 e.2 := of_decide_eq_false hb
    refine W_skip (W_region (L_i ((k : Int)) (1) (nv ((k + 1 : Nat) : Int)) rfl rfl kr kr rfl (inc_ok (by omega)) (L_g 1 kr (L_nil ?_))))
    exact ⟨l.length - (k + 1), by omega, k + 1, acc, by omega, by rw [← hacc, hst, opAcc_ge hb2 (g.bgn _ _).1], rfl, kr, kr, kr, kr, kr, kr, kr, T12, c4, c5⟩
 ·
  have hge : k = l.length := by simp at hb; omega
  subst hge
  rw [List.drop_length] at hacc
  rw [← hacc]
  refine W_exit ?_
  repeat with_reducible refine then_exit ?_
  refine exit_here (W_seq (W_drawn kr (D_e (e := 3) (l := [0,1,2]) (s' := []) kr kr rfl kr Rk_nil (NS_b 1 kr (NS_ld _ rfl rfl kr kr kr (Cl.allN (n := 2) c5 (accW_len _) kr) (NS_b 1 kr (NS_nil ?_)))))))
  obtain ⟨h14, e14, d14, t14, n14⟩ := Cl.storeN (P := Tryz.prog) (T := 91) (n := 2) (v := .agg ⟨(accW acc)⟩) (cs := (accW acc)) c4 rfl kr rfl (accW_len _) (by cases acc <;> exact List.all_eq_true.1 rfl)
  replace c4 := d14
  have T14 := T7.tr t14
  have N14 := T14.nx
  refine L_st _ rfl rfl rfl kr kr (e14) ?_
  refine L_nil ⟨rfl, ?_⟩
  refine D_l (l := [4]) kr kr Rk_nil (NS_b 1 kr (NS_nil (W_ret ?_)))
  repeat first | with_reducible refine then_ret ?_ | with_reducible refine blk_ret ?_
  refine done_of (.inl rfl) (evR_tct kr kr kr (u := nv (accA acc)) (w := .bool true) kr (a := ⟨h.next, 0, none⟩) kr (Cl.allN (n := 2) c4 (accW_len acc) kr) kr) ?_
  exact ⟨rfl, T14⟩
end
end Go.Proofs.YtjhbbdfbngbjcaaGreatDoor
