/- A part of the walks of profiles. -/
import Derived.Test.YtjhbbdfbngbjcaaGreatDoorYj
import Derived.Test.YtjhbbdfbngbjcaaGreatDoorYn
namespace Go.Proofs.YtjhbbdfbngbjcaaGreatDoor
noncomputable section
open Go Go.X Go.Arm
set_option maxHeartbeats 4000000 in
theorem rblame_ok {h : AH} {VL : Option Nat → Value} {N : Nat} {L : Lf} {C : TC} (I : TIn h (fun b => b < h.next) VL N L) (hL0 : ∀ p, N ≤ p → L p = []) (hB : ∀ q, (L q).length < 1000000000) (hN : N < 1000000)
  (hcap : ∀ q, q < N → ∃ a c, VL (some q) = .slice a (L q).length c ∧ (L q).length ≤ c ∧ c < open_) :
  Arm.Calls Tryz.prog 9 [VL none, .agg ⟨[nv C.s, nv C.c, nv C.r, nv C.m]⟩] h (BRes N L C h) := by
 refine Calls_W 96 Tryz.f9 ?_
 have T0 : Sm Nix h h := .refl
 refine W_seq (W_region (L_nwc [nv C.s, nv C.c, nv C.r, nv C.m] .ptr rfl rfl kr fun h288 c288 t288 n288 => ?_))
 have T288 := T0.ext t288
 have N288 := T288.nx
 refine L_g 2 kr (L_nil (W_sg 1 kr (L_ld _ rfl rfl kr (Cl.allN (n := 4) c288 rfl kr) (L_c rfl rfl kr (rtimed_ok (C := C) ((I.ext T288).mono (fun b hb _ => Nat.lt_of_lt_of_le hb T288.nx)) hL0 hB hN hcap) ?_))))
 rintro v1 hf (⟨hne, e1, t1⟩ | ⟨he, tb, F, hi, B, VS, e1, H, X, hFB, hhB, t1⟩)
 ·
  dsimp only at e1 t1
  subst e1
  have Tf := T288.ext t1
  have Nf := Tf.nx
  refine L_g 5 kr (L_nil (W_seq (W_sg 1 kr (L_i ((errT N L C)) (0) (.bool true) rfl rfl kr kr rfl (by simp [hne]) (L_nil ?_)))))
  refine W_cond true kr (fun _ => ?_) (fun e => by cases e)
  refine W_sg 3 kr (L_nil (W_ret ?_))
  repeat first | with_reducible refine then_ret ?_ | with_reducible refine blk_ret ?_
  refine done_of (v := .tuple ⟨[nilS, nv (errT N L C)]⟩) (.inl rfl) kr ?_
  exact .inl ⟨hne, rfl, Tf⟩
 ·
  dsimp only at H X
  dsimp only at e1 t1
  subst e1
  have Tf := T288.ext t1
  have Nf := Tf.nx
  have Vf : Sm Nix hf hf := .refl
  have G := errT_ok hL0 he
  have D := G.d
  have A : Bn N L C := ⟨G.n1, G.len, G.c, D.l⟩
  have hcl := H.cl
  rw [X.b] at hcl
  have hXB := X.Bl
  have hXn := X.hn
  have hB9 : ∀ q, (L q).length < 1000000000 := hB
  have hN9 : N < 1000000000 := by omega
  refine L_g 5 kr (L_nil (W_seq (W_sg 1 kr (L_i (0) (0) (.bool false) rfl rfl kr kr rfl (rfl) (L_nil ?_)))))
  refine W_cond false kr (fun e => by cases e) (fun _ => ?_)
  refine W_skip (W_sg 1 kr (L_ln _ rfl rfl kr ((I.ext Tf).len (T := 22) (el := 27) kr) (L_nwc (zrep N [nv 0]) (.sl N N) rfl rfl (ev_mkK (P := Tryz.prog) (k := 1) (el := 3) (z := nv 0) (by_ := 8) kr kr kr kr rfl (by omega) kr kr) fun h291 c291 t291 n291 => ?_)))
  have T291 := Tf.ext t291
  have V291 := Vf.ext t291
  have N291 := T291.nx
  have NV291 := V291.nx
  refine L_g 1 kr (L_nil (W_seq (W_sg 1 kr (L_nil (W_block ?_)))))
  refine W_loop (fun mm fr hh => ∃ (p : Nat), (p ≤ N) ∧ (Sm Nix hf hh) ∧ mm = N - p ∧ fr 0 = VL none ∧ fr 6 = ptr tb ∧ fr 8 = .slice (some ⟨hf.next, 0, none⟩) N N ∧ fr 9 = nv (p : Int) ∧ Sm Nix h hh ∧ Cl hh (hf.next) ((blmA N L (timesS N L C) p).map nv)) (N) ?_ ?_
  ·
   rw [zrep_one] at c291
   exact ⟨0, Nat.zero_le _, V291, rfl, kr, kr, kr, kr, T291, c291⟩
  rintro mm292 fr292 h292 ⟨p, hp, Vp, hm292, y292_0, y292_6, y292_8, y292_9, T292, c291⟩
  have N292 := T292.nx
  have B292_t26 := c291.lt
  refine W_set (k := 0) y292_0 (W_set (k := 6) y292_6 (W_set (k := 8) y292_8 (W_set (k := 9) y292_9 (W_seq (W_sg 2 kr (L_ln _ rfl rfl kr ((I.ext T292).len (T := 22) (el := 27) kr) (L_g 1 kr (L_nil ?_))))))))
  refine W_cond (decide ((p : Int) < (N : Nat))) kr (fun hb => ?_) (fun hb => ?_)
  ·
   have hlt : p < N := by simp at hb; omega
   have hSl := D.d p
   have hLl := A.all p
   refine W_skip (W_seq (W_block (W_sg 1 kr (L_nil (W_block ?_)))))
   refine W_loop (fun mm fr hh => ∃ (i : Nat), (i ≤ ((timesS N L C) p).length) ∧ (Sm Nix hf hh) ∧ mm = ((timesS N L C) p).length - i ∧ fr 0 = VL none ∧ fr 6 = ptr tb ∧ fr 8 = .slice (some ⟨hf.next, 0, none⟩) N N ∧ fr 9 = nv (p : Int) ∧ fr 10 = nv (i : Int) ∧ Sm Nix h hh ∧ Cl hh (hf.next) ((blm1 N L (timesS N L C) p (blmA N L (timesS N L C) p) i).map nv)) (((timesS N L C) p).length) ?_ ?_
   ·
    exact ⟨0, Nat.zero_le _, Vp, rfl, kr, kr, kr, kr, kr, T292, c291⟩
   rintro mm293 fr293 h293 ⟨i, hil, Vi, hm293, y293_0, y293_6, y293_8, y293_9, y293_10, T293, c291⟩
   have N293 := T293.nx
   have B293_t26 := c291.lt
   refine W_set (k := 0) y293_0 (W_set (k := 6) y293_6 (W_set (k := 8) y293_8 (W_set (k := 9) y293_9 (W_set (k := 10) y293_10 (W_seq (W_seq (W_region (L_g 3 kr ?_))))))))
   obtain ⟨b5, o5, i5, l5⟩ := (I.ext T293).row (T := 22) (el := 27) kr kr kr hlt
   refine L_ix _ rfl rfl kr kr (i5) (L_ld _ rfl rfl kr ((I.ext T293).rowLd (T := 22) (el := 27) kr kr kr hlt i5) (L_ln _ rfl rfl kr ((I.ext T293).lenR (T := 27) (el := 83) kr hlt) (L_g 1 kr (L_nil ?_))))
   refine W_cond (decide ((i : Int) < ((L p).length : Nat))) kr (fun hb => ?_) (fun hb => ?_)
   ·
    have hlt2 : i < ((timesS N L C) p).length := by simp at hb; omega
    obtain ⟨x, s, hx, hs, hok, hpN, hc⟩ := D.at hlt2
    have hbl : ((blm1 N L (timesS N L C) p (blmA N L (timesS N L C) p) i)).length = N := by rw [blm1_len, blmA_len]
    refine W_skip (W_seq (W_block (W_sg 3 kr (L_ld _ rfl rfl kr ((hcl.ext Vi).ld (o := 5) kr rfl) (L_g 1 kr ?_)))))
    obtain ⟨b1, o1, i1, l1⟩ := (X.ext Vi).row (T := 39) (el := 52) kr kr kr hlt
    rw [X.b] at i1
    refine L_ix _ rfl rfl kr kr (i1) (L_ld _ rfl rfl kr (l1) (L_g 1 kr ?_))
    obtain ⟨b2, o2, i2, l2⟩ := (X.ext Vi).sp (T := 52) (el := 56) kr kr hs
    refine L_ix _ rfl rfl kr kr (i2) (L_ld _ rfl rfl kr (ld_l (l := sp4 s) kr l2) (L_nwc [nv 0, nv 0, nv 0, nv 0] .ptr rfl rfl kr fun h294 c294 t294 n294 => ?_))
    replace c291 := c291.ext t294
    have T294 := T293.ext t294
    have V294 := Vi.ext t294
    have N294 := T294.nx
    have NV294 := V294.nx
    obtain ⟨h295, e295, d295, t295, n295⟩ := Cl.storeN (P := Tryz.prog) (T := 56) (n := 4) (v := .agg ⟨(sp4 s)⟩) (cs := (sp4 s)) c294 rfl kr rfl (by first | exact sp4_len _) (List.all_eq_true.1 rfl)
    replace c291 := c291.sn t295
    replace c294 := d295
    have T295 := T294.tr t295
    have V295 := V294.tr t295
    have N295 := T295.nx
    have NV295 := V295.nx
    refine L_st _ rfl rfl rfl kr kr (e295) (L_nil (W_sg 1 kr (L_ld _ rfl rfl kr (c294.ld (o := 3) kr rfl) (L_nil (W_block (W_seq (W_region (L_i (s.y) (1) (.bool (decide (s.y = 1))) rfl rfl kr kr rfl (rfl) (L_g 1 kr ?_)))))))))
    refine L_nil ?_
    refine W_cond (decide (s.y = 1)) kr (fun hb => ?_) (fun hb => ?_)
    ·
     have h1 : s.y = 1 := of_decide_eq_true hb
     have hc1 : ∃ q j : Nat, x.p = (q : Int) ∧ q < N ∧ fnd (L q) 1 p x.n = some j ∧ j < ((timesS N L C) q).length := by rcases hc with ⟨h0, _⟩ | ⟨_, _, h⟩ | ⟨h2, _⟩ <;> first | exact h | omega
     obtain ⟨q, j, hq, hqN, hj, hjl⟩ := hc1
     have ho : (owner N L (timesS N L C) (p, i)) = (q, j) := by
      unfold owner
      dsimp only
      rw [hx, hs]
      dsimp only
      rw [if_pos h1, hq]
      simp only [Int.toNat_natCast]
      rw [hj]; rfl
     refine W_drawn kr (D_e (e := 15) (l := [0,1,2,3,4,5,6,7,8,9,10,11,12,13,14]) (s' := []) kr kr rfl kr Rk_nil (NS_b 3 kr ?_))
     obtain ⟨b5, o5, i5, l5⟩ := (I.ext T295).row (T := 22) (el := 27) kr kr kr hlt
     refine NS_ix _ rfl rfl kr kr kr kr (i5) (NS_ld _ rfl rfl kr kr kr ((I.ext T295).rowLd (T := 22) (el := 27) kr kr kr hlt i5) (NS_b 1 kr ?_))
     obtain ⟨b6, o6, i6, l6⟩ := (I.ext T295).ev (T := 27) (el := 83) kr kr hlt hx
     refine NS_ix _ rfl rfl kr kr kr kr (i6) (NS_b 1 kr (NS_ld _ rfl rfl kr kr kr (ld_cell kr ((I.ext T295).evCell (T := 27) (el := 83) kr kr hlt hx i6 (j := 1) (by decide))) (NS_ix _ rfl rfl kr kr kr kr (ix_z (b := hf.next) (el := 3) (n := N) kr kr hq hqN .i64) (NS_ld _ rfl rfl kr kr kr (c291.ld (o := q) kr (blm_at hbl hqN)) (NS_b 1 kr (NS_ld _ rfl rfl kr kr kr (c294.ld (o := 2) kr rfl) (NS_i ((((blm1 N L (timesS N L C) p (blmA N L (timesS N L C) p) i))[q]?.getD 0)) (s.w) (nv (wrp (((blm1 N L (timesS N L C) p (blmA N L (timesS N L C) p) i))[q]?.getD 0 + s.w))) rfl rfl kr kr kr kr rfl (rfl) (NS_ix _ rfl rfl kr kr kr kr (ix_z (b := hf.next) (el := 3) (n := N) kr kr hq hqN .i64) (NS_nil ?_)))))))))
     obtain ⟨h296, e296, d296, t296, n296⟩ := c291.store (P := Tryz.prog) (T := 3) (o := q) (v := nv (wrp (((blm1 N L (timesS N L C) p (blmA N L (timesS N L C) p) i))[q]?.getD 0 + s.w))) kr rfl rfl (by rw [List.length_map, hbl]; omega)
     rw [blm_set, show q = (owner N L (timesS N L C) (p, i)).1 by rw [ho], ← blm1_step hs] at d296
     replace c291 := d296
     have T296 := T295.tr t296
     have V296 := V295.tr t296
     have N296 := T296.nx
     have NV296 := V296.nx
     refine L_st _ rfl rfl rfl kr kr (e296) ?_
     refine L_nil ⟨rfl, ?_⟩
     refine D_l (l := []) kr kr Rk_nil (NS_nil (W_rg 1 kr (L_i ((i : Int)) (1) (nv ((i + 1 : Nat) : Int)) rfl rfl kr kr rfl (inc_ok (by omega)) (L_g 1 kr (L_nil ?_)))))
     exact ⟨((timesS N L C) p).length - (i + 1), by omega, i + 1, by omega, V296, rfl, kr, kr, kr, kr, kr, T296, c291⟩
    ·
     have h1 : ¬ s.y = 1 := of_decide_eq_false hb
     refine W_seq (W_region (L_i (s.y) (2) (.bool (decide (s.y = 2))) rfl rfl kr kr rfl (rfl) (L_g 1 kr (L_nil ?_))))
     refine W_cond (decide (s.y = 2)) kr (fun hb => ?_) (fun hb => ?_)
     ·
      have h2 : s.y = 2 := of_decide_eq_true hb
      have hc2 : ∃ c, opn L (timesS N L C) x.n N = some (some c) ∧ c.2.1 < N ∧ c.2.2 < ((timesS N L C) c.2.1).length := by rcases hc with ⟨h0, _⟩ | ⟨h1, _⟩ | ⟨_, _, h⟩ <;> first | exact h | omega
      obtain ⟨c, hcn, hcN, hcl2⟩ := hc2
      have ho : (owner N L (timesS N L C) (p, i)) = (c.2.1, c.2.2) := by
       unfold owner
       dsimp only
       rw [hx, hs]
       dsimp only
       rw [if_neg h1, if_pos h2, hcn]
      have hor : opR (opn L (timesS N L C) x.n N) = .tuple ⟨[nv c.1, nv (c.2.1 : Int), .bool true]⟩ := by rw [hcn]; rfl
      refine W_seq (W_region (L_g 3 kr ?_))
      obtain ⟨b5, o5, i5, l5⟩ := (I.ext T295).row (T := 22) (el := 27) kr kr kr hlt
      refine L_ix _ rfl rfl kr kr (i5) (L_ld _ rfl rfl kr ((I.ext T295).rowLd (T := 22) (el := 27) kr kr kr hlt i5) (L_g 1 kr ?_))
      obtain ⟨b6, o6, i6, l6⟩ := (I.ext T295).ev (T := 27) (el := 83) kr kr hlt hx
      refine L_ix _ rfl rfl kr kr (i6) (L_g 1 kr (L_ld _ rfl rfl kr (ld_cell kr ((I.ext T295).evCell (T := 27) (el := 83) kr kr hlt hx i6 (j := 3) (by decide))) (L_c rfl rfl kr (hor ▸ ropen_ok (no := x.n) (H.ext V295) (X.ext V295) D.g hB9 hN9) ?_)))
      rintro v297 h297 ⟨e297, t297⟩
      try dsimp only at e297
      try dsimp only at t297
      subst e297
      replace c291 := c291.ext t297
      replace c294 := c294.ext t297
      have T297 := T295.ext t297
      have V297 := V295.ext t297
      have N297 := T297.nx
      have NV297 := V297.nx
      have M297 := t297.nx
      refine L_g 7 kr (L_nil (W_drawn kr (D_e (e := 8) (l := [0,1,2,3,4,5,6,7]) (s' := []) kr kr rfl kr Rk_nil (NS_b 2 kr (NS_ix _ rfl rfl kr kr kr kr (ix_cl (b := hf.next) (el := 3) (n := N) (i := c.2.1) kr kr hcN .i64) (NS_ld _ rfl rfl kr kr kr (c291.ld (o := c.2.1) kr (blm_at hbl hcN)) (NS_b 1 kr (NS_ld _ rfl rfl kr kr kr (c294.ld (o := 2) kr rfl) (NS_i ((((blm1 N L (timesS N L C) p (blmA N L (timesS N L C) p) i))[c.2.1]?.getD 0)) (s.w) (nv (wrp (((blm1 N L (timesS N L C) p (blmA N L (timesS N L C) p) i))[c.2.1]?.getD 0 + s.w))) rfl rfl kr kr kr kr rfl (rfl) (NS_ix _ rfl rfl kr kr kr kr (ix_cl (b := hf.next) (el := 3) (n := N) (i := c.2.1) kr kr hcN .i64) (NS_nil ?_)))))))))))
      obtain ⟨h298, e298, d298, t298, n298⟩ := c291.store (P := Tryz.prog) (T := 3) (o := c.2.1) (v := nv (wrp (((blm1 N L (timesS N L C) p (blmA N L (timesS N L C) p) i))[c.2.1]?.getD 0 + s.w))) kr rfl rfl (by rw [List.length_map, hbl]; omega)
      rw [blm_set, show c.2.1 = (owner N L (timesS N L C) (p, i)).1 by rw [ho], ← blm1_step hs] at d298
      replace c291 := d298
      have T298 := T297.tr t298
      have V298 := V297.tr t298
      have N298 := T298.nx
      have NV298 := V298.nx
      refine L_st _ rfl rfl rfl kr kr (e298) ?_
      refine L_nil ⟨rfl, ?_⟩
      refine D_l (l := []) kr kr Rk_nil (NS_nil (W_rg 1 kr (L_i ((i : Int)) (1) (nv ((i + 1 : Nat) : Int)) rfl rfl kr kr rfl (inc_ok (by omega)) (L_g 1 kr (L_nil ?_)))))
      exact ⟨((timesS N L C) p).length - (i + 1), by omega, i + 1, by omega, V298, rfl, kr, kr, kr, kr, kr, T298, c291⟩
     ·
      have h2 : ¬ s.y = 2 := of_decide_eq_false hb
      have hw0 : s.w = 0 := by rcases hc with ⟨_, h⟩ | ⟨h, _⟩ | ⟨h, _⟩ <;> first | exact h | omega
      have hno : blm1 N L (timesS N L C) p (blmA N L (timesS N L C) p) (i + 1) = (blm1 N L (timesS N L C) p (blmA N L (timesS N L C) p) i) := by rw [blm1_step hs, hw0, addAt_0 (blm1_in (blmA_in p) p i)]
      refine W_skip (W_rg 1 kr (L_i ((i : Int)) (1) (nv ((i + 1 : Nat) : Int)) rfl rfl kr kr rfl (inc_ok (by omega)) (L_g 1 kr (L_nil ?_))))
      rw [← hno] at c291
      exact ⟨((timesS N L C) p).length - (i + 1), by omega, i + 1, by omega, V295, rfl, kr, kr, kr, kr, kr, T295, c291⟩
   ·
    have hge2 : i = ((timesS N L C) p).length := by simp at hb; omega
    refine W_exit ?_
    repeat with_reducible refine then_exit ?_
    refine exit_here (W_rg 1 kr (L_i ((p : Int)) (1) (nv ((p + 1 : Nat) : Int)) rfl rfl kr kr rfl (inc_ok (by omega)) (L_g 1 kr (L_nil ?_))))
    rw [hge2] at c291
    exact ⟨N - (p + 1), by omega, p + 1, by omega, Vi, rfl, kr, kr, kr, kr, T293, c291⟩
  ·
   have hge : N = p := by simp at hb; omega
   subst hge
   refine W_exit ?_
   repeat with_reducible refine then_exit ?_
   refine exit_here (W_sg 3 kr (L_nil (W_ret ?_)))
   repeat first | with_reducible refine then_ret ?_ | with_reducible refine blk_ret ?_
   refine done_of (v := .tuple ⟨[.slice (some ⟨hf.next, 0, none⟩) N N, nv 0]⟩) (.inl rfl) kr ?_
   exact .inr ⟨he, _, rfl, Cl.sd c291 (by rw [List.length_map, blmA_len]), T292⟩
end
end Go.Proofs.YtjhbbdfbngbjcaaGreatDoor
