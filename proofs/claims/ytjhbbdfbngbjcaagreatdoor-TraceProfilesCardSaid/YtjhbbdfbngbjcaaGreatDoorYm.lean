/- A part of the walks of profiles. -/
import Derived.Test.YtjhbbdfbngbjcaaGreatDoorYj
import Derived.Test.YtjhbbdfbngbjcaaGreatDoorYl
namespace Go.Proofs.YtjhbbdfbngbjcaaGreatDoor
noncomputable section
open Go Go.X Go.Arm
set_option maxHeartbeats 8000000 in
theorem rprofile_ok {h : AH} {VL : Option Nat → Value} {N : Nat} {L : Lf} {C : TC} (I : TIn h (fun b => b < h.next) VL N L) (hL0 : ∀ p, N ≤ p → L p = []) (hB : ∀ q, (L q).length < 1000000000) (hN : N < 1000000)
  (hcap : ∀ q, q < N → ∃ a c, VL (some q) = .slice a (L q).length c ∧ (L q).length ≤ c ∧ c < open_) :
  Arm.Calls Tryz.prog 7 [VL none, .agg ⟨[nv C.s, nv C.c, nv C.r, nv C.m]⟩] h (PRes N L C h) := by
 refine Calls_W 126 Tryz.f7 ?_
 have T0 : Sm Nix h h := .refl
 refine W_seq (W_region (L_nwc [nv C.s, nv C.c, nv C.r, nv C.m] .ptr rfl rfl kr fun h257 c257 t257 n257 => ?_))
 have T257 := T0.ext t257
 have N257 := T257.nx
 refine L_nwc [.slice none 0 0, nv 0, .slice none 0 0, .slice none 0 0] .ptr rfl rfl kr fun h258 c258 t258 n258 => ?_
 replace c257 := c257.ext t258
 have T258 := T257.ext t258
 have N258 := T258.nx
 refine L_g 1 kr (L_nil (W_sg 1 kr (L_ld _ rfl rfl kr (Cl.allN (n := 4) c257 rfl kr) (L_c rfl rfl kr (rtimed_ok (C := C) ((I.ext T258).mono (fun b hb _ => Nat.lt_of_lt_of_le hb T258.nx)) hL0 hB hN hcap) ?_))))
 rintro v1 hf (⟨hne, e1, t1⟩ | ⟨he, tb, F, hi, B, VS, e1, H, X, hFB, hhB, t1⟩)
 ·
  dsimp only at e1 t1
  subst e1
  replace c258 := c258.ext t1
  have Tf := T258.ext t1
  have Nf := Tf.nx
  refine L_g 5 kr (L_nil (W_seq (W_sg 1 kr (L_i ((errT N L C)) (0) (.bool true) rfl rfl kr kr rfl (by simp [hne]) (L_nil ?_)))))
  refine W_cond true kr (fun _ => ?_) (fun e => by cases e)
  refine W_seq (W_region (L_g 2 kr ?_))
  obtain ⟨h260, e260, d260, t260, n260⟩ := c258.sA 42 [.slice none 0 0, nv 0, .slice none 0 0, .slice none 0 0]
  replace c258 := d260
  have T260 := Tf.tr t260
  have N260 := T260.nx
  refine L_st _ rfl rfl rfl kr kr (e260) (L_g 1 kr (L_nil (W_ret ?_)))
  repeat first | with_reducible refine then_ret ?_ | with_reducible refine blk_ret ?_
  refine done_of (.inl rfl) (evR_ct kr kr kr (Cl.allN (n := 4) c258 rfl kr) (w := nv (errT N L C)) kr) ?_
  exact .inl ⟨hne, rfl, T260⟩
 ·
  dsimp only at H X
  dsimp only at e1 t1
  subst e1
  replace c258 := c258.ext t1
  have Tf := T258.ext t1
  have Nf := Tf.nx
  have Vf : Sm Nix hf hf := .refl
  have G := errT_ok hL0 he
  have D := G.d
  have A : Bn N L C := ⟨G.n1, G.len, G.c, D.l⟩
  have hcl := H.cl
  rw [X.b] at hcl
  have hXB := X.Bl
  have hXn := X.hn
  refine L_g 5 kr (L_nil (W_seq (W_sg 1 kr (L_i (0) (0) (.bool false) rfl rfl kr kr rfl (rfl) (L_nil ?_)))))
  refine W_cond false kr (fun e => by cases e) (fun _ => ?_)
  refine W_skip (W_seq (W_drawn kr (D_e (e := 9) (l := [0,1,2,3,4,5,6,7,8]) (s' := []) kr kr rfl kr Rk_nil (NS_b 3 kr (NS_ld _ rfl rfl kr kr kr ((hcl.ext Vf).ld (o := 5) kr rfl) (NS_b 1 kr (NS_ln _ rfl rfl kr kr kr ((I.ext Tf).len (T := 22) (el := 27) kr) (NS_nwc (zrep N [nv 0, nv 0]) (.sl N N) rfl kr rfl rfl (ev_mkK (P := Tryz.prog) (k := 2) (el := 53) (z := (.agg ⟨[nv 0, nv 0]⟩)) (by_ := 16) kr kr kr kr rfl (by omega) kr kr) (Rk_1 rfl rfl (Rk_1 rfl rfl (Rk_1 rfl rfl (Rk_ld _ rfl rfl rfl kr ((hcl.ext (Vf.ext (.push hf _))).ld (o := 5) kr rfl) kr (Rk_1 rfl rfl (Rk_ln _ rfl rfl rfl kr ((I.ext (Tf.ext (.push hf _))).len (T := 22) (el := 27) kr) kr (Rk_1 rfl rfl Rk_nil))))))) fun h262 c262 t262 n262 => ?_))))))))
  replace c258 := c258.ext t262
  have T262 := Tf.ext t262
  have V262 := Vf.ext t262
  have N262 := T262.nx
  have NV262 := V262.nx
  refine NS_b 1 kr (NS_nwc [.slice none 0 0, nv 0, .slice none 0 0, .slice none 0 0] .ptr rfl kr rfl rfl kr (Rk_1 rfl rfl (Rk_1 rfl rfl (Rk_1 rfl rfl (Rk_ld _ rfl rfl rfl kr ((hcl.ext (V262.ext (.push h262 _))).ld (o := 5) kr rfl) kr (Rk_1 rfl rfl (Rk_ln _ rfl rfl rfl kr ((I.ext (T262.ext (.push h262 _))).len (T := 22) (el := 27) kr) kr (Rk_1 rfl rfl (Rk_1 rfl rfl (Rk_1 rfl rfl Rk_nil))))))))) fun h263 c263 t263 n263 => ?_)
  replace c258 := c258.ext t263
  replace c262 := c262.ext t263
  have T263 := T262.ext t263
  have V263 := V262.ext t263
  have N263 := T263.nx
  have NV263 := V263.nx
  refine NS_nil ?_
  obtain ⟨h264, e264, d264, t264, n264⟩ := c263.sA 42 [.slice (some ⟨B, 0, none⟩) N N, nv 0, .slice none 0 0, .slice (some ⟨hf.next, 0, none⟩) N N]
  replace c258 := c258.sn t264
  replace c262 := c262.sn t264
  replace c263 := d264
  have T264 := T263.tr t264
  have V264 := V263.tr t264
  have N264 := T264.nx
  have NV264 := V264.nx
  refine L_st _ rfl rfl rfl kr kr (e264) ?_
  refine L_nil ⟨rfl, ?_⟩
  refine D_l (l := []) kr kr Rk_nil (NS_nil (W_sg 1 kr (L_nil (W_seq (W_sg 1 kr (L_nil (W_block ?_)))))))
  refine W_loop (fun mm fr hh => ∃ (p : Nat), (p ≤ N) ∧ (Sm Nix hf hh) ∧ mm = N - p ∧ fr 0 = VL none ∧ fr 4 = ptr h257.next ∧ fr 6 = ptr tb ∧ fr 8 = ptr h262.next ∧ fr 9 = nv (fst0 (lastT (timesS N L C) p)) ∧ fr 10 = nv (p : Int) ∧ Sm Nix h hh ∧ Cl hh (h257.next) [.slice none 0 0, nv 0, .slice none 0 0, .slice none 0 0] ∧ Cl hh (h262.next) [.slice (some ⟨B, 0, none⟩) N N, nv (endV (lastT (timesS N L C) p)), .slice none 0 0, .slice (some ⟨hf.next, 0, none⟩) N N] ∧ Cl hh (hf.next) (wV N (timesS N L C) p (0, 0))) (N) ?_ ?_
  ·
   rw [wV_0 N (timesS N L C)] at c262
   exact ⟨0, Nat.zero_le _, V264, rfl, kr, kr, kr, kr, kr, kr, T264, c258, c263, c262⟩
  rintro mm265 fr265 h265 ⟨p, hp, Vp, hm265, y265_0, y265_4, y265_6, y265_8, y265_9, y265_10, T265, c258, c263, c262⟩
  have N265 := T265.nx
  have B265_t4 := c258.lt
  have B265_t8 := c263.lt
  have B265_t31 := c262.lt
  refine W_set (k := 0) y265_0 (W_set (k := 4) y265_4 (W_set (k := 6) y265_6 (W_set (k := 8) y265_8 (W_set (k := 9) y265_9 (W_set (k := 10) y265_10 (W_seq (W_sg 2 kr (L_ln _ rfl rfl kr ((I.ext T265).len (T := 22) (el := 27) kr) (L_g 1 kr ?_)))))))))
  refine L_nil ?_
  refine W_cond (decide ((p : Int) < (N : Nat))) kr (fun hb => ?_) (fun hb => ?_)
  ·
   have hlt : p < N := by simp at hb; omega
   have hSl := D.d p
   have hLl := A.all p
   refine W_skip (W_seq (W_block (W_seq (W_sg 1 kr (L_nil (W_block ?_))))))
   refine W_loop (fun mm fr hh => ∃ (i : Nat), (i ≤ ((timesS N L C) p).length) ∧ (Sm Nix hf hh) ∧ mm = ((timesS N L C) p).length - i ∧ fr 0 = VL none ∧ fr 4 = ptr h257.next ∧ fr 6 = ptr tb ∧ fr 8 = ptr h262.next ∧ fr 9 = nv (fst0 (lastT (timesS N L C) p)) ∧ fr 10 = nv (p : Int) ∧ fr 11 = nv (i : Int) ∧ Sm Nix h hh ∧ Cl hh (h257.next) [.slice none 0 0, nv 0, .slice none 0 0, .slice none 0 0] ∧ Cl hh (h262.next) [.slice (some ⟨B, 0, none⟩) N N, nv (endV (lastT (timesS N L C) p)), .slice none 0 0, .slice (some ⟨hf.next, 0, none⟩) N N] ∧ Cl hh (hf.next) (wV N (timesS N L C) p (waitsI ((timesS N L C) p) i))) (((timesS N L C) p).length) ?_ ?_
   ·
    exact ⟨0, Nat.zero_le _, Vp, rfl, kr, kr, kr, kr, kr, kr, kr, T265, c258, c263, c262⟩
   rintro mm266 fr266 h266 ⟨i, hil, Vi, hm266, y266_0, y266_4, y266_6, y266_8, y266_9, y266_10, y266_11, T266, c258, c263, c262⟩
   have N266 := T266.nx
   have B266_t4 := c258.lt
   have B266_t8 := c263.lt
   have B266_t31 := c262.lt
   refine W_set (k := 0) y266_0 (W_set (k := 4) y266_4 (W_set (k := 6) y266_6 (W_set (k := 8) y266_8 (W_set (k := 9) y266_9 (W_set (k := 10) y266_10 (W_set (k := 11) y266_11 (W_seq (W_sg 4 kr (L_ld _ rfl rfl kr ((hcl.ext Vi).ld (o := 5) kr rfl) ?_)))))))))
   refine L_g 1 kr ?_
   obtain ⟨b1, o1, i1, l1⟩ := (X.ext Vi).row (T := 39) (el := 52) kr kr kr hlt
   rw [X.b] at i1
   refine L_ix _ rfl rfl kr kr (i1) (L_ld _ rfl rfl kr (l1) (L_ln _ rfl rfl kr ((X.ext Vi).lenR (T := 52) (el := 56) kr p) (L_g 1 kr (L_nil ?_))))
   refine W_cond (decide ((i : Int) < (((timesS N L C) p).length : Nat))) kr (fun hb => ?_) (fun hb => ?_)
   ·
    have hlt2 : i < ((timesS N L C) p).length := by simp at hb; omega
    obtain ⟨s, hs⟩ : ∃ s, ((timesS N L C) p)[i]? = some s := ⟨_, List.getElem?_eq_getElem hlt2⟩
    obtain ⟨x, s', hx, hs', hok, hpN, hc⟩ := D.at hlt2
    rw [hs] at hs'
    cases hs'
    refine W_skip (W_seq (W_block (W_sg 3 kr (L_ld _ rfl rfl kr ((hcl.ext Vi).ld (o := 5) kr rfl) (L_g 1 kr ?_)))))
    obtain ⟨b1, o1, i1, l1⟩ := (X.ext Vi).row (T := 39) (el := 52) kr kr kr hlt
    rw [X.b] at i1
    refine L_ix _ rfl rfl kr kr (i1) (L_ld _ rfl rfl kr (l1) (L_g 1 kr ?_))
    obtain ⟨b2, o2, i2, l2⟩ := (X.ext Vi).sp (T := 52) (el := 56) kr kr hs
    refine L_ix _ rfl rfl kr kr (i2) (L_ld _ rfl rfl kr (ld_l (l := sp4 s) kr l2) (L_nwc [nv 0, nv 0, nv 0, nv 0] .ptr rfl rfl kr fun h267 c267 t267 n267 => ?_))
    replace c258 := c258.ext t267
    replace c263 := c263.ext t267
    replace c262 := c262.ext t267
    have T267 := T266.ext t267
    have V267 := Vi.ext t267
    have N267 := T267.nx
    have NV267 := V267.nx
    obtain ⟨h268, e268, d268, t268, n268⟩ := Cl.storeN (P := Tryz.prog) (T := 56) (n := 4) (v := .agg ⟨(sp4 s)⟩) (cs := (sp4 s)) c267 rfl kr rfl (by first | exact h9l | exact sp4_len _) (List.all_eq_true.1 rfl)
    replace c258 := c258.sn t268
    replace c263 := c263.sn t268
    replace c262 := c262.sn t268
    replace c267 := d268
    have T268 := T267.tr t268
    have V268 := V267.tr t268
    have N268 := T268.nx
    have NV268 := V268.nx
    refine L_st _ rfl rfl rfl kr kr (e268) (L_nil (W_sg 1 kr (L_ld _ rfl rfl kr (c267.ld (o := 3) kr rfl) (L_i (s.y) (0) (.bool (decide (0 < s.y))) rfl rfl kr kr rfl (rfl) (L_nil ?_)))))
    refine W_cond (decide (0 < s.y)) kr (fun hb => ?_) (fun hb => ?_)
    ·
      have hy0 : 0 < s.y := of_decide_eq_true hb
      have hy12 : s.y = 1 ∨ s.y = 2 := by rcases hc with ⟨h0, _⟩ | ⟨h1, _⟩ | ⟨h2, _⟩ <;> omega
      rcases hy12 with hy | hy
      ·
        have hw : waitsI ((timesS N L C) p) (i + 1) = (wrp ((waitsI ((timesS N L C) p) i).1 + s.w), (waitsI ((timesS N L C) p) i).2) := by rw [waitsI_step hs]; unfold wStep; rw [if_pos hy]
        refine W_drawn kr (D_e (e := 14) (l := [0,1,2,3,4,5,6,7,8,9,10,11,12,13]) (s' := []) kr kr rfl kr Rk_nil (NS_b 1 kr (NS_ld _ rfl rfl kr kr kr (c263.ld (o := 3) kr rfl) (NS_b 2 kr (NS_ld _ rfl rfl kr kr kr (c267.ld (o := 3) kr rfl) (NS_i (s.y) (1) (nv 0) rfl rfl kr kr kr kr rfl (by rw [hy]; rfl) (NS_ix _ rfl rfl kr kr kr kr (ix_clK (b := hf.next) (k := 2) (el := 53) (n := N) kr kr hlt .i64) (NS_ix _ rfl rfl kr kr kr kr (ix_arr (b := hf.next) (o := p * 2) (j := 0) (n := 2) (el := 3) kr kr (by decide) .i64) (NS_ld _ rfl rfl kr kr kr (c262.ld (o := p * 2 + 0) kr (wV_at (j := 0) hlt (by decide))) (NS_b 1 kr (NS_ld _ rfl rfl kr kr kr (c267.ld (o := 2) kr rfl) ?_)))))))))))
        refine NS_i ((waitsI ((timesS N L C) p) i).1) (s.w) (nv (wrp ((waitsI ((timesS N L C) p) i).1 + s.w))) rfl rfl kr kr kr kr rfl (rfl) (NS_ix _ rfl rfl kr kr kr kr (ix_clK (b := hf.next) (k := 2) (el := 53) (n := N) kr kr hlt .i64) (NS_ix _ rfl rfl kr kr kr kr (ix_arr (b := hf.next) (o := p * 2) (j := 0) (n := 2) (el := 3) kr kr (by decide) .i64) (NS_nil ?_)))
        obtain ⟨h269, e269, d269, t269, n269⟩ := c262.store (P := Tryz.prog) (T := 3) (o := p * 2 + 0) (v := nv (wrp ((waitsI ((timesS N L C) p) i).1 + s.w))) kr rfl rfl (by rw [wV_len]; omega)
        rw [wV_set (a' := (wrp ((waitsI ((timesS N L C) p) i).1 + s.w), (waitsI ((timesS N L C) p) i).2)) hlt (by decide) rfl rfl, ← hw] at d269
        replace c258 := c258.sn t269
        replace c263 := c263.sn t269
        replace c262 := d269
        have T269 := T268.tr t269
        have V269 := V268.tr t269
        have N269 := T269.nx
        have NV269 := V269.nx
        refine L_st _ rfl rfl rfl kr kr (e269) ?_
        refine L_nil ⟨rfl, ?_⟩
        refine D_l (l := []) kr kr Rk_nil (NS_nil (W_rg 1 kr (L_i ((i : Int)) (1) (nv ((i + 1 : Nat) : Int)) rfl rfl kr kr rfl (inc_ok (by omega)) (L_g 1 kr (L_nil ?_)))))
        exact ⟨((timesS N L C) p).length - (i + 1), by omega, i + 1, by omega, V269, rfl, kr, kr, kr, kr, kr, kr, kr, T269, c258, c263, c262⟩
      ·
        have hw : waitsI ((timesS N L C) p) (i + 1) = ((waitsI ((timesS N L C) p) i).1, wrp ((waitsI ((timesS N L C) p) i).2 + s.w)) := by rw [waitsI_step hs]; unfold wStep; rw [if_neg (by omega), if_pos hy]
        refine W_drawn kr (D_e (e := 14) (l := [0,1,2,3,4,5,6,7,8,9,10,11,12,13]) (s' := []) kr kr rfl kr Rk_nil (NS_b 1 kr (NS_ld _ rfl rfl kr kr kr (c263.ld (o := 3) kr rfl) (NS_b 2 kr (NS_ld _ rfl rfl kr kr kr (c267.ld (o := 3) kr rfl) (NS_i (s.y) (1) (nv 1) rfl rfl kr kr kr kr rfl (by rw [hy]; rfl) (NS_ix _ rfl rfl kr kr kr kr (ix_clK (b := hf.next) (k := 2) (el := 53) (n := N) kr kr hlt .i64) (NS_ix _ rfl rfl kr kr kr kr (ix_arr (b := hf.next) (o := p * 2) (j := 1) (n := 2) (el := 3) kr kr (by decide) .i64) (NS_ld _ rfl rfl kr kr kr (c262.ld (o := p * 2 + 1) kr (wV_at (j := 1) hlt (by decide))) (NS_b 1 kr (NS_ld _ rfl rfl kr kr kr (c267.ld (o := 2) kr rfl) ?_)))))))))))
        refine NS_i ((waitsI ((timesS N L C) p) i).2) (s.w) (nv (wrp ((waitsI ((timesS N L C) p) i).2 + s.w))) rfl rfl kr kr kr kr rfl (rfl) (NS_ix _ rfl rfl kr kr kr kr (ix_clK (b := hf.next) (k := 2) (el := 53) (n := N) kr kr hlt .i64) (NS_ix _ rfl rfl kr kr kr kr (ix_arr (b := hf.next) (o := p * 2) (j := 1) (n := 2) (el := 3) kr kr (by decide) .i64) (NS_nil ?_)))
        obtain ⟨h270, e270, d270, t270, n270⟩ := c262.store (P := Tryz.prog) (T := 3) (o := p * 2 + 1) (v := nv (wrp ((waitsI ((timesS N L C) p) i).2 + s.w))) kr rfl rfl (by rw [wV_len]; omega)
        rw [wV_set (a' := ((waitsI ((timesS N L C) p) i).1, wrp ((waitsI ((timesS N L C) p) i).2 + s.w))) hlt (by decide) rfl rfl, ← hw] at d270
        replace c258 := c258.sn t270
        replace c263 := c263.sn t270
        replace c262 := d270
        have T270 := T268.tr t270
        have V270 := V268.tr t270
        have N270 := T270.nx
        have NV270 := V270.nx
        refine L_st _ rfl rfl rfl kr kr (e270) ?_
        refine L_nil ⟨rfl, ?_⟩
        refine D_l (l := []) kr kr Rk_nil (NS_nil (W_rg 1 kr (L_i ((i : Int)) (1) (nv ((i + 1 : Nat) : Int)) rfl rfl kr kr rfl (inc_ok (by omega)) (L_g 1 kr (L_nil ?_)))))
        exact ⟨((timesS N L C) p).length - (i + 1), by omega, i + 1, by omega, V270, rfl, kr, kr, kr, kr, kr, kr, kr, T270, c258, c263, c262⟩
    ·
      have hy0 : ¬ 0 < s.y := of_decide_eq_false hb
      have hw : waitsI ((timesS N L C) p) (i + 1) = waitsI ((timesS N L C) p) i := by
        rw [waitsI_step hs]; unfold wStep
        rw [if_neg (by omega), if_neg (by omega)]
      refine W_skip (W_rg 1 kr (L_i ((i : Int)) (1) (nv ((i + 1 : Nat) : Int)) rfl rfl kr kr rfl (inc_ok (by omega)) (L_g 1 kr (L_nil ?_))))
      rw [← hw] at c262
      exact ⟨((timesS N L C) p).length - (i + 1), by omega, i + 1, by omega, V268, rfl, kr, kr, kr, kr, kr, kr, kr, T268, c258, c263, c262⟩
   ·
    have hge2 : i = ((timesS N L C) p).length := by simp at hb; omega
    refine W_exit ?_
    repeat with_reducible refine then_exit ?_
    refine exit_here (W_seq ?_)
    obtain ⟨n, hn⟩ : ∃ n, n = ((timesS N L C) p).length := ⟨_, rfl⟩
    have lcase : (n = 0 ∧ lastT (timesS N L C) (p + 1) = (lastT (timesS N L C) p)) ∨ (0 < n ∧ ∃ s, ((timesS N L C) p)[n - 1]? = some s ∧ (bgn (timesS N L C) p ((timesS N L C) p).length) = s.e ∧ (((lastT (timesS N L C) p) = none ∧ lastT (timesS N L C) (p + 1) = some (p, s.e)) ∨ ∃ a, (lastT (timesS N L C) p) = some a ∧ lastT (timesS N L C) (p + 1) = if a.2 < s.e then some (p, s.e) else some a)) := by
      subst hn
      by_cases h0 : ((timesS N L C) p).length = 0
      · exact .inl ⟨h0, lastT_nil h0⟩
      · refine .inr ⟨by omega, _, List.getElem?_eq_getElem (by omega), by unfold bgn; rw [if_neg h0, List.getElem?_eq_getElem (by omega)], ?_⟩
        have h5 := lastT_new (S := (timesS N L C)) (p := p) (List.getElem?_eq_getElem (show ((timesS N L C) p).length - 1 < ((timesS N L C) p).length by omega))
        cases hla : (lastT (timesS N L C) p) with
        | none => rw [hla] at h5; exact .inl ⟨rfl, h5⟩
        | some a => rw [hla] at h5; exact .inr ⟨a, rfl, h5⟩
    rcases lcase with ⟨h0, hl1⟩ | ⟨h0, s, hs, hbv, ⟨hla, hl1⟩ | ⟨a, hla, hl1⟩⟩
    ·
      refine W_drawn kr (D_e (e := 12) (l := [0,1,2,3,4,5,6,7,8,9,10,11,13,14]) (s' := [13,14]) kr kr rfl kr Rk_nil (NS_b 2 kr ?_))
      obtain ⟨b5, o5, i5, l5⟩ := (I.ext T266).row (T := 22) (el := 27) kr kr kr hlt
      refine NS_ix _ rfl rfl kr kr kr kr (i5) (NS_ld _ rfl rfl kr kr kr ((I.ext T266).rowLd (T := 22) (el := 27) kr kr kr hlt i5) (NS_ln _ rfl rfl kr kr kr ((I.ext T266).lenR (T := 27) (el := 83) kr hlt) (NS_i (((L p).length : Int)) (0) (.bool false) rfl rfl kr kr kr kr rfl (by rw [show (L p).length = 0 by omega]; rfl) (NS_b 8 kr (NS_nil (L_not kr kr ?_))))))
      refine L_nil ⟨rfl, ?_⟩
      refine D_l (l := [15,16,17]) kr kr (Rk_1 rfl rfl (Rk_nw rfl kr Rk_nil)) (NS_b 3 kr (NS_nil ?_))
      refine W_cond false kr (fun e => by cases e) (fun _ => ?_)
      refine W_skip (W_rg 1 kr (L_i ((p : Int)) (1) (nv ((p + 1 : Nat) : Int)) rfl rfl kr kr rfl (inc_ok (by omega)) (L_g 1 kr (L_nil ?_))))
      rw [hge2, waitsI_N, wV_next] at c262
      rw [← hl1] at c263
      exact ⟨N - (p + 1), by omega, p + 1, by omega, Vi, rfl, kr, kr, kr, kr, by rw [hl1]; kernel_rfl, kr, T266, c258, c263, c262⟩
    ·
      refine W_drawn kr (D_e (e := 12) (l := [0,1,2,3,4,5,6,7,8,9,10,11,13,14]) (s' := [13,14]) kr kr rfl kr Rk_nil (NS_b 2 kr ?_))
      obtain ⟨b5, o5, i5, l5⟩ := (I.ext T266).row (T := 22) (el := 27) kr kr kr hlt
      refine NS_ix _ rfl rfl kr kr kr kr (i5) (NS_ld _ rfl rfl kr kr kr ((I.ext T266).rowLd (T := 22) (el := 27) kr kr kr hlt i5) (NS_ln _ rfl rfl kr kr kr ((I.ext T266).lenR (T := 27) (el := 83) kr hlt) (NS_i (((L p).length : Int)) (0) (.bool true) rfl rfl kr kr kr kr rfl (by simp; omega) (NS_b 2 kr (NS_i ((fst0 (lastT (timesS N L C) p))) (0) (.bool true) rfl rfl kr kr kr kr rfl (show Value.bool (decide (fst0 (lastT (timesS N L C) p) < 0)) = .bool true by rw [fst0_lt, hla]; rfl) (NS_b 5 kr (NS_nil (L_not kr kr ?_))))))))
      refine L_nil ⟨rfl, ?_⟩
      refine D_l (l := [15,16,17]) kr kr (Rk_1 rfl rfl (Rk_nw rfl kr Rk_nil)) (NS_b 3 kr (NS_nil ?_))
      refine W_cond true kr (fun _ => ?_) (fun e => by cases e)
      refine W_rg 3 kr (L_c rfl rfl kr (hbv ▸ rbegin_ok (H.ext Vi) (X.ext Vi) hlt (by omega)) ?_)
      rintro v271 h271 ⟨e271, t271⟩
      try dsimp only at e271
      try dsimp only at t271
      subst e271
      replace c258 := c258.ext t271
      replace c263 := c263.ext t271
      replace c262 := c262.ext t271
      have T271 := T266.ext t271
      have V271 := Vi.ext t271
      have N271 := T271.nx
      have NV271 := V271.nx
      have M271 := t271.nx
      refine L_g 2 kr ?_
      obtain ⟨h272, e272, d272, t272, n272⟩ := c263.store (P := Tryz.prog) (T := 3) (o := 1) (v := nv s.e) kr rfl rfl (by simp)
      replace d272 : Cl h272 (h262.next) [.slice (some ⟨B, 0, none⟩) N N, nv s.e, .slice none 0 0, .slice (some ⟨hf.next, 0, none⟩) N N] := d272
      replace c258 := c258.sn t272
      replace c262 := c262.sn t272
      replace c263 := d272
      have T272 := T271.tr t272
      have V272 := V271.tr t272
      have N272 := T272.nx
      have NV272 := V272.nx
      refine L_st _ rfl rfl rfl kr kr (e272) (L_nil (W_rg 1 kr (L_i ((p : Int)) (1) (nv ((p + 1 : Nat) : Int)) rfl rfl kr kr rfl (inc_ok (by omega)) (L_g 1 kr (L_nil ?_)))))
      rw [hge2, waitsI_N, wV_next] at c262
      rw [show nv s.e = nv (endV (lastT (timesS N L C) (p + 1))) by rw [hl1]; rfl] at c263
      exact ⟨N - (p + 1), by omega, p + 1, by omega, V272, rfl, kr, kr, kr, kr, by rw [hl1]; kernel_rfl, kr, T272, c258, c263, c262⟩
    ·
      rw [hla] at c263
      refine W_drawn kr (D_e (e := 12) (l := [0,1,2,3,4,5,6,7,8,9,10,11,13,14]) (s' := [13,14]) kr kr rfl kr Rk_nil (NS_b 2 kr ?_))
      obtain ⟨b5, o5, i5, l5⟩ := (I.ext T266).row (T := 22) (el := 27) kr kr kr hlt
      refine NS_ix _ rfl rfl kr kr kr kr (i5) (NS_ld _ rfl rfl kr kr kr ((I.ext T266).rowLd (T := 22) (el := 27) kr kr kr hlt i5) (NS_ln _ rfl rfl kr kr kr ((I.ext T266).lenR (T := 27) (el := 83) kr hlt) (NS_i (((L p).length : Int)) (0) (.bool true) rfl rfl kr kr kr kr rfl (by simp; omega) (NS_b 2 kr (NS_i ((fst0 (lastT (timesS N L C) p))) (0) (.bool false) rfl rfl kr kr kr kr rfl (show Value.bool (decide (fst0 (lastT (timesS N L C) p) < 0)) = .bool false by rw [fst0_lt, hla]; rfl) (NS_b 4 kr (NS_ld _ rfl rfl kr kr kr (c263.ld (o := 1) kr rfl) (NS_nil (L_want kr (L_c rfl rfl kr (hbv ▸ rbegin_ok (H.ext Vi) (X.ext Vi) hlt (by omega)) ?_))))))))))
      rintro v273 h273 ⟨e273, t273⟩
      try dsimp only at e273
      try dsimp only at t273
      subst e273
      replace c258 := c258.ext t273
      replace c263 := c263.ext t273
      replace c262 := c262.ext t273
      have T273 := T266.ext t273
      have V273 := Vi.ext t273
      have N273 := T273.nx
      have NV273 := V273.nx
      have M273 := t273.nx
      refine L_nil ⟨rfl, ?_⟩
      refine D_l (l := [15,16,17]) kr kr (Rk_1 rfl rfl (Rk_ld _ rfl rfl rfl kr (c263.ld (o := 1) kr rfl) kr Rk_nil)) (NS_i (s.e) (a.2) (.bool (decide (a.2 < s.e))) rfl rfl kr kr kr kr rfl (rfl) (NS_b 2 kr (NS_nil ?_)))
      refine W_cond (decide (a.2 < s.e)) kr (fun hb => ?_) (fun hb => ?_)
      ·
        have hl1 := hl1.trans (if_pos (of_decide_eq_true hb))
        refine W_rg 3 kr (L_c rfl rfl kr (hbv ▸ rbegin_ok (H.ext V273) (X.ext V273) hlt (by omega)) ?_)
        rintro v274 h274 ⟨e274, t274⟩
        try dsimp only at e274
        try dsimp only at t274
        subst e274
        replace c258 := c258.ext t274
        replace c263 := c263.ext t274
        replace c262 := c262.ext t274
        have T274 := T273.ext t274
        have V274 := V273.ext t274
        have N274 := T274.nx
        have NV274 := V274.nx
        have M274 := t274.nx
        refine L_g 2 kr ?_
        obtain ⟨h275, e275, d275, t275, n275⟩ := c263.store (P := Tryz.prog) (T := 3) (o := 1) (v := nv s.e) kr rfl rfl (by simp)
        replace d275 : Cl h275 (h262.next) [.slice (some ⟨B, 0, none⟩) N N, nv s.e, .slice none 0 0, .slice (some ⟨hf.next, 0, none⟩) N N] := d275
        replace c258 := c258.sn t275
        replace c262 := c262.sn t275
        replace c263 := d275
        have T275 := T274.tr t275
        have V275 := V274.tr t275
        have N275 := T275.nx
        have NV275 := V275.nx
        refine L_st _ rfl rfl rfl kr kr (e275) (L_nil (W_rg 1 kr (L_i ((p : Int)) (1) (nv ((p + 1 : Nat) : Int)) rfl rfl kr kr rfl (inc_ok (by omega)) (L_g 1 kr (L_nil ?_)))))
        rw [hge2, waitsI_N, wV_next] at c262
        rw [show nv s.e = nv (endV (lastT (timesS N L C) (p + 1))) by rw [hl1]; rfl] at c263
        exact ⟨N - (p + 1), by omega, p + 1, by omega, V275, rfl, kr, kr, kr, kr, by rw [hl1]; kernel_rfl, kr, T275, c258, c263, c262⟩
      ·
        have hl1 := hl1.trans (if_neg (of_decide_eq_false hb))
        refine W_skip (W_rg 1 kr (L_i ((p : Int)) (1) (nv ((p + 1 : Nat) : Int)) rfl rfl kr kr rfl (inc_ok (by omega)) (L_g 1 kr (L_nil ?_))))
        rw [hge2, waitsI_N, wV_next] at c262
        rw [← hl1] at c263
        exact ⟨N - (p + 1), by omega, p + 1, by omega, V273, rfl, kr, kr, kr, kr, by rw [hl1, ← hla]; kernel_rfl, kr, T273, c258, c263, c262⟩
  ·
   have hge : N = p := by simp at hb; omega
   subst hge
   refine W_exit ?_
   repeat with_reducible refine then_exit ?_
   refine exit_here (W_seq (W_seq ?_))
   have hcs : lastT (timesS N L C) N = none ∨ ∃ ea, lastT (timesS N L C) N = some ea := by cases lastT (timesS N L C) N <;> simp
   rcases hcs with hla | ⟨ea, hla⟩
   ·
    rw [hla] at c263
    have hpt := pathT_none (N := N) (L := L) hla
    refine W_rg 1 kr (L_i ((fst0 (lastT (timesS N L C) N))) (0) (.bool true) rfl rfl kr kr rfl (show Value.bool (decide (fst0 (lastT (timesS N L C) N) < 0)) = .bool true by rw [fst0_lt, hla]; rfl) (L_nil ?_))
    refine W_cond true kr (fun _ => ?_) (fun e => by cases e)
    refine W_seq (W_region (L_ld _ rfl rfl kr (Cl.allN (n := 4) c263 rfl kr) ?_))
    obtain ⟨h276, e276, d276, t276, n276⟩ := c258.sA 42 [.slice (some ⟨B, 0, none⟩) N N, nv (endV none), .slice none 0 0, .slice (some ⟨hf.next, 0, none⟩) N N]
    replace c262 := c262.sn t276
    replace c258 := d276
    have T276 := T265.tr t276
    have N276 := T276.nx
    refine L_st _ rfl rfl rfl kr kr (e276) (L_g 1 kr (L_nil (W_ret ?_)))
    repeat first | with_reducible refine then_ret ?_ | with_reducible refine blk_ret ?_
    refine done_of (.inl rfl) (evR_ct kr kr kr (Cl.allN (n := 4) c258 rfl kr) (w := nv 0) kr) ?_
    refine .inr ⟨he, hi, B, VS, _, _, by rw [hla], (X.ext Vp).sm t276 (fun b hb => by have hb : b = _ := hb; exact ⟨by omega, .inl (by omega)⟩), ?_, ?_, T276⟩
    · rw [hpt]
      exact Sd.nil
    · rw [← wV_all]
      exact Cl.sdK (by decide) c262 (wV_len _ _ _ _)
   ·
    obtain ⟨hea, hene⟩ := lastT_ok N hla
    have hel : 0 < ((timesS N L C) ea.1).length := List.length_pos_iff.2 hene
    have heD := D.d ea.1
    have heA := A.all ea.1
    have hfe : fst0 (lastT (timesS N L C) N) = (ea.1 : Int) := by rw [hla]; rfl
    refine W_rg 1 kr (L_i ((fst0 (lastT (timesS N L C) N))) (0) (.bool false) rfl rfl kr kr rfl (show Value.bool (decide (fst0 (lastT (timesS N L C) N) < 0)) = .bool false by rw [fst0_lt, hla]; rfl) (L_nil ?_))
    refine W_cond false kr (fun e => by cases e) (fun _ => ?_)
    refine W_skip (W_seq (W_region (L_p (nv (ea.1 : Int)) rfl (by rw [← hfe]; kernel_rfl) (L_g 2 kr ?_))))
    obtain ⟨b7, o7, i7, l7⟩ := (I.ext T265).row (T := 22) (el := 27) kr kr kr hea
    rw [← hfe] at i7
    refine L_ix _ rfl rfl kr kr (i7) (L_ld _ rfl rfl kr (l7) (L_ln _ rfl rfl kr ((I.ext T265).lenR (T := 27) (el := 83) kr hea) (L_i (((L ea.1).length : Int)) (1) (nv ((((timesS N L C) ea.1).length - 1 : Nat) : Int)) rfl rfl kr kr rfl (by rw [heD]; exact dec_ok (by omega) (by omega)) (L_g 1 kr (L_nwc [nv 0, nv 0] .ptr rfl rfl kr fun h277 c277 t277 n277 => ?_)))))
    replace c258 := c258.ext t277
    replace c263 := c263.ext t277
    replace c262 := c262.ext t277
    have T277 := T265.ext t277
    have V277 := Vp.ext t277
    have N277 := T277.nx
    have NV277 := V277.nx
    obtain ⟨h278, e278, d278, t278, n278⟩ := c277.sA 63 [nv (ea.1 : Int), nv ((((timesS N L C) ea.1).length - 1 : Nat) : Int)]
    replace c258 := c258.sn t278
    replace c263 := c263.sn t278
    replace c262 := c262.sn t278
    replace c277 := d278
    have T278 := T277.tr t278
    have V278 := V277.tr t278
    have N278 := T278.nx
    have NV278 := V278.nx
    refine L_st _ rfl rfl rfl kr kr (e278) (L_nil (W_seq (W_seq (W_region (L_p (.bool true) rfl kr (L_nil (W_block ?_)))))))
    refine W_loop (fun mm fr hh => ∃ (bm : Bool) (a : Nat × Nat) (dl : List (Nat × Nat)) (mm1 : Nat) (c9v : List Value) (pa : Option Addr) (pc : Nat), (((bm = true ∧ ∃ rest, Pth N L (timesS N L C) a rest ∧ pathT N L (timesS N L C) = dl ++ rest ∧ mm1 = rest.length + 1 ∧ c9v = st2 a) ∨ (bm = false ∧ pathT N L (timesS N L C) = dl ∧ mm1 = 0))) ∧ (c9v.length = 2) ∧ (Sd hh 2 (.slice pa dl.length pc) dl.length (dl.reverse.flatMap st2)) ∧ (∀ b, vb (.slice pa dl.length pc) = some b → h278.next ≤ b) ∧ (dl.length ≤ 640000) ∧ (Sm Nix hf hh) ∧ (h278.next ≤ hh.next) ∧ mm = mm1 ∧ fr 0 = VL none ∧ fr 4 = ptr h257.next ∧ fr 6 = ptr tb ∧ fr 8 = ptr h262.next ∧ fr 13 = ptr h265.next ∧ fr 14 = .bool bm ∧ Sm Nix h hh ∧ Cl hh (h257.next) [.slice none 0 0, nv 0, .slice none 0 0, .slice none 0 0] ∧ Cl hh (h262.next) [.slice (some ⟨B, 0, none⟩) N N, nv (endV (lastT (timesS N L C) N)), .slice pa dl.length pc, .slice (some ⟨hf.next, 0, none⟩) N N] ∧ Cl hh (h265.next) c9v ∧ Cl hh (hf.next) (wV N (timesS N L C) N (0, 0))) (((pathT N L (timesS N L C)).length + 1)) ?_ ?_
    ·
      exact ⟨true, (ea.1, ((timesS N L C) ea.1).length - 1), [], ((pathT N L (timesS N L C)).length + 1), (st2 (ea.1, ((timesS N L C) ea.1).length - 1)), none, 0, (.inl ⟨rfl, _, (pathT_ok D hla).1, rfl, rfl, rfl⟩), rfl, Sd.nil, (fun b hb => by cases hb), (by simp), V278, Nat.le_refl _, rfl, kr, kr, kr, kr, kr, kr, T278, c258, c263, c277, c262⟩
    rintro mm279 fr279 h279 ⟨bm, a, dl, mm1, c9v, pa, pc, hbm, h9l, Gp, hpb, hdl, Vl, hPB, hm279, y279_0, y279_4, y279_6, y279_8, y279_13, y279_14, T279, c258, c263, c277, c262⟩
    have N279 := T279.nx
    have B279_t4 := c258.lt
    have B279_t8 := c263.lt
    have B279_t13 := c277.lt
    have B279_t31 := c262.lt
    refine W_set (k := 0) y279_0 (W_set (k := 4) y279_4 (W_set (k := 6) y279_6 (W_set (k := 8) y279_8 (W_set (k := 13) y279_13 (W_set (k := 14) y279_14 ?_)))))
    have W279 : Sm Nix h279 h279 := .refl
    refine W_seq (W_sg 1 kr (L_nil ?_))
    refine W_cond (bm) kr (fun hb => ?_) (fun hb => ?_)
    ·
      subst hb
      obtain ⟨rest, hpth, hpt, hmm, h9e⟩ : ∃ rest, Pth N L (timesS N L C) a rest ∧ pathT N L (timesS N L C) = dl ++ rest ∧ mm1 = rest.length + 1 ∧ c9v = st2 a := by
        rcases hbm with ⟨_, h⟩ | ⟨h, _⟩
        · exact h
        · cases h
      subst h9e
      have ha2 : a.2 < ((timesS N L C) a.1).length := pathT_mem D a (by rw [hpt]; exact List.mem_append_right _ (pth_mem hpth))
      have hlen : dl.length + rest.length = (pathT N L (timesS N L C)).length := by rw [hpt]; simp
      have hpl : (pathT N L (timesS N L C)).length ≤ 640000 := by have := (pathT_ok D hla).2.1; have := A.tot D.g; omega
      have hr1 : 0 < rest.length := List.length_pos_of_mem (pth_mem hpth)
      refine W_skip (W_block (W_seq (W_region (L_ld _ rfl rfl kr (Cl.allN (n := 2) c277 (by first | exact h9l | exact sp4_len _) kr) (L_nwc [nv (a.1 : Int), nv (a.2 : Int)] (.sl 1 1) rfl rfl kr fun h280 c280 t280 n280 => ?_)))))
      replace c258 := c258.ext t280
      replace c263 := c263.ext t280
      replace c277 := c277.ext t280
      replace c262 := c262.ext t280
      have T280 := T279.ext t280
      have V280 := Vl.ext t280
      have W280 := W279.ext t280
      have N280 := T280.nx
      have NV280 := V280.nx
      have NW280 := W280.nx
      refine L_g 1 kr (L_ld _ rfl rfl kr (c263.ld (o := 2) kr rfl) ?_)
      obtain ⟨v281, h281, e281, g281, s281, n281⟩ := append_fixA (P := Tryz.prog) (sT := 40) (xT := 40) (el := 63) (by_ := 16) (z := .agg ⟨[nv 0, nv 0]⟩) (n := 1) (cs := st2 a) kr kr kr kr kr kr (by decide) c280 rfl (by decide) (by decide) (Gp.ext W280) (fun x hx => by obtain ⟨e9, _, h9⟩ := List.mem_flatMap.1 hx; exact st2_one x h9) (by omega)
      obtain ⟨av281, cv281, rfl⟩ := g281.form
      have q281 : ∀ b, vb (.slice av281 (1 + dl.length) cv281) = some b → h278.next ≤ b := fun b hb => (n281 b hb).elim (fun e => by omega) (fun e => by omega)
      refine L_bi (.slice av281 (1 + dl.length) cv281) h281 rfl rfl kr (vs := [.slice (some ⟨h279.next, 0, none⟩) 1 1, .slice pa dl.length pc]) kr (bi_append e281) ?_
      replace c258 := c258.ext s281
      replace c263 := c263.ext s281
      replace c277 := c277.ext s281
      replace c262 := c262.ext s281
      have T281 := T280.ext s281
      have N281 := T281.nx
      have V281 := V280.ext s281
      have NV281 := V281.nx
      have Y281 : Sm (fun b => b < h278.next) h281 h281 := .refl
      have NS281 := s281.nx
      refine L_g 1 kr ?_
      obtain ⟨h282, e282, d282, t282, n282⟩ := c263.store (P := Tryz.prog) (T := 40) (o := 2) (v := (.slice av281 (1 + dl.length) cv281)) kr rfl rfl (by simp)
      replace d282 : Cl h282 (h262.next) [.slice (some ⟨B, 0, none⟩) N N, nv (endV (lastT (timesS N L C) N)), (.slice av281 (1 + dl.length) cv281), .slice (some ⟨hf.next, 0, none⟩) N N] := d282
      replace c258 := c258.sn t282
      replace c277 := c277.sn t282
      replace c262 := c262.sn t282
      replace c263 := d282
      have T282 := T281.tr t282
      have V282 := V281.tr t282
      have Y282 : Sm (fun b => b < h278.next) h281 h282 := Y281.tr t282
      have N282 := T282.nx
      have NV282 := V282.nx
      have NY282 := Y282.nx
      refine L_st _ rfl rfl rfl kr kr (e282) (L_nil (W_rg 1 kr (L_ld _ rfl rfl kr (Cl.allN (n := 2) c277 (by first | exact h9l | exact sp4_len _) kr) (L_c rfl rfl kr (rcause_ok (p := a.1) (i := a.2) (H.ext V282) (X.ext V282) D A ha2) ?_))))
      rintro vc hc2 ⟨hcv, tc⟩
      dsimp only at hcv tc
      rcases hcc : cause N L (timesS N L C) a with _ | b2 <;> rw [show cause N L (timesS N L C) (a.1, a.2) = _ from hcc] at hcv
      ·
        obtain ⟨u, w, hcv⟩ := hcv
        subst hcv
        replace c258 := c258.ext tc
        replace c263 := c263.ext tc
        replace c277 := c277.ext tc
        replace c262 := c262.ext tc
        have Tc := T282.ext tc
        have Vc := V282.ext tc
        have Yc := Y282.ext tc
        have Ncc := Tc.nx
        have NYc := tc.nx
        have hre : rest = [a] := by
          rcases hpth.inv with ⟨_, h⟩ | ⟨b, r, h, _⟩
          · exact h
          · rw [hcc] at h; cases h
        refine L_g 3 kr ?_
        obtain ⟨h284, e284, d284, t284, n284⟩ := Cl.storeN (P := Tryz.prog) (T := 63) (n := 2) (v := .agg ⟨[nv u, nv w]⟩) (cs := [nv u, nv w]) c277 (by first | exact h9l | exact sp4_len _) kr rfl rfl (List.all_eq_true.1 rfl)
        replace c258 := c258.sn t284
        replace c263 := c263.sn t284
        replace c262 := c262.sn t284
        replace c277 := d284
        have T284 := Tc.tr t284
        have V284 := Vc.tr t284
        have Y284 : Sm (fun b => b < h278.next) h281 h284 := Yc.tr t284
        have N284 := T284.nx
        have NV284 := V284.nx
        have NY284 := Y284.nx
        refine L_st _ rfl rfl rfl kr kr (e284) (L_g 1 kr (L_nil ?_))
        have hdla : (dl ++ [a]).length = 1 + dl.length := by simp; omega
        rw [← hdla] at c263
        exact ⟨0, by omega, false, a, (dl ++ [a]), 0, [nv u, nv w], av281, cv281, (.inr ⟨rfl, by rw [hpt, hre], rfl⟩), rfl, (by have G9 := g281.sm Y284 (fun b hb hx => by have := q281 b hb; have hx : b < h278.next := hx; omega); rw [show (dl ++ [a]).length = 1 + dl.length by simp; omega, List.reverse_append, List.flatMap_append]; exact G9), (by rw [show (dl ++ [a]).length = 1 + dl.length by simp; omega]; exact q281), (by simp; omega), V284, by omega, rfl, kr, kr, kr, kr, kr, kr, T284, c258, c263, c277, c262⟩
      ·
        have hcv : vc = _ := hcv
        subst hcv
        replace c258 := c258.ext tc
        replace c263 := c263.ext tc
        replace c277 := c277.ext tc
        replace c262 := c262.ext tc
        have Tc := T282.ext tc
        have Vc := V282.ext tc
        have Yc := Y282.ext tc
        have Ncc := Tc.nx
        have NYc := tc.nx
        obtain ⟨r2, hre, hp2⟩ : ∃ r, rest = a :: r ∧ Pth N L (timesS N L C) b2 r := by
          rcases hpth.inv with ⟨h, _⟩ | ⟨b, r, h, h1, h2⟩
          · rw [hcc] at h; cases h
          · rw [hcc] at h; cases h; exact ⟨r, h1, h2⟩
        have hrl : rest.length = r2.length + 1 := by rw [hre]; rfl
        refine L_g 3 kr ?_
        obtain ⟨h286, e286, d286, t286, n286⟩ := Cl.storeN (P := Tryz.prog) (T := 63) (n := 2) (v := .agg ⟨[nv (b2.1 : Int), nv (b2.2 : Int)]⟩) (cs := [nv (b2.1 : Int), nv (b2.2 : Int)]) c277 (by first | exact h9l | exact sp4_len _) kr rfl rfl (List.all_eq_true.1 rfl)
        replace c258 := c258.sn t286
        replace c263 := c263.sn t286
        replace c262 := c262.sn t286
        replace c277 := d286
        have T286 := Tc.tr t286
        have V286 := Vc.tr t286
        have Y286 : Sm (fun b => b < h278.next) h281 h286 := Yc.tr t286
        have N286 := T286.nx
        have NV286 := V286.nx
        have NY286 := Y286.nx
        refine L_st _ rfl rfl rfl kr kr (e286) (L_g 1 kr (L_nil ?_))
        have hdla : (dl ++ [a]).length = 1 + dl.length := by simp; omega
        rw [← hdla] at c263
        exact ⟨(r2.length + 1), by omega, true, b2, (dl ++ [a]), (r2.length + 1), (st2 b2), av281, cv281, (.inl ⟨rfl, r2, hp2, by rw [hpt, hre]; simp, rfl, rfl⟩), rfl, (by have G9 := g281.sm Y286 (fun b hb hx => by have := q281 b hb; have hx : b < h278.next := hx; omega); rw [show (dl ++ [a]).length = 1 + dl.length by simp; omega, List.reverse_append, List.flatMap_append]; exact G9), (by rw [show (dl ++ [a]).length = 1 + dl.length by simp; omega]; exact q281), (by simp; omega), V286, by omega, rfl, kr, kr, kr, kr, kr, kr, T286, c258, c263, c277, c262⟩
    ·
      subst hb
      have hpt : pathT N L (timesS N L C) = dl := by
        rcases hbm with ⟨h, _⟩ | ⟨_, h, _⟩
        · cases h
        · exact h
      refine W_exit ?_
      repeat with_reducible refine then_exit ?_
      refine exit_here (W_seq (W_region (L_ld _ rfl rfl kr (Cl.allN (n := 4) c263 rfl kr) ?_)))
      obtain ⟨h287, e287, d287, t287, n287⟩ := c258.sA 42 [.slice (some ⟨B, 0, none⟩) N N, nv (endV (lastT (timesS N L C) N)), .slice pa dl.length pc, .slice (some ⟨hf.next, 0, none⟩) N N]
      replace c262 := c262.sn t287
      replace c258 := d287
      have T287 := T279.tr t287
      have N287 := T287.nx
      refine L_st _ rfl rfl rfl kr kr (e287) (L_g 1 kr (L_nil (W_ret ?_)))
      repeat first | with_reducible refine then_ret ?_ | with_reducible refine blk_ret ?_
      refine done_of (.inl rfl) (evR_ct kr kr kr (Cl.allN (n := 4) c258 rfl kr) (w := nv 0) kr) ?_
      refine .inr ⟨he, hi, B, VS, _, _, rfl, (X.ext Vl).sm t287 (fun b hb => by have hb : b = _ := hb; exact ⟨by omega, .inl (by omega)⟩), ?_, ?_, T287⟩
      · rw [hpt]
        exact (Gp.ext W279).sm t287 (fun b hb hx => by have := hpb b hb; have hx : b = _ := hx; omega)
      · rw [← wV_all]
        exact Cl.sdK (by decide) c262 (wV_len _ _ _ _)
end
end Go.Proofs.YtjhbbdfbngbjcaaGreatDoor
