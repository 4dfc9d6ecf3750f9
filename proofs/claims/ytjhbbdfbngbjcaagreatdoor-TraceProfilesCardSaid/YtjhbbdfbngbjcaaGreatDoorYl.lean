/- A part of the walks of profiles. -/
import Derived.Test.YtjhbbdfbngbjcaaGreatDoorYg
import Derived.Test.YtjhbbdfbngbjcaaGreatDoorYi
import Derived.Test.YtjhbbdfbngbjcaaGreatDoorYk
namespace Go.Proofs.YtjhbbdfbngbjcaaGreatDoor
noncomputable section
open Go Go.X Go.Arm
/-- What a profile holds. -/
def PRes (N : Nat) (L : Lf) (C : TC) (h : AH) (r : Value × AH) : Prop :=
 (errT N L C ≠ 0 ∧ r.1 = .tuple ⟨[.agg ⟨[nilS, nv 0, nilS, nilS]⟩, nv (errT N L C)]⟩ ∧ Sm Nix h r.2) ∨
 (errT N L C = 0 ∧ ∃ hi B VS pv wv, r.1 = .tuple ⟨[.agg ⟨[.slice (some ⟨B, 0, none⟩) N N, nv (endV (lastT (timesS N L C) N)), pv, wv]⟩, nv 0]⟩ ∧ SpL r.2 hi B VS N (timesS N L C) ∧
  Sd r.2 2 pv (pathT N L (timesS N L C)).length ((pathT N L (timesS N L C)).reverse.flatMap st2) ∧ Sd r.2 2 wv N (((List.range N).map fun q => waitsT (timesS N L C q)).flatMap w2) ∧ Sm Nix h r.2)
theorem pathT_mem {N : Nat} {L : Lf} {S : Sf} (D : Dn N L S) (b : Nat × Nat) (hb : b ∈ pathT N L S) : b.2 < (S b.1).length := by
 cases hla : lastT S N with
 | none => rw [pathT_none hla] at hb; cases hb
 | some a => exact (pathT_ok D hla).2.2 b hb
def fst0 : Option (Nat × Int) → Int
 | none => -1
 | some a => (a.1 : Int)
theorem lst0 (S : Sf) (la : Option (Nat × Int)) : (lstC S la)[0]? = some (nv (fst0 la)) := by cases la <;> rfl
theorem fst0_some (la : Option (Nat × Int)) : decide (0 ≤ fst0 la) = la.isSome := by
 cases la with
 | none => rfl
 | some a => simp [fst0]
theorem fst0_lt (la : Option (Nat × Int)) : decide (fst0 la < 0) = la.isNone := by
 cases la with
 | none => rfl
 | some a =>
  show decide ((a.1 : Int) < 0) = false
  exact decide_eq_false (by omega)
theorem pth_mem {N : Nat} {L : Lf} {S : Sf} {a : Nat × Nat} {l : List (Nat × Nat)} (h : Pth N L S a l) : a ∈ l := by cases h <;> simp
set_option maxHeartbeats 8000000 in
theorem profile_ok {h : AH} {VL : Option Nat → Value} {N : Nat} {L : Lf} {C : TC} (I : TIn h (fun b => b < h.next) VL N L) (hL0 : ∀ p, N ≤ p → L p = []) (hB : ∀ q, (L q).length < 1000000000) (hN : N < 1000000) :
  Arm.Calls Tryz.prog 6 [VL none, .agg ⟨[nv C.s, nv C.c, nv C.r, nv C.m]⟩] h (PRes N L C h) := by
 refine Calls_W 121 Tryz.f6 ?_
 have T0 : Sm Nix h h := .refl
 refine W_seq (W_region (L_nwc [nv C.s, nv C.c, nv C.r, nv C.m] .ptr rfl rfl kr fun h124 c124 t124 n124 => ?_))
 have T124 := T0.ext t124
 have N124 := T124.nx
 refine L_nwc [.slice none 0 0, nv 0, .slice none 0 0, .slice none 0 0] .ptr rfl rfl kr fun h125 c125 t125 n125 => ?_
 replace c124 := c124.ext t125
 have T125 := T124.ext t125
 have N125 := T125.nx
 refine L_g 1 kr (L_nil (W_sg 1 kr (L_ld _ rfl rfl kr (Cl.allN (n := 4) c124 rfl kr) (L_c rfl rfl kr (timed_ok (C := C) ((I.ext T125).mono (fun b hb _ => Nat.lt_of_lt_of_le hb T125.nx)) hL0 hB hN) ?_))))
 rintro v1 hf (⟨hne, e1, t1⟩ | ⟨he, tb, F, hi, B, sb, mb, VS, mt, e1, H, X, hFB, hhB, t1⟩)
 ·
  dsimp only at e1 t1
  subst e1
  replace c125 := c125.ext t1
  have Tf := T125.ext t1
  have Nf := Tf.nx
  refine L_g 5 kr (L_nil (W_seq (W_sg 1 kr (L_i ((errT N L C)) (0) (.bool true) rfl rfl kr kr rfl (by simp [hne]) (L_nil ?_)))))
  refine W_cond true kr (fun _ => ?_) (fun e => by cases e)
  refine W_seq (W_region (L_g 2 kr ?_))
  obtain ⟨h127, e127, d127, t127, n127⟩ := c125.sA 35 [.slice none 0 0, nv 0, .slice none 0 0, .slice none 0 0]
  replace c125 := d127
  have T127 := Tf.tr t127
  have N127 := T127.nx
  refine L_st _ rfl rfl rfl kr kr (e127) (L_g 1 kr (L_nil (W_ret ?_)))
  repeat first | with_reducible refine then_ret ?_ | with_reducible refine blk_ret ?_
  refine done_of (.inl rfl) (evR_ct kr kr kr (Cl.allN (n := 4) c125 rfl kr) (w := nv (errT N L C)) kr) ?_
  exact .inl ⟨hne, rfl, T127⟩
 ·
  dsimp only at H X
  dsimp only at e1 t1
  subst e1
  replace c125 := c125.ext t1
  have Tf := T125.ext t1
  have Nf := Tf.nx
  have Vf : Sm Nix hf hf := .refl
  have G := errT_ok hL0 he
  have D := G.d
  have A : Bn N L C := ⟨G.n1, G.len, G.c, D.l⟩
  have hcl := H.cl
  rw [X.b] at hcl
  have hXB := X.Bl
  have hXn := X.hn
  refine L_g 5 kr (L_nil (W_seq (W_sg 1 kr (L_i (0) (0) (.bool false) rfl rfl kr kr rfl (rfl) (L_nil ?_)))))
  refine W_cond false kr (fun e => by cases e) (fun _ => ?_)
  refine W_skip (W_seq (W_drawn kr (D_e (e := 9) (l := [0,1,2,3,4,5,6,7,8]) (s' := []) kr kr rfl kr Rk_nil (NS_b 3 kr (NS_ld _ rfl rfl kr kr kr ((hcl.ext Vf).ld (o := 7) kr rfl) (NS_b 1 kr (NS_ln _ rfl rfl kr kr kr ((I.ext Tf).len (T := 26) (el := 28) kr) (NS_nwc (zrep N [nv 0, nv 0]) (.sl N N) rfl kr rfl rfl (ev_mkK (P := Tryz.prog) (k := 2) (el := 53) (z := (.agg ⟨[nv 0, nv 0]⟩)) (by_ := 16) kr kr kr kr rfl (by omega) kr kr) (Rk_1 rfl rfl (Rk_1 rfl rfl (Rk_1 rfl rfl (Rk_ld _ rfl rfl rfl kr ((hcl.ext (Vf.ext (.push hf _))).ld (o := 7) kr rfl) kr (Rk_1 rfl rfl (Rk_ln _ rfl rfl rfl kr ((I.ext (Tf.ext (.push hf _))).len (T := 26) (el := 28) kr) kr (Rk_1 rfl rfl Rk_nil))))))) fun h129 c129 t129 n129 => ?_))))))))
  replace c125 := c125.ext t129
  have T129 := Tf.ext t129
  have V129 := Vf.ext t129
  have N129 := T129.nx
  have NV129 := V129.nx
  refine NS_b 1 kr (NS_nwc [.slice none 0 0, nv 0, .slice none 0 0, .slice none 0 0] .ptr rfl kr rfl rfl kr (Rk_1 rfl rfl (Rk_1 rfl rfl (Rk_1 rfl rfl (Rk_ld _ rfl rfl rfl kr ((hcl.ext (V129.ext (.push h129 _))).ld (o := 7) kr rfl) kr (Rk_1 rfl rfl (Rk_ln _ rfl rfl rfl kr ((I.ext (T129.ext (.push h129 _))).len (T := 26) (el := 28) kr) kr (Rk_1 rfl rfl (Rk_1 rfl rfl (Rk_1 rfl rfl Rk_nil))))))))) fun h130 c130 t130 n130 => ?_)
  replace c125 := c125.ext t130
  replace c129 := c129.ext t130
  have T130 := T129.ext t130
  have V130 := V129.ext t130
  have N130 := T130.nx
  have NV130 := V130.nx
  refine NS_nil ?_
  obtain ⟨h131, e131, d131, t131, n131⟩ := c130.sA 35 [.slice (some ⟨B, 0, none⟩) N N, nv 0, .slice none 0 0, .slice (some ⟨hf.next, 0, none⟩) N N]
  replace c125 := c125.sn t131
  replace c129 := c129.sn t131
  replace c130 := d131
  have T131 := T130.tr t131
  have V131 := V130.tr t131
  have N131 := T131.nx
  have NV131 := V131.nx
  refine L_st _ rfl rfl rfl kr kr (e131) ?_
  refine L_nil ⟨rfl, ?_⟩
  refine D_l (l := []) kr kr Rk_nil (NS_nil (W_sg 1 kr (L_nwc [nv 0, nv 0] .ptr rfl rfl kr fun h132 c132 t132 n132 => ?_)))
  replace c125 := c125.ext t132
  replace c129 := c129.ext t132
  replace c130 := c130.ext t132
  have T132 := T131.ext t132
  have V132 := V131.ext t132
  have N132 := T132.nx
  have NV132 := V132.nx
  obtain ⟨h133, e133, d133, t133, n133⟩ := c132.sA 91 [nv (-1), nv 0]
  replace c125 := c125.sn t133
  replace c129 := c129.sn t133
  replace c130 := c130.sn t133
  replace c132 := d133
  have T133 := T132.tr t133
  have V133 := V132.tr t133
  have N133 := T133.nx
  have NV133 := V133.nx
  refine L_st _ rfl rfl rfl kr kr (e133) (L_nil (W_seq (W_sg 3 kr (L_ld _ rfl rfl kr ((hcl.ext V133).ld (o := 7) kr rfl) (L_ln _ rfl rfl kr (show aLen Tryz.prog 31 (.slice (some ⟨B, 0, none⟩) N N) h133 = _ by rw [← X.b]; exact (X.ext V133).len (T := 31) (el := 51) kr) (L_g 1 kr (L_nil (W_block ?_))))))))
  refine W_loop (fun mm fr hh => ∃ (p : Nat), (p ≤ N) ∧ (Sm Nix hf hh) ∧ mm = N - p ∧ fr 0 = VL none ∧ fr 4 = ptr h124.next ∧ fr 6 = ptr tb ∧ fr 8 = ptr h129.next ∧ fr 9 = ptr h131.next ∧ fr 38 = .slice (some ⟨B, 0, none⟩) N N ∧ fr 39 = nv (N : Int) ∧ fr 40 = nv (p : Int) ∧ Sm Nix h hh ∧ Cl hh (h124.next) [.slice none 0 0, nv 0, .slice none 0 0, .slice none 0 0] ∧ Cl hh (h129.next) [.slice (some ⟨B, 0, none⟩) N N, nv (endV (lastT (timesS N L C) p)), .slice none 0 0, .slice (some ⟨hf.next, 0, none⟩) N N] ∧ Cl hh (h131.next) (lstC (timesS N L C) (lastT (timesS N L C) p)) ∧ Cl hh (hf.next) (wV N (timesS N L C) p (0, 0))) (N) ?_ ?_
  ·
   rw [wV_0 N (timesS N L C)] at c129
   exact ⟨0, Nat.zero_le _, V133, rfl, kr, kr, kr, kr, kr, kr, kr, kr, T133, c125, c130, c132, c129⟩
  rintro mm134 fr134 h134 ⟨p, hp, Vp, hm134, y134_0, y134_4, y134_6, y134_8, y134_9, y134_38, y134_39, y134_40, T134, c125, c130, c132, c129⟩
  have N134 := T134.nx
  have B134_t4 := c125.lt
  have B134_t8 := c130.lt
  have B134_t9 := c132.lt
  have B134_t32 := c129.lt
  refine W_set (k := 0) y134_0 (W_set (k := 4) y134_4 (W_set (k := 6) y134_6 (W_set (k := 8) y134_8 (W_set (k := 9) y134_9 (W_set (k := 38) y134_38 (W_set (k := 39) y134_39 (W_set (k := 40) y134_40 (W_sg 1 kr (L_nil ?_)))))))))
  refine W_seq ?_
  refine W_cond (decide ((p : Int) < (N : Nat))) kr (fun hb => ?_) (fun hb => ?_)
  ·
   have hlt : p < N := by simp at hb; omega
   have hSl := D.d p
   have hLl := A.all p
   refine W_skip (W_seq (W_block (W_seq (W_region (L_g 1 kr ?_)))))
   obtain ⟨b1, o1, i1, l1⟩ := (X.ext Vp).row (T := 31) (el := 51) kr kr kr hlt
   rw [X.b] at i1
   refine L_ix _ rfl rfl kr kr (i1) (L_ld _ rfl rfl kr (l1) (L_g 2 kr (L_nil (W_seq (W_sg 1 kr (L_ln _ rfl rfl kr ((X.ext Vp).lenR (T := 51) (el := 55) kr p) (L_g 1 kr (L_nil (W_block ?_)))))))))
   refine W_loop (fun mm fr hh => ∃ (i : Nat), (i ≤ ((timesS N L C) p).length) ∧ (Sm Nix hf hh) ∧ mm = ((timesS N L C) p).length - i ∧ fr 0 = VL none ∧ fr 4 = ptr h124.next ∧ fr 6 = ptr tb ∧ fr 8 = ptr h129.next ∧ fr 9 = ptr h131.next ∧ fr 10 = nv (p : Int) ∧ fr 11 = VS (some p) ∧ fr 38 = .slice (some ⟨B, 0, none⟩) N N ∧ fr 39 = nv (N : Int) ∧ fr 40 = nv (p : Int) ∧ fr 45 = VS (some p) ∧ fr 46 = nv (((timesS N L C) p).length : Int) ∧ fr 47 = nv (i : Int) ∧ Sm Nix h hh ∧ Cl hh (h124.next) [.slice none 0 0, nv 0, .slice none 0 0, .slice none 0 0] ∧ Cl hh (h129.next) [.slice (some ⟨B, 0, none⟩) N N, nv (endV (lastT (timesS N L C) p)), .slice none 0 0, .slice (some ⟨hf.next, 0, none⟩) N N] ∧ Cl hh (h131.next) (lstC (timesS N L C) (lastT (timesS N L C) p)) ∧ Cl hh (hf.next) (wV N (timesS N L C) p (waitsI ((timesS N L C) p) i))) (((timesS N L C) p).length) ?_ ?_
   ·
    exact ⟨0, Nat.zero_le _, Vp, rfl, kr, kr, kr, kr, kr, kr, kr, kr, kr, kr, kr, kr, kr, T134, c125, c130, c132, c129⟩
   rintro mm135 fr135 h135 ⟨i, hil, Vi, hm135, y135_0, y135_4, y135_6, y135_8, y135_9, y135_10, y135_11, y135_38, y135_39, y135_40, y135_45, y135_46, y135_47, T135, c125, c130, c132, c129⟩
   have N135 := T135.nx
   have B135_t4 := c125.lt
   have B135_t8 := c130.lt
   have B135_t9 := c132.lt
   have B135_t32 := c129.lt
   refine W_set (k := 0) y135_0 (W_set (k := 4) y135_4 (W_set (k := 6) y135_6 (W_set (k := 8) y135_8 (W_set (k := 9) y135_9 (W_set (k := 10) y135_10 (W_set (k := 11) y135_11 (W_set (k := 38) y135_38 (W_set (k := 39) y135_39 (W_set (k := 40) y135_40 (W_set (k := 45) y135_45 (W_set (k := 46) y135_46 ?_)))))))))))
   refine W_set (k := 47) y135_47 (W_sg 1 kr (L_nil (W_seq ?_)))
   refine W_cond (decide ((i : Int) < (((timesS N L C) p).length : Nat))) kr (fun hb => ?_) (fun hb => ?_)
   ·
    have hlt2 : i < ((timesS N L C) p).length := by simp at hb; omega
    obtain ⟨s, hs⟩ : ∃ s, ((timesS N L C) p)[i]? = some s := ⟨_, List.getElem?_eq_getElem hlt2⟩
    obtain ⟨x, s', hx, hs', hok, hpN, hc⟩ := D.at hlt2
    rw [hs] at hs'
    cases hs'
    refine W_skip (W_seq (W_block (W_seq (W_region ?_))))
    obtain ⟨b2, o2, i2, l2⟩ := (X.ext Vi).sp (T := 51) (el := 55) kr kr hs
    refine L_ix _ rfl rfl kr kr (i2) (L_ld _ rfl rfl kr (ld_l (l := sp4 s) kr l2) (L_nwc [nv 0, nv 0, nv 0, nv 0] .ptr rfl rfl kr fun h136 c136 t136 n136 => ?_))
    replace c125 := c125.ext t136
    replace c130 := c130.ext t136
    replace c132 := c132.ext t136
    replace c129 := c129.ext t136
    have T136 := T135.ext t136
    have V136 := Vi.ext t136
    have N136 := T136.nx
    have NV136 := V136.nx
    obtain ⟨h137, e137, d137, t137, n137⟩ := Cl.storeN (P := Tryz.prog) (T := 55) (n := 4) (v := .agg ⟨(sp4 s)⟩) (cs := (sp4 s)) c136 rfl kr rfl (by first | exact h9l | exact sp4_len _ | exact lstC_len _ _) (List.all_eq_true.1 rfl)
    replace c125 := c125.sn t137
    replace c130 := c130.sn t137
    replace c132 := c132.sn t137
    replace c129 := c129.sn t137
    replace c136 := d137
    have T137 := T136.tr t137
    have V137 := V136.tr t137
    have N137 := T137.nx
    have NV137 := V137.nx
    refine L_st _ rfl rfl rfl kr kr (e137) (L_nil (W_sg 1 kr (L_ld _ rfl rfl kr (c136.ld (o := 3) kr rfl) (L_i (s.y) (0) (.bool (decide (0 < s.y))) rfl rfl kr kr rfl (rfl) (L_nil ?_)))))
    refine W_cond (decide (0 < s.y)) kr (fun hb => ?_) (fun hb => ?_)
    ·
      have hy0 : 0 < s.y := of_decide_eq_true hb
      have hy12 : s.y = 1 ∨ s.y = 2 := by rcases hc with ⟨h0, _⟩ | ⟨h1, _⟩ | ⟨h2, _⟩ <;> omega
      rcases hy12 with hy | hy
      ·
        have hw : waitsI ((timesS N L C) p) (i + 1) = (wrp ((waitsI ((timesS N L C) p) i).1 + s.w), (waitsI ((timesS N L C) p) i).2) := by rw [waitsI_step hs]; unfold wStep; rw [if_pos hy]
        refine W_drawn kr (D_e (e := 14) (l := [0,1,2,3,4,5,6,7,8,9,10,11,12,13]) (s' := []) kr kr rfl kr Rk_nil (NS_b 1 kr (NS_ld _ rfl rfl kr kr kr (c130.ld (o := 3) kr rfl) (NS_b 2 kr (NS_ld _ rfl rfl kr kr kr (c136.ld (o := 3) kr rfl) (NS_i (s.y) (1) (nv 0) rfl rfl kr kr kr kr rfl (by rw [hy]; rfl) (NS_ix _ rfl rfl kr kr kr kr (ix_clK (b := hf.next) (k := 2) (el := 53) (n := N) kr kr hlt .i64) (NS_ix _ rfl rfl kr kr kr kr (ix_arr (b := hf.next) (o := p * 2) (j := 0) (n := 2) (el := 3) kr kr (by decide) .i64) (NS_ld _ rfl rfl kr kr kr (c129.ld (o := p * 2 + 0) kr (wV_at (j := 0) hlt (by decide))) (NS_b 1 kr (NS_ld _ rfl rfl kr kr kr (c136.ld (o := 2) kr rfl) ?_)))))))))))
        refine NS_i ((waitsI ((timesS N L C) p) i).1) (s.w) (nv (wrp ((waitsI ((timesS N L C) p) i).1 + s.w))) rfl rfl kr kr kr kr rfl (rfl) (NS_ix _ rfl rfl kr kr kr kr (ix_clK (b := hf.next) (k := 2) (el := 53) (n := N) kr kr hlt .i64) (NS_ix _ rfl rfl kr kr kr kr (ix_arr (b := hf.next) (o := p * 2) (j := 0) (n := 2) (el := 3) kr kr (by decide) .i64) (NS_nil ?_)))
        obtain ⟨h138, e138, d138, t138, n138⟩ := c129.store (P := Tryz.prog) (T := 3) (o := p * 2 + 0) (v := nv (wrp ((waitsI ((timesS N L C) p) i).1 + s.w))) kr rfl rfl (by rw [wV_len]; omega)
        rw [wV_set (a' := (wrp ((waitsI ((timesS N L C) p) i).1 + s.w), (waitsI ((timesS N L C) p) i).2)) hlt (by decide) rfl rfl, ← hw] at d138
        replace c125 := c125.sn t138
        replace c130 := c130.sn t138
        replace c132 := c132.sn t138
        replace c129 := d138
        have T138 := T137.tr t138
        have V138 := V137.tr t138
        have N138 := T138.nx
        have NV138 := V138.nx
        refine L_st _ rfl rfl rfl kr kr (e138) ?_
        refine L_nil ⟨rfl, ?_⟩
        refine D_l (l := []) kr kr Rk_nil (NS_nil (W_region (L_i ((i : Int)) (1) (nv ((i + 1 : Nat) : Int)) rfl rfl kr kr rfl (inc_ok (by omega)) (L_g 1 kr (L_nil ?_)))))
        exact ⟨((timesS N L C) p).length - (i + 1), by omega, i + 1, by omega, V138, rfl, kr, kr, kr, kr, kr, kr, kr, kr, kr, kr, kr, kr, kr, T138, c125, c130, c132, c129⟩
      ·
        have hw : waitsI ((timesS N L C) p) (i + 1) = ((waitsI ((timesS N L C) p) i).1, wrp ((waitsI ((timesS N L C) p) i).2 + s.w)) := by rw [waitsI_step hs]; unfold wStep; rw [if_neg (by omega), if_pos hy]
        refine W_drawn kr (D_e (e := 14) (l := [0,1,2,3,4,5,6,7,8,9,10,11,12,13]) (s' := []) kr kr rfl kr Rk_nil (NS_b 1 kr (NS_ld _ rfl rfl kr kr kr (c130.ld (o := 3) kr rfl) (NS_b 2 kr (NS_ld _ rfl rfl kr kr kr (c136.ld (o := 3) kr rfl) (NS_i (s.y) (1) (nv 1) rfl rfl kr kr kr kr rfl (by rw [hy]; rfl) (NS_ix _ rfl rfl kr kr kr kr (ix_clK (b := hf.next) (k := 2) (el := 53) (n := N) kr kr hlt .i64) (NS_ix _ rfl rfl kr kr kr kr (ix_arr (b := hf.next) (o := p * 2) (j := 1) (n := 2) (el := 3) kr kr (by decide) .i64) (NS_ld _ rfl rfl kr kr kr (c129.ld (o := p * 2 + 1) kr (wV_at (j := 1) hlt (by decide))) (NS_b 1 kr (NS_ld _ rfl rfl kr kr kr (c136.ld (o := 2) kr rfl) ?_)))))))))))
        refine NS_i ((waitsI ((timesS N L C) p) i).2) (s.w) (nv (wrp ((waitsI ((timesS N L C) p) i).2 + s.w))) rfl rfl kr kr kr kr rfl (rfl) (NS_ix _ rfl rfl kr kr kr kr (ix_clK (b := hf.next) (k := 2) (el := 53) (n := N) kr kr hlt .i64) (NS_ix _ rfl rfl kr kr kr kr (ix_arr (b := hf.next) (o := p * 2) (j := 1) (n := 2) (el := 3) kr kr (by decide) .i64) (NS_nil ?_)))
        obtain ⟨h139, e139, d139, t139, n139⟩ := c129.store (P := Tryz.prog) (T := 3) (o := p * 2 + 1) (v := nv (wrp ((waitsI ((timesS N L C) p) i).2 + s.w))) kr rfl rfl (by rw [wV_len]; omega)
        rw [wV_set (a' := ((waitsI ((timesS N L C) p) i).1, wrp ((waitsI ((timesS N L C) p) i).2 + s.w))) hlt (by decide) rfl rfl, ← hw] at d139
        replace c125 := c125.sn t139
        replace c130 := c130.sn t139
        replace c132 := c132.sn t139
        replace c129 := d139
        have T139 := T137.tr t139
        have V139 := V137.tr t139
        have N139 := T139.nx
        have NV139 := V139.nx
        refine L_st _ rfl rfl rfl kr kr (e139) ?_
        refine L_nil ⟨rfl, ?_⟩
        refine D_l (l := []) kr kr Rk_nil (NS_nil (W_region (L_i ((i : Int)) (1) (nv ((i + 1 : Nat) : Int)) rfl rfl kr kr rfl (inc_ok (by omega)) (L_g 1 kr (L_nil ?_)))))
        exact ⟨((timesS N L C) p).length - (i + 1), by omega, i + 1, by omega, V139, rfl, kr, kr, kr, kr, kr, kr, kr, kr, kr, kr, kr, kr, kr, T139, c125, c130, c132, c129⟩
    ·
      have hy0 : ¬ 0 < s.y := of_decide_eq_false hb
      have hw : waitsI ((timesS N L C) p) (i + 1) = waitsI ((timesS N L C) p) i := by
        rw [waitsI_step hs]; unfold wStep
        rw [if_neg (by omega), if_neg (by omega)]
      refine W_skip (W_region (L_i ((i : Int)) (1) (nv ((i + 1 : Nat) : Int)) rfl rfl kr kr rfl (inc_ok (by omega)) (L_g 1 kr (L_nil ?_))))
      rw [← hw] at c129
      exact ⟨((timesS N L C) p).length - (i + 1), by omega, i + 1, by omega, V137, rfl, kr, kr, kr, kr, kr, kr, kr, kr, kr, kr, kr, kr, kr, T137, c125, c130, c132, c129⟩
   ·
    have hge2 : i = ((timesS N L C) p).length := by simp at hb; omega
    refine W_exit ?_
    repeat with_reducible refine then_exit ?_
    refine exit_here (W_sg 1 kr (L_ln _ rfl rfl kr ((X.ext Vi).lenR (T := 51) (el := 55) kr p) (L_g 1 kr (L_nil (W_seq ?_)))))
    obtain ⟨n, hn⟩ : ∃ n, n = ((timesS N L C) p).length := ⟨_, rfl⟩
    have lcase : (n = 0 ∧ lastT (timesS N L C) (p + 1) = (lastT (timesS N L C) p)) ∨ (0 < n ∧ ∃ s, ((timesS N L C) p)[n - 1]? = some s ∧ (((lastT (timesS N L C) p) = none ∧ lastT (timesS N L C) (p + 1) = some (p, s.e)) ∨ ∃ a, (lastT (timesS N L C) p) = some a ∧ lastT (timesS N L C) (p + 1) = if a.2 < s.e then some (p, s.e) else some a)) := by
      subst hn
      by_cases h0 : ((timesS N L C) p).length = 0
      · exact .inl ⟨h0, lastT_nil h0⟩
      · refine .inr ⟨by omega, _, List.getElem?_eq_getElem (by omega), ?_⟩
        have h5 := lastT_new (S := (timesS N L C)) (p := p) (List.getElem?_eq_getElem (show ((timesS N L C) p).length - 1 < ((timesS N L C) p).length by omega))
        cases hla : (lastT (timesS N L C) p) with
        | none => rw [hla] at h5; exact .inl ⟨rfl, h5⟩
        | some a => rw [hla] at h5; exact .inr ⟨a, rfl, h5⟩
    rcases lcase with ⟨h0, hl1⟩ | ⟨h0, s, hs, ⟨hla, hl1⟩ | ⟨a, hla, hl1⟩⟩
    ·
      refine W_drawn kr (D_l (l := [0,1,2,3,4,5,6,7,8,9,10,11,12,13,14,15,16,17]) kr kr Rk_nil (NS_b 1 kr (NS_i ((((timesS N L C) p).length : Int)) (0) (.bool false) rfl rfl kr kr kr kr rfl (by rw [show ((timesS N L C) p).length = 0 by omega]; rfl) (NS_b 16 kr (NS_nil ?_)))))
      refine W_cond false kr (fun e => by cases e) (fun _ => ?_)
      refine W_skip (W_region (L_i ((p : Int)) (1) (nv ((p + 1 : Nat) : Int)) rfl rfl kr kr rfl (inc_ok (by omega)) (L_g 1 kr (L_nil ?_))))
      rw [hge2, waitsI_N, wV_next] at c129
      rw [← hl1] at c132 c130
      exact ⟨N - (p + 1), by omega, p + 1, by omega, Vi, rfl, kr, kr, kr, kr, kr, kr, kr, kr, T135, c125, c130, c132, c129⟩
    ·
      rw [hla] at c132 c130
      refine W_drawn kr (D_l (l := [0,1,2,3,4,5,6,7,8,9,10,11,12,13,14,15,16,17]) kr kr Rk_nil (NS_b 1 kr (NS_i ((((timesS N L C) p).length : Int)) (0) (.bool true) rfl rfl kr kr kr kr rfl (by simp; omega) (NS_b 2 kr (NS_ld _ rfl rfl kr kr kr (c132.ld (o := 0) kr rfl) (NS_i ((-1)) (0) (.bool true) rfl rfl kr kr kr kr rfl (by first | (simp; done) | (simp; omega)) (NS_b 12 kr (NS_nil ?_))))))))
      refine W_cond true kr (fun _ => ?_) (fun e => by cases e)
      refine W_drawn kr (D_e (e := 10) (l := [0,1,2,3,4,5,6,7,8,9]) (s' := [4,5,6,7,8,9]) kr kr rfl kr Rk_nil (NS_b 2 kr (NS_i ((((timesS N L C) p).length : Int)) (1) (nv ((n - 1 : Nat) : Int)) rfl rfl kr kr kr kr rfl (by rw [← hn]; exact dec_ok (by omega) (by omega)) (NS_b 3 kr (NS_i ((((timesS N L C) p).length : Int)) (1) (nv ((n - 1 : Nat) : Int)) rfl rfl kr kr kr kr rfl (by rw [← hn]; exact dec_ok (by omega) (by omega)) ?_)))))
      obtain ⟨b2, o2, i2, l2⟩ := (X.ext Vi).sp (T := 51) (el := 55) kr kr hs
      refine NS_ix _ rfl rfl kr kr kr kr (i2) (NS_b 1 kr (NS_ld _ rfl rfl kr kr kr (ld_cell kr (SpL.spCell (X.ext Vi) (T := 51) (el := 55) kr kr hs i2 (j := 1) (by decide))) (NS_nil ?_)))
      obtain ⟨h140, e140, d140, t140, n140⟩ := Cl.storeN (P := Tryz.prog) (T := 91) (n := 2) (v := .agg ⟨[nv (p : Int), nv ((n - 1 : Nat) : Int)]⟩) (cs := [nv (p : Int), nv ((n - 1 : Nat) : Int)]) c132 (by first | exact h9l | exact sp4_len _ | exact lstC_len _ _) kr rfl rfl (List.all_eq_true.1 rfl)
      replace c125 := c125.sn t140
      replace c130 := c130.sn t140
      replace c129 := c129.sn t140
      replace c132 := d140
      have T140 := T135.tr t140
      have V140 := Vi.tr t140
      have N140 := T140.nx
      have NV140 := V140.nx
      refine L_st _ rfl rfl rfl kr kr (e140) ?_
      refine L_nil ⟨rfl, ?_⟩
      refine D_e (e := 12) (l := [11]) (s' := []) kr kr rfl kr (Rk_1 rfl rfl (Rk_1 rfl rfl (Rk_i ((((timesS N L C) p).length : Int)) (1) (nv ((n - 1 : Nat) : Int)) rfl rfl rfl kr kr rfl (by rw [← hn]; exact dec_ok (by omega) (by omega)) kr (Rk_1 rfl rfl (Rk_1 rfl rfl (Rk_ld _ rfl rfl rfl kr (ld_cell kr (SpL.spCell (X.ext V140) (T := 51) (el := 55) kr kr hs i2 (j := 1) (by decide))) kr Rk_nil)))))) (NS_b 1 kr (NS_nil ?_))
      obtain ⟨h141, e141, d141, t141, n141⟩ := c130.store (P := Tryz.prog) (T := 3) (o := 1) (v := nv s.e) kr rfl rfl (by simp)
      replace d141 : Cl h141 (h129.next) [.slice (some ⟨B, 0, none⟩) N N, nv s.e, .slice none 0 0, .slice (some ⟨hf.next, 0, none⟩) N N] := d141
      replace c125 := c125.sn t141
      replace c132 := c132.sn t141
      replace c129 := c129.sn t141
      replace c130 := d141
      have T141 := T140.tr t141
      have V141 := V140.tr t141
      have N141 := T141.nx
      have NV141 := V141.nx
      refine L_st _ rfl rfl rfl kr kr (e141) ?_
      refine L_nil ⟨rfl, ?_⟩
      refine D_l (l := []) kr kr Rk_nil (NS_nil (W_region (L_i ((p : Int)) (1) (nv ((p + 1 : Nat) : Int)) rfl rfl kr kr rfl (inc_ok (by omega)) (L_g 1 kr (L_nil ?_)))))
      rw [hge2, waitsI_N, wV_next] at c129
      rw [show [nv (p : Int), nv ((n - 1 : Nat) : Int)] = lstC (timesS N L C) (lastT (timesS N L C) (p + 1)) by rw [hl1, hn]; rfl] at c132
      rw [show nv s.e = nv (endV (lastT (timesS N L C) (p + 1))) by rw [hl1]; rfl] at c130
      exact ⟨N - (p + 1), by omega, p + 1, by omega, V141, rfl, kr, kr, kr, kr, kr, kr, kr, kr, T141, c125, c130, c132, c129⟩
    ·
      rw [hla] at c132 c130
      refine W_drawn kr (D_l (l := [0,1,2,3,4,5,6,7,8,9,10,11,12,13,14,15,16,17]) kr kr Rk_nil (NS_b 1 kr (NS_i ((((timesS N L C) p).length : Int)) (0) (.bool true) rfl rfl kr kr kr kr rfl (by simp; omega) (NS_b 2 kr (NS_ld _ rfl rfl kr kr kr (c132.ld (o := 0) kr rfl) (NS_i ((a.1 : Int)) (0) (.bool false) rfl rfl kr kr kr kr rfl (by first | (simp; done) | (simp; omega)) (NS_b 3 kr (NS_i ((((timesS N L C) p).length : Int)) (1) (nv ((n - 1 : Nat) : Int)) rfl rfl kr kr kr kr rfl (by rw [← hn]; exact dec_ok (by omega) (by omega)) ?_))))))))
      obtain ⟨b2, o2, i2, l2⟩ := (X.ext Vi).sp (T := 51) (el := 55) kr kr hs
      refine NS_ix _ rfl rfl kr kr kr kr (i2) (NS_b 1 kr (NS_ld _ rfl rfl kr kr kr (ld_cell kr (SpL.spCell (X.ext Vi) (T := 51) (el := 55) kr kr hs i2 (j := 1) (by decide))) (NS_b 1 kr (NS_ld _ rfl rfl kr kr kr (c130.ld (o := 1) kr rfl) (NS_i (s.e) (a.2) (.bool (decide (a.2 < s.e))) rfl rfl kr kr kr kr rfl (rfl) (NS_b 2 kr (NS_nil ?_)))))))
      refine W_cond (decide (a.2 < s.e)) kr (fun hb => ?_) (fun hb => ?_)
      ·
        have hl1 := hl1.trans (if_pos (of_decide_eq_true hb))
        refine W_drawn kr (D_e (e := 10) (l := [0,1,2,3,4,5,6,7,8,9]) (s' := [4,5,6,7,8,9]) kr kr rfl kr Rk_nil (NS_b 2 kr (NS_i ((((timesS N L C) p).length : Int)) (1) (nv ((n - 1 : Nat) : Int)) rfl rfl kr kr kr kr rfl (by rw [← hn]; exact dec_ok (by omega) (by omega)) (NS_b 3 kr (NS_i ((((timesS N L C) p).length : Int)) (1) (nv ((n - 1 : Nat) : Int)) rfl rfl kr kr kr kr rfl (by rw [← hn]; exact dec_ok (by omega) (by omega)) ?_)))))
        obtain ⟨b2, o2, i2, l2⟩ := (X.ext Vi).sp (T := 51) (el := 55) kr kr hs
        refine NS_ix _ rfl rfl kr kr kr kr (i2) (NS_b 1 kr (NS_ld _ rfl rfl kr kr kr (ld_cell kr (SpL.spCell (X.ext Vi) (T := 51) (el := 55) kr kr hs i2 (j := 1) (by decide))) (NS_nil ?_)))
        obtain ⟨h142, e142, d142, t142, n142⟩ := Cl.storeN (P := Tryz.prog) (T := 91) (n := 2) (v := .agg ⟨[nv (p : Int), nv ((n - 1 : Nat) : Int)]⟩) (cs := [nv (p : Int), nv ((n - 1 : Nat) : Int)]) c132 (by first | exact h9l | exact sp4_len _ | exact lstC_len _ _) kr rfl rfl (List.all_eq_true.1 rfl)
        replace c125 := c125.sn t142
        replace c130 := c130.sn t142
        replace c129 := c129.sn t142
        replace c132 := d142
        have T142 := T135.tr t142
        have V142 := Vi.tr t142
        have N142 := T142.nx
        have NV142 := V142.nx
        refine L_st _ rfl rfl rfl kr kr (e142) ?_
        refine L_nil ⟨rfl, ?_⟩
        refine D_e (e := 12) (l := [11]) (s' := []) kr kr rfl kr (Rk_1 rfl rfl (Rk_1 rfl rfl (Rk_i ((((timesS N L C) p).length : Int)) (1) (nv ((n - 1 : Nat) : Int)) rfl rfl rfl kr kr rfl (by rw [← hn]; exact dec_ok (by omega) (by omega)) kr (Rk_1 rfl rfl (Rk_1 rfl rfl (Rk_ld _ rfl rfl rfl kr (ld_cell kr (SpL.spCell (X.ext V142) (T := 51) (el := 55) kr kr hs i2 (j := 1) (by decide))) kr Rk_nil)))))) (NS_b 1 kr (NS_nil ?_))
        obtain ⟨h143, e143, d143, t143, n143⟩ := c130.store (P := Tryz.prog) (T := 3) (o := 1) (v := nv s.e) kr rfl rfl (by simp)
        replace d143 : Cl h143 (h129.next) [.slice (some ⟨B, 0, none⟩) N N, nv s.e, .slice none 0 0, .slice (some ⟨hf.next, 0, none⟩) N N] := d143
        replace c125 := c125.sn t143
        replace c132 := c132.sn t143
        replace c129 := c129.sn t143
        replace c130 := d143
        have T143 := T142.tr t143
        have V143 := V142.tr t143
        have N143 := T143.nx
        have NV143 := V143.nx
        refine L_st _ rfl rfl rfl kr kr (e143) ?_
        refine L_nil ⟨rfl, ?_⟩
        refine D_l (l := []) kr kr Rk_nil (NS_nil (W_region (L_i ((p : Int)) (1) (nv ((p + 1 : Nat) : Int)) rfl rfl kr kr rfl (inc_ok (by omega)) (L_g 1 kr (L_nil ?_)))))
        rw [hge2, waitsI_N, wV_next] at c129
        rw [show [nv (p : Int), nv ((n - 1 : Nat) : Int)] = lstC (timesS N L C) (lastT (timesS N L C) (p + 1)) by rw [hl1, hn]; rfl] at c132
        rw [show nv s.e = nv (endV (lastT (timesS N L C) (p + 1))) by rw [hl1]; rfl] at c130
        exact ⟨N - (p + 1), by omega, p + 1, by omega, V143, rfl, kr, kr, kr, kr, kr, kr, kr, kr, T143, c125, c130, c132, c129⟩
      ·
        have hl1 := hl1.trans (if_neg (of_decide_eq_false hb))
        refine W_skip (W_region (L_i ((p : Int)) (1) (nv ((p + 1 : Nat) : Int)) rfl rfl kr kr rfl (inc_ok (by omega)) (L_g 1 kr (L_nil ?_))))
        rw [hge2, waitsI_N, wV_next] at c129
        rw [← hl1] at c132 c130
        exact ⟨N - (p + 1), by omega, p + 1, by omega, Vi, rfl, kr, kr, kr, kr, kr, kr, kr, kr, T135, c125, c130, c132, c129⟩
  ·
   have hge : N = p := by simp at hb; omega
   subst hge
   obtain ⟨bm0, hbm0⟩ : ∃ b, b = (lastT (timesS N L C) N).isSome := ⟨_, rfl⟩
   obtain ⟨m00, a0, hin⟩ : ∃ m00 a0, ((bm0 = true ∧ ∃ rest, Pth N L (timesS N L C) a0 rest ∧ pathT N L (timesS N L C) = [] ++ rest ∧ m00 = rest.length + 1 ∧ lstC (timesS N L C) (lastT (timesS N L C) N) = st2 a0) ∨ (bm0 = false ∧ pathT N L (timesS N L C) = [] ∧ m00 = 0)) := by
    cases hla : lastT (timesS N L C) N with
    | none => exact ⟨0, (0, 0), .inr ⟨by rw [hbm0, hla]; rfl, pathT_none hla, rfl⟩⟩
    | some a => exact ⟨_, _, .inl ⟨by rw [hbm0, hla]; rfl, _, (pathT_ok D hla).1, rfl, rfl, rfl⟩⟩
   have hpl : (pathT N L (timesS N L C)).length ≤ 640000 := by
    cases hla : lastT (timesS N L C) N with
    | none => rw [pathT_none hla]; exact Nat.zero_le _
    | some a => have := (pathT_ok D hla).2.1; have := A.tot D.g; omega
   refine W_exit ?_
   repeat with_reducible refine then_exit ?_
   refine exit_here (W_seq (W_sg 1 kr (L_ld _ rfl rfl kr (c132.ld (o := 0) kr (lst0 _ _)) (L_i ((fst0 (lastT (timesS N L C) N))) (0) (.bool (lastT (timesS N L C) N).isSome) rfl rfl kr kr rfl (show Value.bool (decide (0 ≤ fst0 (lastT (timesS N L C) N))) = _ by rw [fst0_some]) (L_g 1 kr (L_nil (W_block ?_)))))))
   refine W_loop (fun mm fr hh => ∃ (bm : Bool) (a : Nat × Nat) (dl : List (Nat × Nat)) (mm1 : Nat) (c9v : List Value) (pa : Option Addr) (pc : Nat), (((bm = true ∧ ∃ rest, Pth N L (timesS N L C) a rest ∧ pathT N L (timesS N L C) = dl ++ rest ∧ mm1 = rest.length + 1 ∧ c9v = st2 a) ∨ (bm = false ∧ pathT N L (timesS N L C) = dl ∧ mm1 = 0))) ∧ (c9v.length = 2) ∧ (Gr hh 2 (.slice pa dl.length pc) dl.length (dl.flatMap st2)) ∧ (∀ b, vb (.slice pa dl.length pc) = some b → h134.next ≤ b) ∧ (dl.length ≤ 640000) ∧ (Sm Nix hf hh) ∧ (h134.next ≤ hh.next) ∧ mm = mm1 ∧ fr 0 = VL none ∧ fr 4 = ptr h124.next ∧ fr 6 = ptr tb ∧ fr 8 = ptr h129.next ∧ fr 9 = ptr h131.next ∧ fr 15 = .bool bm ∧ Sm Nix h hh ∧ Cl hh (h124.next) [.slice none 0 0, nv 0, .slice none 0 0, .slice none 0 0] ∧ Cl hh (h129.next) [.slice (some ⟨B, 0, none⟩) N N, nv (endV (lastT (timesS N L C) N)), .slice pa dl.length pc, .slice (some ⟨hf.next, 0, none⟩) N N] ∧ Cl hh (h131.next) c9v ∧ Cl hh (hf.next) (wV N (timesS N L C) N (0, 0))) (m00) ?_ ?_
   ·
    exact ⟨bm0, a0, [], m00, (lstC (timesS N L C) (lastT (timesS N L C) N)), none, 0, hin, lstC_len _ _, Gr.nil, (fun b hb => by cases hb), (by simp), Vp, Nat.le_refl _, rfl, kr, kr, kr, kr, kr, by rw [hbm0]; kernel_rfl, T134, c125, c130, c132, c129⟩
   rintro mm144 fr144 h144 ⟨bm, a, dl, mm1, c9v, pa, pc, hbm, h9l, Gp, hpb, hdl, Vl, hPB, hm144, y144_0, y144_4, y144_6, y144_8, y144_9, y144_15, T144, c125, c130, c132, c129⟩
   have N144 := T144.nx
   have B144_t4 := c125.lt
   have B144_t8 := c130.lt
   have B144_t9 := c132.lt
   have B144_t32 := c129.lt
   refine W_set (k := 0) y144_0 (W_set (k := 4) y144_4 (W_set (k := 6) y144_6 (W_set (k := 8) y144_8 (W_set (k := 9) y144_9 (W_set (k := 15) y144_15 ?_)))))
   have W144 : Sm Nix h144 h144 := .refl
   refine W_seq (W_sg 1 kr (L_nil ?_))
   refine W_cond (bm) kr (fun hb => ?_) (fun hb => ?_)
   ·
    subst hb
    obtain ⟨rest, hpth, hpt, hmm, h9e⟩ : ∃ rest, Pth N L (timesS N L C) a rest ∧ pathT N L (timesS N L C) = dl ++ rest ∧ mm1 = rest.length + 1 ∧ c9v = st2 a := by
      rcases hbm with ⟨_, h⟩ | ⟨h, _⟩
      · exact h
      · cases h
    subst h9e
    have ha2 : a.2 < ((timesS N L C) a.1).length := pathT_mem D a (by rw [hpt]; exact List.mem_append_right _ (pth_mem hpth))
    have hlen : dl.length + rest.length = (pathT N L (timesS N L C)).length := by rw [hpt]; simp
    have hr1 : 0 < rest.length := List.length_pos_of_mem (pth_mem hpth)
    refine W_skip (W_block (W_sg 1 kr (L_ld _ rfl rfl kr (c130.ld (o := 2) kr rfl) (L_ld _ rfl rfl kr (Cl.allN (n := 2) c132 (by first | exact h9l | exact sp4_len _ | exact lstC_len _ _) kr) (L_nwc [nv (a.1 : Int), nv (a.2 : Int)] (.sl 1 1) rfl rfl kr fun h145 c145 t145 n145 => ?_)))))
    replace c125 := c125.ext t145
    replace c130 := c130.ext t145
    replace c132 := c132.ext t145
    replace c129 := c129.ext t145
    have T145 := T144.ext t145
    have V145 := Vl.ext t145
    have W145 := W144.ext t145
    have N145 := T145.nx
    have NV145 := V145.nx
    have NW145 := W145.nx
    obtain ⟨v146, h146, e146, g146, s146, n146⟩ := Gr.append (P := Tryz.prog) (sT := 32) (xT := 32) (el := 91) (by_ := 16) (z := .agg ⟨[nv 0, nv 0]⟩) (m := 1) (ds := st2 a) kr kr kr kr kr kr (by decide) (Gp.ext W145) (u := .slice (some ⟨h144.next, 0, none⟩) 1 1) (Cl.sdK (by decide) c145 rfl) st2_one (by omega)
    obtain ⟨av146, cv146, rfl⟩ := g146.sd.form
    have q146 : ∀ b, vb (.slice av146 (dl.length + 1) cv146) = some b → h134.next ≤ b := fun b hb => (n146 b hb).elim (hpb b) (fun e => by omega)
    refine L_bi (.slice av146 (dl.length + 1) cv146) h146 rfl rfl kr (vs := [.slice pa dl.length pc, .slice (some ⟨h144.next, 0, none⟩) 1 1]) kr (bi_append e146) ?_
    replace c125 := c125.sm s146 (fun hb => by first | (have := hpb _ hb; omega) | (have := Gp.lt hb; omega))
    replace c130 := c130.sm s146 (fun hb => by first | (have := hpb _ hb; omega) | (have := Gp.lt hb; omega))
    replace c132 := c132.sm s146 (fun hb => by first | (have := hpb _ hb; omega) | (have := Gp.lt hb; omega))
    replace c129 := c129.sm s146 (fun hb => by first | (have := hpb _ hb; omega) | (have := Gp.lt hb; omega))
    have T146 : Sm Nix h h146 := T145.trans s146 (fun b hb => .inr (by have := hpb b hb; omega))
    have N146 := T146.nx
    have V146 : Sm Nix hf h146 := V145.trans s146 (fun b hb => .inr (by have := hpb b hb; omega))
    have NV146 := V146.nx
    have Y146 : Sm (fun b => b < h134.next) h146 h146 := .refl
    have NS146 := s146.nx
    refine L_g 1 kr ?_
    obtain ⟨h147, e147, d147, t147, n147⟩ := c130.store (P := Tryz.prog) (T := 32) (o := 2) (v := (.slice av146 (dl.length + 1) cv146)) kr rfl rfl (by simp)
    replace d147 : Cl h147 (h129.next) [.slice (some ⟨B, 0, none⟩) N N, nv (endV (lastT (timesS N L C) N)), (.slice av146 (dl.length + 1) cv146), .slice (some ⟨hf.next, 0, none⟩) N N] := d147
    replace c125 := c125.sn t147
    replace c132 := c132.sn t147
    replace c129 := c129.sn t147
    replace c130 := d147
    have T147 := T146.tr t147
    have V147 := V146.tr t147
    have Y147 : Sm (fun b => b < h134.next) h146 h147 := Y146.tr t147
    have N147 := T147.nx
    have NV147 := V147.nx
    have NY147 := Y147.nx
    refine L_st _ rfl rfl rfl kr kr (e147) (L_nil (W_rg 1 kr (L_ld _ rfl rfl kr (Cl.allN (n := 2) c132 (by first | exact h9l | exact sp4_len _ | exact lstC_len _ _) kr) (L_c rfl rfl kr (cause_ok (p := a.1) (i := a.2) (H.ext V147) (X.ext V147) D A ha2) ?_))))
    rintro vc hc2 ⟨hcv, tc⟩
    dsimp only at hcv tc
    rcases hcc : cause N L (timesS N L C) a with _ | b2 <;> rw [show cause N L (timesS N L C) (a.1, a.2) = _ from hcc] at hcv
    ·
      obtain ⟨u, w, hcv⟩ := hcv
      subst hcv
      replace c125 := c125.ext tc
      replace c130 := c130.ext tc
      replace c132 := c132.ext tc
      replace c129 := c129.ext tc
      have Tc := T147.ext tc
      have Vc := V147.ext tc
      have Yc := Y147.ext tc
      have Ncc := Tc.nx
      have NYc := tc.nx
      have hre : rest = [a] := by
        rcases hpth.inv with ⟨_, h⟩ | ⟨b, r, h, _⟩
        · exact h
        · rw [hcc] at h; cases h
      refine L_g 3 kr ?_
      obtain ⟨h149, e149, d149, t149, n149⟩ := Cl.storeN (P := Tryz.prog) (T := 91) (n := 2) (v := .agg ⟨[nv u, nv w]⟩) (cs := [nv u, nv w]) c132 (by first | exact h9l | exact sp4_len _ | exact lstC_len _ _) kr rfl rfl (List.all_eq_true.1 rfl)
      replace c125 := c125.sn t149
      replace c130 := c130.sn t149
      replace c129 := c129.sn t149
      replace c132 := d149
      have T149 := Tc.tr t149
      have V149 := Vc.tr t149
      have Y149 : Sm (fun b => b < h134.next) h146 h149 := Yc.tr t149
      have N149 := T149.nx
      have NV149 := V149.nx
      have NY149 := Y149.nx
      refine L_st _ rfl rfl rfl kr kr (e149) (L_g 1 kr (L_nil ?_))
      have hdla : (dl ++ [a]).length = dl.length + 1 := by simp
      rw [← hdla] at c130
      exact ⟨0, by omega, false, a, (dl ++ [a]), 0, [nv u, nv w], av146, cv146, (.inr ⟨rfl, by rw [hpt, hre], rfl⟩), rfl, (by have G9 := g146.sm Y149 (fun b hb hx => by have := q146 b hb; have hx : b < h134.next := hx; omega); simpa using G9), (by simpa using q146), (by simp; omega), V149, by omega, rfl, kr, kr, kr, kr, kr, kr, T149, c125, c130, c132, c129⟩
    ·
      have hcv : vc = _ := hcv
      subst hcv
      replace c125 := c125.ext tc
      replace c130 := c130.ext tc
      replace c132 := c132.ext tc
      replace c129 := c129.ext tc
      have Tc := T147.ext tc
      have Vc := V147.ext tc
      have Yc := Y147.ext tc
      have Ncc := Tc.nx
      have NYc := tc.nx
      obtain ⟨r2, hre, hp2⟩ : ∃ r, rest = a :: r ∧ Pth N L (timesS N L C) b2 r := by
        rcases hpth.inv with ⟨h, _⟩ | ⟨b, r, h, h1, h2⟩
        · rw [hcc] at h; cases h
        · rw [hcc] at h; cases h; exact ⟨r, h1, h2⟩
      have hrl : rest.length = r2.length + 1 := by rw [hre]; rfl
      refine L_g 3 kr ?_
      obtain ⟨h151, e151, d151, t151, n151⟩ := Cl.storeN (P := Tryz.prog) (T := 91) (n := 2) (v := .agg ⟨[nv (b2.1 : Int), nv (b2.2 : Int)]⟩) (cs := [nv (b2.1 : Int), nv (b2.2 : Int)]) c132 (by first | exact h9l | exact sp4_len _ | exact lstC_len _ _) kr rfl rfl (List.all_eq_true.1 rfl)
      replace c125 := c125.sn t151
      replace c130 := c130.sn t151
      replace c129 := c129.sn t151
      replace c132 := d151
      have T151 := Tc.tr t151
      have V151 := Vc.tr t151
      have Y151 : Sm (fun b => b < h134.next) h146 h151 := Yc.tr t151
      have N151 := T151.nx
      have NV151 := V151.nx
      have NY151 := Y151.nx
      refine L_st _ rfl rfl rfl kr kr (e151) (L_g 1 kr (L_nil ?_))
      have hdla : (dl ++ [a]).length = dl.length + 1 := by simp
      rw [← hdla] at c130
      exact ⟨(r2.length + 1), by omega, true, b2, (dl ++ [a]), (r2.length + 1), (st2 b2), av146, cv146, (.inl ⟨rfl, r2, hp2, by rw [hpt, hre]; simp, rfl, rfl⟩), rfl, (by have G9 := g146.sm Y151 (fun b hb hx => by have := q146 b hb; have hx : b < h134.next := hx; omega); simpa using G9), (by simpa using q146), (by simp; omega), V151, by omega, rfl, kr, kr, kr, kr, kr, kr, T151, c125, c130, c132, c129⟩
   ·
    subst hb
    have hpt : pathT N L (timesS N L C) = dl := by
      rcases hbm with ⟨h, _⟩ | ⟨_, h, _⟩
      · cases h
      · exact h
    refine W_exit ?_
    repeat with_reducible refine then_exit ?_
    refine exit_here (W_sg 1 kr (L_ld _ rfl rfl kr (c130.ld (o := 2) kr rfl) (L_c rfl rfl kr (reverse_ok (l := dl) (Gp.ext W144).ws (by omega)) ?_)))
    rintro v152 h152 ⟨G152, t152⟩
    dsimp only at G152 t152
    replace c125 := c125.sm t152 (fun hb => by have := hpb _ hb; omega)
    replace c130 := c130.sm t152 (fun hb => by have := hpb _ hb; omega)
    replace c129 := c129.sm t152 (fun hb => by have := hpb _ hb; omega)
    have T152 : Sm Nix h h152 := T144.trans t152 (fun b hb => .inr (by have := hpb b hb; omega))
    have N152 := T152.nx
    have V152 : Sm Nix hf h152 := Vl.trans t152 (fun b hb => .inr (by have := hpb b hb; omega))
    have NV152 := V152.nx
    have Z152 : Sm (fun b => b < h134.next) h152 h152 := .refl
    refine L_nil (W_seq (W_region (L_ld _ rfl rfl kr (Cl.allN (n := 4) c130 rfl kr) ?_)))
    obtain ⟨h153, e153, d153, t153, n153⟩ := c125.sA 35 [.slice (some ⟨B, 0, none⟩) N N, nv (endV (lastT (timesS N L C) N)), .slice pa dl.length pc, .slice (some ⟨hf.next, 0, none⟩) N N]
    replace c129 := c129.sn t153
    replace c125 := d153
    have T153 := T152.tr t153
    have Z153 : Sm (fun b => b < h134.next) h152 h153 := Z152.tr t153
    have N153 := T153.nx
    have NZ153 := Z153.nx
    refine L_st _ rfl rfl rfl kr kr (e153) (L_g 1 kr (L_nil (W_ret ?_)))
    repeat first | with_reducible refine then_ret ?_ | with_reducible refine blk_ret ?_
    refine done_of (.inl rfl) (evR_ct kr kr kr (Cl.allN (n := 4) c125 rfl kr) (w := nv 0) kr) ?_
    refine .inr ⟨he, hi, B, VS, _, _, rfl, (X.ext V152).sm t153 (fun b hb => by have hb : b = _ := hb; exact ⟨by omega, .inl (by omega)⟩), ?_, ?_, T153⟩
    · rw [hpt]
      exact (G152.sm Z153 (fun b hb hx => by have := hpb b hb; have hx : b < h134.next := hx; omega)).sd
    · rw [← wV_all]
      exact Cl.sdK (by decide) c129 (wV_len _ _ _ _)
end
end Go.Proofs.YtjhbbdfbngbjcaaGreatDoor
