/- A part of the walks of profiles. -/
import Derived.Test.YtjhbbdfbngbjcaaGreatDoorYg
import Derived.Test.YtjhbbdfbngbjcaaGreatDoorYi
import Derived.Test.YtjhbbdfbngbjcaaGreatDoorYl
namespace Go.Proofs.YtjhbbdfbngbjcaaGreatDoor
noncomputable section
open Go Go.X Go.Arm
/-- Who is to blame. -/
def BRes (N : Nat) (L : Lf) (C : TC) (h : AH) (r : Value × AH) : Prop :=
 (errT N L C ≠ 0 ∧ r.1 = .tuple ⟨[nilS, nv (errT N L C)]⟩ ∧ Sm Nix h r.2) ∨
 (errT N L C = 0 ∧ ∃ ov, r.1 = .tuple ⟨[ov, nv 0]⟩ ∧ Sd r.2 1 ov N ((blmA N L (timesS N L C) N).map nv) ∧ Sm Nix h r.2)
theorem zrep_one (N : Nat) : zrep N [nv 0] = (List.replicate N (0 : Int)).map nv := by
 have h1 := zrep_flat (fun (_ : Unit) => [nv 0]) () N
 rw [h1]
 induction N with
 | zero => rfl
 | succ n ih =>
  have ih := ih (zrep_flat (fun (_ : Unit) => [nv 0]) () n)
  rw [List.replicate_succ, List.replicate_succ, List.flatMap_cons, List.map_cons, ih]; rfl
theorem blm_at {N q : Nat} {l : List Int} (hl : l.length = N) (hq : q < N) : (l.map nv)[q]? = some (nv ((l[q]?).getD 0)) := by
 rw [List.getElem?_map, List.getElem?_eq_getElem (by omega)]; rfl
theorem blm_set {l : List Int} {q : Nat} {w : Int} : (l.map nv).set q (nv (wrp ((l[q]?).getD 0 + w))) = (addAt l q w).map nv := by
 unfold addAt
 rw [List.map_set]
theorem blm1_step {N p i : Nat} {L : Lf} {S : Sf} {acc : List Int} {s : TS} (hs : (S p)[i]? = some s) : blm1 N L S p acc (i + 1) = addAt (blm1 N L S p acc i) (owner N L S (p, i)).1 s.w := by
 conv => lhs; unfold blm1
 rw [hs]
set_option maxHeartbeats 4000000 in
theorem blame_ok {h : AH} {VL : Option Nat → Value} {N : Nat} {L : Lf} {C : TC} (I : TIn h (fun b => b < h.next) VL N L) (hL0 : ∀ p, N ≤ p → L p = []) (hB : ∀ q, (L q).length < 1000000000) (hN : N < 1000000) :
  Arm.Calls Tryz.prog 8 [VL none, .agg ⟨[nv C.s, nv C.c, nv C.r, nv C.m]⟩] h (BRes N L C h) := by
 refine Calls_W 58 Tryz.f8 ?_
 have T0 : Sm Nix h h := .refl
 refine W_seq (W_region (L_nwc [nv C.s, nv C.c, nv C.r, nv C.m] .ptr rfl rfl kr fun h154 c154 t154 n154 => ?_))
 have T154 := T0.ext t154
 have N154 := T154.nx
 refine L_g 2 kr (L_nil (W_sg 1 kr (L_ld _ rfl rfl kr (Cl.allN (n := 4) c154 rfl kr) (L_c rfl rfl kr (timed_ok (C := C) ((I.ext T154).mono (fun b hb _ => Nat.lt_of_lt_of_le hb T154.nx)) hL0 hB hN) ?_))))
 rintro v1 hf (⟨hne, e1, t1⟩ | ⟨he, tb, F, hi, B, sb, mb, VS, mt, e1, H, X, hFB, hhB, t1⟩)
 ·
  dsimp only at e1 t1
  subst e1
  have Tf := T154.ext t1
  have Nf := Tf.nx
  refine L_g 5 kr (L_nil (W_seq (W_sg 1 kr (L_i ((errT N L C)) (0) (.bool true) rfl rfl kr kr rfl (by simp [hne]) (L_nil ?_)))))
  refine W_cond true kr (fun _ => ?_) (fun e => by cases e)
  refine W_sg 3 kr (L_nil (W_ret ?_))
  repeat first | with_reducible refine then_ret ?_ | with_reducible refine blk_ret ?_
  refine done_of (v := .tuple ⟨[nilS, nv (errT N L C)]⟩) (.inl rfl) kr ?_
  exact .inl ⟨hne, rfl, Tf⟩
 ·
  dsimp only at H X
  dsimp only at e1 t1
  subst e1
  have Tf := T154.ext t1
  have Nf := Tf.nx
  have Vf : Sm Nix hf hf := .refl
  have G := errT_ok hL0 he
  have D := G.d
  have A : Bn N L C := ⟨G.n1, G.len, G.c, D.l⟩
  have hcl := H.cl
  rw [X.b] at hcl
  have hXB := X.Bl
  have hXn := X.hn
  refine L_g 5 kr (L_nil (W_seq (W_sg 1 kr (L_i (0) (0) (.bool false) rfl rfl kr kr rfl (rfl) (L_nil ?_)))))
  refine W_cond false kr (fun e => by cases e) (fun _ => ?_)
  refine W_skip (W_sg 1 kr (L_ln _ rfl rfl kr ((I.ext Tf).len (T := 26) (el := 28) kr) (L_nwc (zrep N [nv 0]) (.sl N N) rfl rfl (ev_mkK (P := Tryz.prog) (k := 1) (el := 3) (z := nv 0) (by_ := 8) kr kr kr kr rfl (by omega) kr kr) fun h157 c157 t157 n157 => ?_)))
  have T157 := Tf.ext t157
  have V157 := Vf.ext t157
  have N157 := T157.nx
  have NV157 := V157.nx
  refine L_g 1 kr (L_nil (W_seq (W_sg 3 kr (L_ld _ rfl rfl kr ((hcl.ext V157).ld (o := 7) kr rfl) (L_ln _ rfl rfl kr (show aLen Tryz.prog 31 (.slice (some ⟨B, 0, none⟩) N N) h157 = _ by rw [← X.b]; exact (X.ext V157).len (T := 31) (el := 51) kr) (L_g 1 kr (L_nil (W_block ?_))))))))
  refine W_loop (fun mm fr hh => ∃ (p : Nat), (p ≤ N) ∧ (Sm Nix hf hh) ∧ mm = N - p ∧ fr 0 = VL none ∧ fr 6 = ptr tb ∧ fr 8 = .slice (some ⟨hf.next, 0, none⟩) N N ∧ fr 28 = .slice (some ⟨B, 0, none⟩) N N ∧ fr 29 = nv (N : Int) ∧ fr 30 = nv (p : Int) ∧ Sm Nix h hh ∧ Cl hh (hf.next) ((blmA N L (timesS N L C) p).map nv)) (N) ?_ ?_
  ·
   rw [zrep_one] at c157
   exact ⟨0, Nat.zero_le _, V157, rfl, kr, kr, kr, kr, kr, kr, T157, c157⟩
  rintro mm158 fr158 h158 ⟨p, hp, Vp, hm158, y158_0, y158_6, y158_8, y158_28, y158_29, y158_30, T158, c157⟩
  have N158 := T158.nx
  have B158_t24 := c157.lt
  refine W_set (k := 0) y158_0 (W_set (k := 6) y158_6 (W_set (k := 8) y158_8 (W_set (k := 28) y158_28 (W_set (k := 29) y158_29 (W_set (k := 30) y158_30 (W_sg 1 kr (L_nil (W_seq ?_))))))))
  refine W_cond (decide ((p : Int) < (N : Nat))) kr (fun hb => ?_) (fun hb => ?_)
  ·
   have hlt : p < N := by simp at hb; omega
   have hSl := D.d p
   have hLl := A.all p
   refine W_skip (W_seq (W_block (W_seq (W_region (L_g 1 kr ?_)))))
   obtain ⟨b1, o1, i1, l1⟩ := (X.ext Vp).row (T := 31) (el := 51) kr kr kr hlt
   rw [X.b] at i1
   refine L_ix _ rfl rfl kr kr (i1) (L_ld _ rfl rfl kr (l1) (L_g 2 kr (L_nil (W_sg 1 kr (L_ln _ rfl rfl kr ((X.ext Vp).lenR (T := 51) (el := 55) kr p) (L_g 1 kr (L_nil (W_block ?_))))))))
   refine W_loop (fun mm fr hh => ∃ (i : Nat), (i ≤ ((timesS N L C) p).length) ∧ (Sm Nix hf hh) ∧ mm = ((timesS N L C) p).length - i ∧ fr 0 = VL none ∧ fr 6 = ptr tb ∧ fr 8 = .slice (some ⟨hf.next, 0, none⟩) N N ∧ fr 9 = nv (p : Int) ∧ fr 28 = .slice (some ⟨B, 0, none⟩) N N ∧ fr 29 = nv (N : Int) ∧ fr 30 = nv (p : Int) ∧ fr 35 = VS (some p) ∧ fr 36 = nv (((timesS N L C) p).length : Int) ∧ fr 37 = nv (i : Int) ∧ Sm Nix h hh ∧ Cl hh (hf.next) ((blm1 N L (timesS N L C) p (blmA N L (timesS N L C) p) i).map nv)) (((timesS N L C) p).length) ?_ ?_
   ·
    exact ⟨0, Nat.zero_le _, Vp, rfl, kr, kr, kr, kr, kr, kr, kr, kr, kr, kr, T158, c157⟩
   rintro mm159 fr159 h159 ⟨i, hil, Vi, hm159, y159_0, y159_6, y159_8, y159_9, y159_28, y159_29, y159_30, y159_35, y159_36, y159_37, T159, c157⟩
   have N159 := T159.nx
   have B159_t24 := c157.lt
   refine W_set (k := 0) y159_0 (W_set (k := 6) y159_6 (W_set (k := 8) y159_8 (W_set (k := 9) y159_9 (W_set (k := 28) y159_28 (W_set (k := 29) y159_29 (W_set (k := 30) y159_30 (W_set (k := 35) y159_35 (W_set (k := 36) y159_36 (W_set (k := 37) y159_37 (W_seq (W_region ?_)))))))))))
   refine L_g 1 kr (L_nil (W_seq ?_))
   refine W_cond (decide ((i : Int) < (((timesS N L C) p).length : Nat))) kr (fun hb => ?_) (fun hb => ?_)
   ·
    have hlt2 : i < ((timesS N L C) p).length := by simp at hb; omega
    obtain ⟨s, hs⟩ : ∃ s, ((timesS N L C) p)[i]? = some s := ⟨_, List.getElem?_eq_getElem hlt2⟩
    have how := owner_lt D (a := (p, i)) hlt2
    have hbl : ((blm1 N L (timesS N L C) p (blmA N L (timesS N L C) p) i)).length = N := by rw [blm1_len, blmA_len]
    refine W_skip (W_seq (W_block (W_seq (W_region (L_g 1 kr ?_)))))
    obtain ⟨b2, o2, i2, l2⟩ := (X.ext Vi).sp (T := 51) (el := 55) kr kr hs
    refine L_ix _ rfl rfl kr kr (i2) (L_ld _ rfl rfl kr (ld_l (l := sp4 s) kr l2) (L_nwc [nv 0, nv 0, nv 0, nv 0] .ptr rfl rfl kr fun h160 c160 t160 n160 => ?_))
    replace c157 := c157.ext t160
    have T160 := T159.ext t160
    have V160 := Vi.ext t160
    have N160 := T160.nx
    have NV160 := V160.nx
    refine L_g 1 kr ?_
    obtain ⟨h161, e161, d161, t161, n161⟩ := Cl.storeN (P := Tryz.prog) (T := 55) (n := 4) (v := .agg ⟨(sp4 s)⟩) (cs := (sp4 s)) c160 rfl kr rfl (by first | exact sp4_len _) (List.all_eq_true.1 rfl)
    replace c157 := c157.sn t161
    replace c160 := d161
    have T161 := T160.tr t161
    have V161 := V160.tr t161
    have N161 := T161.nx
    have NV161 := V161.nx
    refine L_st _ rfl rfl rfl kr kr (e161) (L_nil (W_drawn kr (D_e (e := 5) (l := [0,1,2,3,4,9,10]) (s' := [0,9,10]) kr kr rfl kr Rk_nil (NS_b 6 kr (NS_ld _ rfl rfl kr kr kr (c160.ld (o := 2) kr rfl) (NS_nil (L_c rfl rfl kr (owner_ok (H.ext V161) (X.ext V161) D A hlt2) ?_)))))))
    rintro v162 h162 ⟨e162, t162⟩
    try dsimp only at e162
    try dsimp only at t162
    subst e162
    replace c157 := c157.ext t162
    replace c160 := c160.ext t162
    have T162 := T161.ext t162
    have V162 := V161.ext t162
    have N162 := T162.nx
    have NV162 := V162.nx
    have M162 := t162.nx
    refine L_nil ⟨rfl, ?_⟩
    refine D_e (e := 13) (l := [6,7,8,11,12]) (s' := []) kr kr rfl kr (Rk_1 rfl rfl (Rk_1 rfl rfl (Rk_ld _ rfl rfl rfl kr (c160.ld (o := 2) kr rfl) kr Rk_nil))) (NS_b 1 kr (NS_ix _ rfl rfl kr kr kr kr (ix_cl (b := hf.next) (el := 3) (n := N) (i := (owner N L (timesS N L C) (p, i)).1) kr kr how.1 .i64) (NS_ld _ rfl rfl kr kr kr (c157.ld (o := (owner N L (timesS N L C) (p, i)).1) kr (blm_at hbl how.1)) (NS_i ((((blm1 N L (timesS N L C) p (blmA N L (timesS N L C) p) i))[(owner N L (timesS N L C) (p, i)).1]?.getD 0)) (s.w) (nv (wrp (((blm1 N L (timesS N L C) p (blmA N L (timesS N L C) p) i))[(owner N L (timesS N L C) (p, i)).1]?.getD 0 + s.w))) rfl rfl kr kr kr kr rfl (rfl) (NS_ix _ rfl rfl kr kr kr kr (ix_cl (b := hf.next) (el := 3) (n := N) (i := (owner N L (timesS N L C) (p, i)).1) kr kr how.1 .i64) (NS_nil ?_))))))
    obtain ⟨h163, e163, d163, t163, n163⟩ := c157.store (P := Tryz.prog) (T := 3) (o := (owner N L (timesS N L C) (p, i)).1) (v := nv (wrp (((blm1 N L (timesS N L C) p (blmA N L (timesS N L C) p) i))[(owner N L (timesS N L C) (p, i)).1]?.getD 0 + s.w))) kr rfl rfl (by rw [List.length_map, hbl]; exact how.1)
    rw [blm_set, ← blm1_step hs] at d163
    replace c157 := d163
    have T163 := T162.tr t163
    have V163 := V162.tr t163
    have N163 := T163.nx
    have NV163 := V163.nx
    refine L_st _ rfl rfl rfl kr kr (e163) ?_
    refine L_nil ⟨rfl, ?_⟩
    refine D_l (l := []) kr kr Rk_nil (NS_nil (W_region (L_i ((i : Int)) (1) (nv ((i + 1 : Nat) : Int)) rfl rfl kr kr rfl (inc_ok (by omega)) (L_g 1 kr (L_nil ?_)))))
    exact ⟨((timesS N L C) p).length - (i + 1), by omega, i + 1, by omega, V163, rfl, kr, kr, kr, kr, kr, kr, kr, kr, kr, kr, T163, c157⟩
   ·
    have hge2 : i = ((timesS N L C) p).length := by simp at hb; omega
    refine W_exit ?_
    repeat with_reducible refine then_exit ?_
    refine exit_here (W_region (L_i ((p : Int)) (1) (nv ((p + 1 : Nat) : Int)) rfl rfl kr kr rfl (inc_ok (by omega)) (L_g 1 kr (L_nil ?_))))
    rw [hge2] at c157
    exact ⟨N - (p + 1), by omega, p + 1, by omega, Vi, rfl, kr, kr, kr, kr, kr, kr, T159, c157⟩
  ·
   have hge : N = p := by simp at hb; omega
   subst hge
   refine W_exit ?_
   repeat with_reducible refine then_exit ?_
   refine exit_here (W_sg 3 kr (L_nil (W_ret ?_)))
   repeat first | with_reducible refine then_ret ?_ | with_reducible refine blk_ret ?_
   refine done_of (v := .tuple ⟨[.slice (some ⟨hf.next, 0, none⟩) N N, nv 0]⟩) (.inl rfl) kr ?_
   exact .inr ⟨he, _, rfl, Cl.sd c157 (by rw [List.length_map, blmA_len]), T158⟩
end
end Go.Proofs.YtjhbbdfbngbjcaaGreatDoor
