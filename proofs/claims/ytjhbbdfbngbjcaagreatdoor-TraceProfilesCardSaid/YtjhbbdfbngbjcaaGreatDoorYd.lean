/- A part of the walks of profiles. -/
import Derived.Test.YtjhbbdfbngbjcaaGreatDoorYc
namespace Go.Proofs.YtjhbbdfbngbjcaaGreatDoor
noncomputable section
open Go Go.X Go.Arm
theorem sp4_one {s : TS} : ∀ x, x ∈ sp4 s → x.oneCell' = true := by
 intro x hx
 unfold sp4 at hx
 simp only [List.mem_cons, List.not_mem_nil, or_false] at hx
 rcases hx with rfl | rfl | rfl | rfl <;> rfl
theorem next_ok {h : AH} {F : Nat → Prop} {hi B tb sb mb N : Nat} {VL VS : Option Nat → Value} {L : Lf} {S : Sf} {C : TC} {mt : List (Int × List (Nat × Nat))} {p : Nat} {s : TS} (H : PT h F tb sb mb VL (VS none) N L C mt) (X : SpL h hi B VS N S) (g : Gd N L S) (A : Bn N L C) (hFB : ∀ b, Tch hi B b → ¬ F b) (hp : p < N) (hs : nxt N L C S p = some s) :
  Arm.Calls Tryz.prog 48 [ptr tb, nv (p : Int)] h (fun r => r.1 = .bool true ∧ ∃ VS', VS' none = VS none ∧ SpL r.2 hi B VS' N (put1 S p s) ∧ Sm (Tch hi B) h r.2) := by
 have hlt := nxt_lt hs
 have hBp := A.all p
 obtain ⟨x, hx⟩ : ∃ x, (L p)[(S p).length]? = some x := ⟨_, List.getElem?_eq_getElem hlt⟩
 unfold nxt at hs
 rw [hx] at hs
 dsimp only at hs
 obtain ⟨a, ha, hs⟩ : ∃ a, strt N L C S p x = some a ∧ spanOf (bgn S p (S p).length) a = s := by
  cases hq : strt N L C S p x with
  | none => rw [hq] at hs; cases hs
  | some a => rw [hq] at hs; exact ⟨a, rfl, by cases hs; rfl⟩
 have hb1 := g.bgn p (S p).length
 have hst := g.strt A.c A.l hx ha
 have htot := A.tot g
 refine Calls_W 98 Tryz.f48 ?_
 have U0 : Sm Nix h h := .refl
 have T0 : Sm (Tch hi B) h h := .refl
 refine W_sg 1 kr (L_nil (W_sg 3 kr (L_ld _ rfl rfl kr ((H.sm T0 hFB).cl.ld (o := 7) kr rfl) (L_g 1 kr ?_))))
 obtain ⟨b1, o1, i1, l1⟩ := (X.ext U0).row (T := 31) (el := 51) kr kr kr hp
 refine L_ix _ rfl rfl kr kr (i1) (L_ld _ rfl rfl kr (l1) (L_ln _ rfl rfl kr ((X.ext U0).lenR (T := 51) (el := 55) kr p) (L_g 1 kr (L_nil (W_seq (W_sg 4 kr (L_ld _ rfl rfl kr ((H.sm T0 hFB).cl.ld (o := 0) kr rfl) (L_g 1 kr ?_))))))))
 obtain ⟨b3, o3, i3, l3⟩ := (H.sm T0 hFB).inp.row (T := 26) (el := 28) kr kr kr hp
 refine L_ix _ rfl rfl kr kr (i3) (L_ld _ rfl rfl kr (l3) (L_ln _ rfl rfl kr ((H.sm T0 hFB).inp.lenR (T := 28) (el := 59) kr hp) (L_i (((S p).length : Int)) (((L p).length : Int)) (.bool false) rfl rfl kr kr rfl (by simp; omega) (L_nil ?_))))
 refine W_cond false kr (fun e => by cases e) (fun _ => ?_)
 refine W_skip (W_sg 3 kr (L_ld _ rfl rfl kr ((H.sm T0 hFB).cl.ld (o := 0) kr rfl) (L_g 1 kr ?_)))
 obtain ⟨b3, o3, i3, l3⟩ := (H.sm T0 hFB).inp.row (T := 26) (el := 28) kr kr kr hp
 refine L_ix _ rfl rfl kr kr (i3) (L_ld _ rfl rfl kr (l3) (L_g 1 kr ?_))
 obtain ⟨b4, o4, i4, l4⟩ := (H.sm T0 hFB).inp.ev (T := 28) (el := 59) kr kr hp hx
 refine L_ix _ rfl rfl kr kr (i4) (L_ld _ rfl rfl kr (ld_l (l := ev6 x) kr l4) (L_nwc [nv 0, nv 0, nv 0, nv 0, nv 0, .bool false] .ptr rfl rfl kr fun h67 c67 t67 n67 => ?_))
 have T67 := T0.ext t67
 have U67 := U0.ext t67
 have N67 := T67.nx
 have NU67 := U67.nx
 obtain ⟨h68, e68, d68, t68, n68⟩ := Cl.storeN (P := Tryz.prog) (T := 59) (n := 6) (v := .agg ⟨(ev6 x)⟩) (cs := (ev6 x)) c67 rfl kr rfl (ev6_len _) (List.all_eq_true.1 rfl)
 replace c67 := d68
 have T68 := T67.tr t68
 have U68 := U67.tr t68
 have N68 := T68.nx
 have NU68 := U68.nx
 refine L_st _ rfl rfl rfl kr kr (e68) (L_nil (W_sg 4 kr (L_c rfl rfl kr (begin_ok (H.sm T68 hFB) (X.ext U68) hp (Nat.le_refl _) (by omega)) ?_)))
 rintro v69 h69 ⟨e69, t69⟩
 try dsimp only at e69
 try dsimp only at t69
 subst e69
 replace c67 := c67.ext t69
 have T69 := T68.ext t69
 have U69 := U68.ext t69
 have N69 := T69.nx
 have NU69 := U69.nx
 have M69 := t69.nx
 refine L_g 5 kr (L_nil (W_seq (W_drawn kr (D_e (e := 3) (l := [0,1,2,4,5]) (s' := [4,5]) kr kr rfl kr Rk_nil (NS_b 2 kr (NS_ld _ rfl rfl kr kr kr (c67.ld (o := 0) kr rfl) (NS_b 1 kr (NS_ld _ rfl rfl kr kr kr (Cl.allN (n := 6) c67 (ev6_len _) kr) (NS_nil ?_)))))))))
 obtain ⟨fn, hfn, go1, go2, go3⟩ := go_ok H X g A hFB hp hx
 refine L_c rfl rfl kr (go1 _ U69) ?_
 rintro v70 h70 ⟨e70, t70⟩
 try dsimp only at e70
 try dsimp only at t70
 subst e70
 replace c67 := c67.ext t70
 have T70 := T69.ext t70
 have U70 := U69.ext t70
 have N70 := T70.nx
 have NU70 := U70.nx
 have M70 := t70.nx
 refine L_nil ⟨rfl, ?_⟩
 refine D_e (e := 6) (l := []) (s' := []) kr kr rfl kr (Rk_1 rfl rfl (Rk_ld _ rfl rfl rfl kr (Cl.allN (n := 6) c67 (ev6_len _) kr) kr Rk_nil)) (NS_nil (L_c rfl rfl (by rcases hfn with rfl | rfl | rfl | rfl <;> kernel_rfl) (go2 a ha _ U70) ?_))
 rintro v71 h71 ⟨e71, t71⟩
 try dsimp only at e71
 try dsimp only at t71
 subst e71
 have T71 := T70.ext t71
 have U71 := U70.ext t71
 have N71 := T71.nx
 have NU71 := U71.nx
 have M71 := t71.nx
 refine L_nil ⟨rfl, ?_⟩
 refine D_l (l := [7,8,9,10,11,12,13,14,15]) kr kr Rk_nil (NS_b 9 kr (NS_nil (W_seq (W_sg 2 kr (L_nil ?_)))))
 refine W_cond false kr (fun e => by cases e) (fun _ => ?_)
 refine W_skip (W_sg 3 kr (L_i (a.1) ((bgn S p (S p).length)) (nv (a.1 - (bgn S p (S p).length))) rfl rfl kr kr rfl (wrap_id (by omega) (by omega)) (L_bi (nv (max 0 (a.1 - (bgn S p (S p).length)))) h71 rfl rfl kr (vs := [nv 0, nv (a.1 - (bgn S p (S p).length))]) kr (max_two _ _ _ _ _) (L_g 1 kr (L_nwc [nv 0, nv 0, nv 0, nv 0] .ptr rfl rfl kr fun h72 c72 t72 n72 => ?_)))))
 have T72 := T71.ext t72
 have U72 := U71.ext t72
 have N72 := T72.nx
 have NU72 := U72.nx
 obtain ⟨h73, e73, d73, t73, n73⟩ := c72.sA 55 [nv (bgn S p (S p).length), nv 0, nv (max 0 (a.1 - (bgn S p (S p).length))), nv 0]
 replace c72 := d73
 have T73 := T72.tr t73
 have U73 := U72.tr t73
 have N73 := T73.nx
 have NU73 := U73.nx
 refine L_st _ rfl rfl rfl kr kr (e73) (L_nil (W_seq (W_sg 1 kr (L_ld _ rfl rfl kr (c72.ld (o := 2) kr rfl) (L_i ((max 0 (a.1 - (bgn S p (S p).length)))) (0) (.bool (decide (0 < (max 0 (a.1 - (bgn S p (S p).length)))))) rfl rfl kr kr rfl (rfl) (L_nil ?_))))))
 refine W_cond (decide (0 < (max 0 (a.1 - (bgn S p (S p).length))))) kr (fun hb => ?_) (fun hb => ?_)
 ·
  have hsp : sp4 s = [nv (bgn S p (S p).length), nv ((bgn S p (S p).length) + (max 0 (a.1 - (bgn S p (S p).length))) + a.2.1), nv (max 0 (a.1 - (bgn S p (S p).length))), nv a.2.2] := by subst hs; unfold sp4 spanOf; rw [if_pos (of_decide_eq_true hb)]
  refine W_region (L_g 2 kr ?_)
  obtain ⟨h74, e74, d74, t74, n74⟩ := c72.store (P := Tryz.prog) (T := 3) (o := 3) (v := nv a.2.2) kr rfl rfl (by simp)
  replace d74 : Cl h74 (h71.next) [nv (bgn S p (S p).length), nv 0, nv (max 0 (a.1 - (bgn S p (S p).length))), nv a.2.2] := d74
  replace c72 := d74
  have T74 := T73.tr t74
  have U74 := U73.tr t74
  have N74 := T74.nx
  have NU74 := U74.nx
  refine L_st _ rfl rfl rfl kr kr (e74) (L_nil (W_sg 2 kr (L_ld _ rfl rfl kr (c72.ld (o := 2) kr rfl) (L_i ((bgn S p (S p).length)) ((max 0 (a.1 - (bgn S p (S p).length)))) (nv ((bgn S p (S p).length) + (max 0 (a.1 - (bgn S p (S p).length))))) rfl rfl kr kr rfl (wrap_id (by omega) (by omega)) (L_g 1 kr (L_i (((bgn S p (S p).length) + (max 0 (a.1 - (bgn S p (S p).length))))) (a.2.1) (nv ((bgn S p (S p).length) + (max 0 (a.1 - (bgn S p (S p).length))) + a.2.1)) rfl rfl kr kr rfl (wrap_id (by omega) (by omega)) (L_g 1 kr ?_)))))))
  obtain ⟨h75, e75, d75, t75, n75⟩ := c72.store (P := Tryz.prog) (T := 3) (o := 1) (v := nv ((bgn S p (S p).length) + (max 0 (a.1 - (bgn S p (S p).length))) + a.2.1)) kr rfl rfl (by simp)
  replace d75 : Cl h75 (h71.next) [nv (bgn S p (S p).length), nv ((bgn S p (S p).length) + (max 0 (a.1 - (bgn S p (S p).length))) + a.2.1), nv (max 0 (a.1 - (bgn S p (S p).length))), nv a.2.2] := d75
  replace c72 := d75
  have T75 := T74.tr t75
  have U75 := U74.tr t75
  have N75 := T75.nx
  have NU75 := U75.nx
  refine L_st _ rfl rfl rfl kr kr (e75) (L_nil (W_seq (W_drawn kr (D_e (e := 14) (l := [0,1,2,3,4,5,6,7,8,9,10,11,12,13]) (s' := [0,1,2,3,4]) kr kr rfl kr Rk_nil (NS_b 3 kr (NS_ld _ rfl rfl kr kr kr ((H.sm T75 hFB).cl.ld (o := 7) kr rfl) (NS_b 4 kr (NS_ld _ rfl rfl kr kr kr ((H.sm T75 hFB).cl.ld (o := 7) kr rfl) (NS_b 1 kr ?_)))))))))
  obtain ⟨b1, o1, i1, l1⟩ := (X.ext U75).row (T := 31) (el := 51) kr kr kr hp
  refine NS_ix _ rfl rfl kr kr kr kr (i1) (NS_ld _ rfl rfl kr kr kr (l1) (NS_ld _ rfl rfl kr kr kr (Cl.allN (n := 4) c72 rfl kr) (NS_nwc [nv (bgn S p (S p).length), nv ((bgn S p (S p).length) + (max 0 (a.1 - (bgn S p (S p).length))) + a.2.1), nv (max 0 (a.1 - (bgn S p (S p).length))), nv a.2.2] (.sl 1 1) rfl kr rfl rfl kr (Rk_1 rfl rfl (Rk_1 rfl rfl (Rk_1 rfl rfl (Rk_ld _ rfl rfl rfl kr ((H.sm (T75.ext (.push h75 _)) hFB).cl.ld (o := 7) kr rfl) kr (Rk_1 rfl rfl (Rk_1 rfl rfl (Rk_1 rfl rfl (Rk_1 rfl rfl (Rk_ld _ rfl rfl rfl kr ((H.sm (T75.ext (.push h75 _)) hFB).cl.ld (o := 7) kr rfl) kr (Rk_1 rfl rfl (Rk_1 rfl rfl (Rk_ld _ rfl rfl rfl kr (ldx (l1) ((X.ext U75).rowLt (T := 31) (el := 51) kr kr hp i1) (.push h75 _)) kr (Rk_ld _ rfl rfl rfl kr (Cl.allN (n := 4) (c72.ext (.push h75 _)) rfl kr) kr (Rk_1 rfl rfl Rk_nil)))))))))))))) fun h76 c76 t76 n76 => ?_)))
  have T76 := T75.ext t76
  have U76 := U75.ext t76
  have N76 := T76.nx
  have NU76 := U76.nx
  refine NS_nil ?_
  obtain ⟨v77, h77, e77, g77, s77, n77⟩ := Gr.append (P := Tryz.prog) (sT := 51) (xT := 51) (el := 55) (by_ := 32) (z := .agg ⟨[nv 0, nv 0, nv 0, nv 0]⟩) (m := 1) (ds := sp4 s) kr kr kr kr kr kr (by decide) (show Gr h76 4 (VS (some p)) (S p).length ((S p).flatMap sp4) from (X.ext U76).lay.gr (some p)) (u := .slice (some ⟨h75.next, 0, none⟩) 1 1) (Cl.sdK (by decide) (by rw [hsp]; exact c76) rfl) sp4_one (by omega)
  have w77 := ((X.ext U76).lay.gr none).ws.sm s77 (fun b hb hx => by have := X.lay.inj none (some p) b hb hx; cases this)
  refine L_bi v77 h77 rfl rfl kr (vs := [VS (some p), .slice (some ⟨h75.next, 0, none⟩) 1 1]) kr (bi_append e77) ?_
  have T77 : Sm (Tch hi B) h h77 := T76.trans s77 (fun b hb => .inl (.inr (X.lo p b hb)))
  have N77 := T77.nx
  refine L_nil ⟨rfl, ?_⟩
  refine D_e (e := 16) (l := [15]) (s' := []) kr kr rfl kr (Rk_1 rfl rfl (Rk_1 rfl rfl (Rk_1 rfl rfl (Rk_ld _ rfl rfl rfl kr ((H.sm T77 hFB).cl.ld (o := 7) kr rfl) kr (Rk_1 rfl rfl Rk_nil))))) ?_
  obtain ⟨pa, xx, ia, ib, ic, id, ie⟩ := Ws.elem (P := Tryz.prog) (T := 31) (el := 51) kr kr kr (n := N) w77 hp .i64
  refine NS_ix _ rfl rfl kr kr kr kr (ia) (NS_nil ?_)
  obtain ⟨h78, e78, w78, t78, n78⟩ := ie v77 (oneS g77.sd).1 (oneS g77.sd).2
  obtain ⟨Y78, Z78⟩ := (X.ext U76).grow hp s77 g77 n77 t78 w78
  refine L_st _ rfl rfl rfl kr kr (e78) ?_
  have T78 : Sm (Tch hi B) h h78 := T77.trans t78 (fun b hb => .inl (.inl (by have hb : vb (VS none) = some b := hb; rw [X.b] at hb; cases hb; rfl)))
  have N78 := T78.nx
  refine L_nil ⟨rfl, ?_⟩
  refine D_l (l := []) kr kr Rk_nil (NS_nil (W_sg 1 kr (L_nil (W_ret ?_))))
  repeat first | with_reducible refine then_ret ?_ | with_reducible refine blk_ret ?_
  refine done_of (v := .bool true) (.inl rfl) kr ?_
  exact ⟨rfl, ups VS (some p) v77, ups_ne _ _ (by simp), Y78, T78⟩
 ·
  have hsp : sp4 s = [nv (bgn S p (S p).length), nv ((bgn S p (S p).length) + (max 0 (a.1 - (bgn S p (S p).length))) + a.2.1), nv (max 0 (a.1 - (bgn S p (S p).length))), nv 0] := by subst hs; unfold sp4 spanOf; rw [if_neg (of_decide_eq_false hb)]
  refine W_skip (W_sg 2 kr (L_ld _ rfl rfl kr (c72.ld (o := 2) kr rfl) (L_i ((bgn S p (S p).length)) ((max 0 (a.1 - (bgn S p (S p).length)))) (nv ((bgn S p (S p).length) + (max 0 (a.1 - (bgn S p (S p).length))))) rfl rfl kr kr rfl (wrap_id (by omega) (by omega)) (L_g 1 kr (L_i (((bgn S p (S p).length) + (max 0 (a.1 - (bgn S p (S p).length))))) (a.2.1) (nv ((bgn S p (S p).length) + (max 0 (a.1 - (bgn S p (S p).length))) + a.2.1)) rfl rfl kr kr rfl (wrap_id (by omega) (by omega)) (L_g 1 kr ?_))))))
  obtain ⟨h79, e79, d79, t79, n79⟩ := c72.store (P := Tryz.prog) (T := 3) (o := 1) (v := nv ((bgn S p (S p).length) + (max 0 (a.1 - (bgn S p (S p).length))) + a.2.1)) kr rfl rfl (by simp)
  replace d79 : Cl h79 (h71.next) [nv (bgn S p (S p).length), nv ((bgn S p (S p).length) + (max 0 (a.1 - (bgn S p (S p).length))) + a.2.1), nv (max 0 (a.1 - (bgn S p (S p).length))), nv 0] := d79
  replace c72 := d79
  have T79 := T73.tr t79
  have U79 := U73.tr t79
  have N79 := T79.nx
  have NU79 := U79.nx
  refine L_st _ rfl rfl rfl kr kr (e79) (L_nil (W_seq (W_drawn kr (D_e (e := 14) (l := [0,1,2,3,4,5,6,7,8,9,10,11,12,13]) (s' := [0,1,2,3,4]) kr kr rfl kr Rk_nil (NS_b 3 kr (NS_ld _ rfl rfl kr kr kr ((H.sm T79 hFB).cl.ld (o := 7) kr rfl) (NS_b 4 kr (NS_ld _ rfl rfl kr kr kr ((H.sm T79 hFB).cl.ld (o := 7) kr rfl) (NS_b 1 kr ?_)))))))))
  obtain ⟨b1, o1, i1, l1⟩ := (X.ext U79).row (T := 31) (el := 51) kr kr kr hp
  refine NS_ix _ rfl rfl kr kr kr kr (i1) (NS_ld _ rfl rfl kr kr kr (l1) (NS_ld _ rfl rfl kr kr kr (Cl.allN (n := 4) c72 rfl kr) (NS_nwc [nv (bgn S p (S p).length), nv ((bgn S p (S p).length) + (max 0 (a.1 - (bgn S p (S p).length))) + a.2.1), nv (max 0 (a.1 - (bgn S p (S p).length))), nv 0] (.sl 1 1) rfl kr rfl rfl kr (Rk_1 rfl rfl (Rk_1 rfl rfl (Rk_1 rfl rfl (Rk_ld _ rfl rfl rfl kr ((H.sm (T79.ext (.push h79 _)) hFB).cl.ld (o := 7) kr rfl) kr (Rk_1 rfl rfl (Rk_1 rfl rfl (Rk_1 rfl rfl (Rk_1 rfl rfl (Rk_ld _ rfl rfl rfl kr ((H.sm (T79.ext (.push h79 _)) hFB).cl.ld (o := 7) kr rfl) kr (Rk_1 rfl rfl (Rk_1 rfl rfl (Rk_ld _ rfl rfl rfl kr (ldx (l1) ((X.ext U79).rowLt (T := 31) (el := 51) kr kr hp i1) (.push h79 _)) kr (Rk_ld _ rfl rfl rfl kr (Cl.allN (n := 4) (c72.ext (.push h79 _)) rfl kr) kr (Rk_1 rfl rfl Rk_nil)))))))))))))) fun h80 c80 t80 n80 => ?_)))
  have T80 := T79.ext t80
  have U80 := U79.ext t80
  have N80 := T80.nx
  have NU80 := U80.nx
  refine NS_nil ?_
  obtain ⟨v81, h81, e81, g81, s81, n81⟩ := Gr.append (P := Tryz.prog) (sT := 51) (xT := 51) (el := 55) (by_ := 32) (z := .agg ⟨[nv 0, nv 0, nv 0, nv 0]⟩) (m := 1) (ds := sp4 s) kr kr kr kr kr kr (by decide) (show Gr h80 4 (VS (some p)) (S p).length ((S p).flatMap sp4) from (X.ext U80).lay.gr (some p)) (u := .slice (some ⟨h79.next, 0, none⟩) 1 1) (Cl.sdK (by decide) (by rw [hsp]; exact c80) rfl) sp4_one (by omega)
  have w81 := ((X.ext U80).lay.gr none).ws.sm s81 (fun b hb hx => by have := X.lay.inj none (some p) b hb hx; cases this)
  refine L_bi v81 h81 rfl rfl kr (vs := [VS (some p), .slice (some ⟨h79.next, 0, none⟩) 1 1]) kr (bi_append e81) ?_
  have T81 : Sm (Tch hi B) h h81 := T80.trans s81 (fun b hb => .inl (.inr (X.lo p b hb)))
  have N81 := T81.nx
  refine L_nil ⟨rfl, ?_⟩
  refine D_e (e := 16) (l := [15]) (s' := []) kr kr rfl kr (Rk_1 rfl rfl (Rk_1 rfl rfl (Rk_1 rfl rfl (Rk_ld _ rfl rfl rfl kr ((H.sm T81 hFB).cl.ld (o := 7) kr rfl) kr (Rk_1 rfl rfl Rk_nil))))) ?_
  obtain ⟨pa, xx, ia, ib, ic, id, ie⟩ := Ws.elem (P := Tryz.prog) (T := 31) (el := 51) kr kr kr (n := N) w81 hp .i64
  refine NS_ix _ rfl rfl kr kr kr kr (ia) (NS_nil ?_)
  obtain ⟨h82, e82, w82, t82, n82⟩ := ie v81 (oneS g81.sd).1 (oneS g81.sd).2
  obtain ⟨Y82, Z82⟩ := (X.ext U80).grow hp s81 g81 n81 t82 w82
  refine L_st _ rfl rfl rfl kr kr (e82) ?_
  have T82 : Sm (Tch hi B) h h82 := T81.trans t82 (fun b hb => .inl (.inl (by have hb : vb (VS none) = some b := hb; rw [X.b] at hb; cases hb; rfl)))
  have N82 := T82.nx
  refine L_nil ⟨rfl, ?_⟩
  refine D_l (l := []) kr kr Rk_nil (NS_nil (W_sg 1 kr (L_nil (W_ret ?_))))
  repeat first | with_reducible refine then_ret ?_ | with_reducible refine blk_ret ?_
  refine done_of (v := .bool true) (.inl rfl) kr ?_
  exact ⟨rfl, ups VS (some p) v81, ups_ne _ _ (by simp), Y82, T82⟩
end
end Go.Proofs.YtjhbbdfbngbjcaaGreatDoor
