/- Each function of the program computes what its plain function says. -/
import Derived.Test.YtmojccilbgjngaaPrfT8c
namespace Go.Arm
open Go Go.RowKit Go.Proofs
set_option maxHeartbeats 1153000 in
theorem law08_DeadNarrow_ok (N : Nat) (s0 : St) (w0 : Value) (a0 : List (List Deed)) (h0 : V s0 w0 a0) (r : Bool) (hr : law08_DeadNarrow N a0 = some r) :
  Calls Try.prog 8 #[w0] s0.w (Ret s0 fun v s => V s v r) := by
 unfold law08_DeadNarrow at hr
 have hE0 := Ext.refl s0
 refine Calls_of (n := 197) (args := [w0]) Try.func8 rfl rfl (by simp) ?_
 refine W_seq ?_
 refine W_region ?_
 refine L_assign (rfl : _ = Value.bool (false)) (by decide) ?_
 refine L_nil ?_
 refine then_n ?_
 refine W_seq ?_
 obtain ⟨o2, ho3, hq4⟩ := bind_some hr
 refine W_seq_cut (fun f w => ∃ (s : St) (x1 : Bool), s.w = w ∧ Ext s0 s ∧ Le s0 s ∧ x1 = o2 ∧ f 24 = Value.bool x1 ∧ f 0 = w0) ?_ ?_
 ·have hr := ho3
  refine W_region ?_
  refine L_move (rfl : _ = w0) (by decide) ?_
  refine L_len Try.underlying29 (rfl : _ = w0) h0 (by decide) ?_
  refine L_gtr (rfl : _ = Value.int .i64 ((a0.length : Int))) (rfl : _ = Value.int .i64 (6)) (by decide) ?_
  refine L_move (rfl : _ = Value.bool (decide (6 < (a0.length : Int)))) (by decide) ?_
  rcases Bool.eq_false_or_eq_true (decide (6 < (a0.length : Int))) with hb5 | hb5
  ·have hr := ite_t hb5 hr
   refine L_gf (e := 20) (by rfl) (by decide) (rfl : _ = Value.bool (decide (6 < (a0.length : Int)))) hb5 (by decide) ?_
   refine L_gf (e := 20) (by rfl) (by decide) (rfl : _ = Value.bool (decide (6 < (a0.length : Int)))) hb5 (by decide) ?_
   refine L_gf (e := 20) (by rfl) (by decide) (rfl : _ = Value.bool (decide (6 < (a0.length : Int)))) hb5 (by decide) ?_
   refine L_pick_t (rfl : _ = Value.bool (decide (6 < (a0.length : Int)))) hb5 (rfl : _ = Value.bool (true)) (by decide) ?_
   refine L_nil ?_
   exact then_n ⟨s0, true, rfl, hE0, (Le.refl _), Option.some.inj hr, rfl, rfl⟩
  ·have hr := ite_f hb5 hr
   refine L_gt (e := 20) (by rfl) (by decide) (rfl : _ = Value.bool (decide (6 < (a0.length : Int)))) hb5 ?_
   refine L_move (rfl : _ = w0) (by decide) ?_
   refine L_gt (e := 20) (by rfl) (by decide) (rfl : _ = Value.bool (decide (6 < (a0.length : Int)))) hb5 ?_
   obtain ⟨y6, hy7, hr⟩ := bind_some hr
   refine L_calls cal27 (args1 (rfl : _ = w0)) (dead_Check_ok N _ _ _ h0 y6 hy7) (by decide) ?_
   intro v8 s11 e9 hv10
   have hE12 := Tch.ext hE0 e9
   obtain rfl := hv10.int
   refine L_gt (e := 20) (by rfl) (by decide) (rfl : _ = Value.bool (decide (6 < (a0.length : Int)))) hb5 ?_
   refine L_neq (rfl : _ = Value.int .i64 (y6)) (rfl : _ = Value.int .i64 (0)) (by decide) ?_
   refine L_pick_f (rfl : _ = Value.bool (decide (6 < (a0.length : Int)))) hb5 (rfl : _ = Value.bool (!decide (y6 = 0))) (by decide) ?_
   refine L_nil ?_
   exact then_n ⟨s11, (!decide (y6 = 0)), rfl, hE12, e9.le, Option.some.inj hr, rfl, rfl⟩
 ·rintro f507 w508 ⟨s13, x1, rfl, hE15, l14, ho3, g16_24, g16_0⟩
  subst ho3
  have hr := hq4
  try dsimp only at hr
  refine W_cond _ g16_24 (fun hb17 => ?_) (fun hb17 => ?_)
  ·have hr := ite_t hb17 hr
   refine W_seq ?_
   refine W_region ?_
   obtain ⟨y18, hy19, hr⟩ := bind_some hr
   refine L_calls cal10 (args0) (law08_works_ok N _  y18 hy19) (by decide) ?_
   intro v20 s23 e21 hv22
   have hE24 := Tch.ext hE15 e21
   obtain rfl := hv22.bool
   refine L_assign (rfl : _ = Value.bool (y18)) (by decide) ?_
   refine L_nil ?_
   refine then_n ?_
   refine W_ret ?_
   refine then_r ?_
   obtain rfl := Option.some.inj hr
   exact done1 (Or.inl rfl) Try.results8 rfl ⟨_, _, rfl, rfl, hE24, Vbool⟩
  ·have hr := ite_f hb17 hr
   refine W_skip ?_
   refine then_n ?_
   refine W_seq ?_
   refine W_region ?_
   refine L_move g16_0 (by decide) ?_
   obtain ⟨y25, hy26, hr⟩ := bind_some hr
   refine L_calls cal15 (args1 (rfl : _ = w0)) (dead_Narrow_ok N _ _ _ (h0.mono l14) y25 hy26) (by decide) ?_
   intro v27 s30 e28 hv29
   have hE31 := Tch.ext hE15 e28
   obtain ⟨v32, v33, v34, rfl, hv35, hv36, hv37⟩ := hv29
   obtain rfl := hv36.bool
   obtain rfl := hv37.int
   refine L_move (rfl : _ = Value.tuple #[v32, Value.bool (y25.2.1), Value.int .i64 (y25.2.2)]) (by decide) ?_
   refine L_extract (rfl : _ = Value.tuple #[v32, Value.bool (y25.2.1), Value.int .i64 (y25.2.2)]) (k := 0) rfl (by decide) ?_
   refine L_extract (rfl : _ = Value.tuple #[v32, Value.bool (y25.2.1), Value.int .i64 (y25.2.2)]) (k := 1) rfl (by decide) ?_
   refine L_extract (rfl : _ = Value.tuple #[v32, Value.bool (y25.2.1), Value.int .i64 (y25.2.2)]) (k := 2) rfl (by decide) ?_
   refine L_assign (rfl : _ = v32) (by decide) ?_
   refine L_assign (rfl : _ = Value.bool (y25.2.1)) (by decide) ?_
   refine L_assign (rfl : _ = Value.int .i64 (y25.2.2)) (by decide) ?_
   refine L_nil ?_
   refine then_n ?_
   refine W_seq ?_
   refine W_region ?_
   refine L_move g16_0 (by decide) ?_
   obtain ⟨y38, hy39, hr⟩ := bind_some hr
   refine L_calls cal18 (args1 (rfl : _ = w0)) (dead_Decide_ok N _ _ _ (h0.mono (l14.trans e28.le)) y38 hy39) (by decide) ?_
   intro v40 s43 e41 hv42
   have hE44 := Tch.ext hE31 e41
   obtain ⟨v45, v46, rfl, hv47, hv48⟩ := hv42
   obtain rfl := hv48.int
   refine L_move (rfl : _ = Value.tuple #[v45, Value.int .i64 (y38.2)]) (by decide) ?_
   refine L_extract (rfl : _ = Value.tuple #[v45, Value.int .i64 (y38.2)]) (k := 0) rfl (by decide) ?_
   refine L_extract (rfl : _ = Value.tuple #[v45, Value.int .i64 (y38.2)]) (k := 1) rfl (by decide) ?_
   refine L_alloc (α := Verdict) (x := ⟨0, 0⟩) zero40 Verdict.zero_rel (by decide) ?_
   intro s53 b50 e49 hb51 hv52
   have hE54 := Tch.ext hE44 e49
   refine L_store_ro ty40 (rfl : _ = Value.pointer (some ⟨b50, 0, none⟩)) (rfl : _ = v45) (hv47.mono e49.le) (hv52) ?_
   intro s57 e55 hv56
   have hE58 := Tch.trans hE54 e55 (fun k hk => Or.inr (by subst hk; exact (Nat.le_trans hE44.size hb51)))
   refine L_assign (rfl : _ = Value.int .i64 (y38.2)) (by decide) ?_
   refine L_nil ?_
   refine then_n ?_
   refine W_seq ?_
   obtain ⟨o60, ho61, hq62⟩ := bind_some hr
   refine W_seq_cut (fun f w => ∃ (s : St) (x59 : Bool), s.w = w ∧ Ext s0 s ∧ Le s57 s ∧ x59 = o60 ∧ f 49 = Value.bool x59 ∧ f 0 = w0 ∧ f 3 = v32 ∧ f 4 = Value.bool (y25.2.1) ∧ f 6 = Value.pointer (some ⟨b50, 0, none⟩)) ?_ ?_
   ·have hr := ho61
    refine W_region ?_
    refine L_move (rfl : _ = Value.int .i64 (y25.2.2)) (by decide) ?_
    refine L_neq (rfl : _ = Value.int .i64 (y25.2.2)) (rfl : _ = Value.int .i64 (0)) (by decide) ?_
    refine L_move (rfl : _ = Value.bool (!decide (y25.2.2 = 0))) (by decide) ?_
    rcases Bool.eq_false_or_eq_true (!decide (y25.2.2 = 0)) with hb63 | hb63
    ·have hr := ite_t hb63 hr
     refine L_gf (e := 39) (by rfl) (by decide) (rfl : _ = Value.bool (!decide (y25.2.2 = 0))) hb63 (by decide) ?_
     refine L_gf (e := 39) (by rfl) (by decide) (rfl : _ = Value.bool (!decide (y25.2.2 = 0))) hb63 (by decide) ?_
     refine L_pick_t (rfl : _ = Value.bool (!decide (y25.2.2 = 0))) hb63 (rfl : _ = Value.bool (true)) (by decide) ?_
     refine L_move (rfl : _ = Value.bool (true)) (by decide) ?_
     refine L_gf (e := 43) (by rfl) (by decide) (rfl : _ = Value.bool (true)) rfl (by decide) ?_
     refine L_gf (e := 43) (by rfl) (by decide) (rfl : _ = Value.bool (true)) rfl (by decide) ?_
     refine L_gf (e := 43) (by rfl) (by decide) (rfl : _ = Value.bool (true)) rfl (by decide) ?_
     refine L_gf (e := 43) (by rfl) (by decide) (rfl : _ = Value.bool (true)) rfl (by decide) ?_
     refine L_gf (e := 43) (by rfl) (by decide) (rfl : _ = Value.bool (true)) rfl (by decide) ?_
     refine L_pick_t (rfl : _ = Value.bool (true)) rfl (rfl : _ = Value.bool (true)) (by decide) ?_
     refine L_nil ?_
     exact then_n ⟨s57, true, rfl, hE58, (Le.refl _), Option.some.inj hr, rfl, g16_0, rfl, rfl, rfl⟩
    ·have hr := ite_f hb63 hr
     refine L_gt (e := 39) (by rfl) (by decide) (rfl : _ = Value.bool (!decide (y25.2.2 = 0))) hb63 ?_
     refine L_move (rfl : _ = Value.int .i64 (y38.2)) (by decide) ?_
     refine L_gt (e := 39) (by rfl) (by decide) (rfl : _ = Value.bool (!decide (y25.2.2 = 0))) hb63 ?_
     refine L_neq (rfl : _ = Value.int .i64 (y38.2)) (rfl : _ = Value.int .i64 (0)) (by decide) ?_
     refine L_pick_f (rfl : _ = Value.bool (!decide (y25.2.2 = 0))) hb63 (rfl : _ = Value.bool (!decide (y38.2 = 0))) (by decide) ?_
     refine L_move (rfl : _ = Value.bool (!decide (y38.2 = 0))) (by decide) ?_
     rcases Bool.eq_false_or_eq_true (!decide (y38.2 = 0)) with hb64 | hb64
     ·have hr := ite_t hb64 hr
      refine L_gf (e := 43) (by rfl) (by decide) (rfl : _ = Value.bool (!decide (y38.2 = 0))) hb64 (by decide) ?_
      refine L_gf (e := 43) (by rfl) (by decide) (rfl : _ = Value.bool (!decide (y38.2 = 0))) hb64 (by decide) ?_
      refine L_gf (e := 43) (by rfl) (by decide) (rfl : _ = Value.bool (!decide (y38.2 = 0))) hb64 (by decide) ?_
      refine L_gf (e := 43) (by rfl) (by decide) (rfl : _ = Value.bool (!decide (y38.2 = 0))) hb64 (by decide) ?_
      refine L_gf (e := 43) (by rfl) (by decide) (rfl : _ = Value.bool (!decide (y38.2 = 0))) hb64 (by decide) ?_
      refine L_pick_t (rfl : _ = Value.bool (!decide (y38.2 = 0))) hb64 (rfl : _ = Value.bool (true)) (by decide) ?_
      refine L_nil ?_
      exact then_n ⟨s57, true, rfl, hE58, (Le.refl _), Option.some.inj hr, rfl, g16_0, rfl, rfl, rfl⟩
     ·have hr := ite_f hb64 hr
      refine L_gt (e := 43) (by rfl) (by decide) (rfl : _ = Value.bool (!decide (y38.2 = 0))) hb64 ?_
      refine L_move (rfl : _ = Value.bool (y25.2.1)) (by decide) ?_
      refine L_gt (e := 43) (by rfl) (by decide) (rfl : _ = Value.bool (!decide (y38.2 = 0))) hb64 ?_
      refine L_fieldAddr fld40_0 Verdict.of_Kind (rfl : _ = Value.pointer (some ⟨b50, 0, none⟩)) hv56 (by decide) ?_
      intro p65 hp66
      refine L_gt (e := 43) (by rfl) (by decide) (rfl : _ = Value.bool (!decide (y38.2 = 0))) hb64 ?_
      refine L_load_int ty3 (rfl : _ = p65) hp66 (by decide) ?_
      refine L_gt (e := 43) (by rfl) (by decide) (rfl : _ = Value.bool (!decide (y38.2 = 0))) hb64 ?_
      refine L_eql (rfl : _ = Value.int .i64 (y38.1.Kind)) (rfl : _ = Value.int .i64 (4)) (by decide) ?_
      refine L_gt (e := 43) (by rfl) (by decide) (rfl : _ = Value.bool (!decide (y38.2 = 0))) hb64 ?_
      refine L_beq Try.underlying4 (rfl : _ = Value.bool (y25.2.1)) (rfl : _ = Value.bool (decide (y38.1.Kind = 4))) (by decide) ?_
      refine L_pick_f (rfl : _ = Value.bool (!decide (y38.2 = 0))) hb64 (rfl : _ = Value.bool ((y25.2.1 == (decide (y38.1.Kind = 4))))) (by decide) ?_
      refine L_nil ?_
      exact then_n ⟨s57, (y25.2.1 == (decide (y38.1.Kind = 4))), rfl, hE58, (Le.refl _), Option.some.inj hr, rfl, g16_0, rfl, rfl, rfl⟩
   ·rintro f505 w506 ⟨s67, x59, rfl, hE69, l68, ho61, g70_49, g70_0, g70_3, g70_4, g70_6⟩
    subst ho61
    have hr := hq62
    try dsimp only at hr
    refine W_cond _ g70_49 (fun hb71 => ?_) (fun hb71 => ?_)
    ·have hr := ite_t hb71 hr
     refine W_seq ?_
     refine W_region ?_
     refine L_assign (rfl : _ = Value.bool (false)) (by decide) ?_
     refine L_nil ?_
     refine then_n ?_
     refine W_ret ?_
     refine then_r ?_
     obtain rfl := Option.some.inj hr
     exact done1 (Or.inl rfl) Try.results8 rfl ⟨_, _, rfl, rfl, hE69, Vbool⟩
    ·have hr := ite_f hb71 hr
     refine W_skip ?_
     refine then_n ?_
     refine W_seq ?_
     refine W_seq ?_
     refine W_region ?_
     refine L_move g70_4 (by decide) ?_
     refine L_not (rfl : _ = Value.bool (y25.2.1)) (by decide) ?_
     refine L_nil ?_
     refine then_n ?_
     refine W_cond _ (rfl : _ = Value.bool (!y25.2.1)) (fun hb72 => ?_) (fun hb72 => ?_)
     ·have hr := ite_t hb72 hr
      obtain ⟨o74, ho75, hq76⟩ := bind_some hr
      refine W_seq_cut (fun f w => ∃ (s : St) (x73 : Bool), s.w = w ∧ Ext s0 s ∧ Le s67 s ∧ x73 = o74 ∧ f 2 = Value.bool x73) ?_ ?_
      ·have hr := ho75
       refine W_region ?_
       refine L_move g70_3 (by decide) ?_
       refine L_len Try.underlying29 (rfl : _ = v32) (hv35.mono (e41.le.trans (e49.le.trans (e55.le.trans l68)))) (by decide) ?_
       refine L_eql (rfl : _ = Value.int .i64 ((y25.1.length : Int))) (rfl : _ = Value.int .i64 (0)) (by decide) ?_
       refine L_move (rfl : _ = Value.bool (decide ((y25.1.length : Int) = 0))) (by decide) ?_
       rcases Bool.eq_false_or_eq_true (decide ((y25.1.length : Int) = 0)) with hb77 | hb77
       ·have hr := ite_t hb77 hr
        refine L_gt (e := 55) (by rfl) (by decide) (rfl : _ = Value.bool (decide ((y25.1.length : Int) = 0))) hb77 ?_
        refine L_fieldAddr fld40_1 Verdict.of_Room g70_6 (hv56.mono l68) (by decide) ?_
        intro p78 hp79
        refine L_gt (e := 55) (by rfl) (by decide) (rfl : _ = Value.bool (decide ((y25.1.length : Int) = 0))) hb77 ?_
        refine L_load_int ty3 (rfl : _ = p78) hp79 (by decide) ?_
        refine L_gt (e := 55) (by rfl) (by decide) (rfl : _ = Value.bool (decide ((y25.1.length : Int) = 0))) hb77 ?_
        refine L_eql (rfl : _ = Value.int .i64 (y38.1.Room)) (rfl : _ = Value.int .i64 (0)) (by decide) ?_
        refine L_pick_t (rfl : _ = Value.bool (decide ((y25.1.length : Int) = 0))) hb77 (rfl : _ = Value.bool (decide (y38.1.Room = 0))) (by decide) ?_
        refine L_move (rfl : _ = Value.bool (decide (y38.1.Room = 0))) (by decide) ?_
        rcases Bool.eq_false_or_eq_true (decide (y38.1.Room = 0)) with hb80 | hb80
        ·have hr := ite_t hb80 hr
         refine L_gt (e := 60) (by rfl) (by decide) (rfl : _ = Value.bool (decide (y38.1.Room = 0))) hb80 ?_
         obtain ⟨y81, hy82, hr⟩ := bind_some hr
         refine L_calls cal10 (args0) (law08_works_ok N _  y81 hy82) (by decide) ?_
         intro v83 s86 e84 hv85
         have hE87 := Tch.ext hE69 e84
         obtain rfl := hv85.bool
         refine L_pick_t (rfl : _ = Value.bool (decide (y38.1.Room = 0))) hb80 (rfl : _ = Value.bool (y81)) (by decide) ?_
         refine L_assign (rfl : _ = Value.bool (y81)) (by decide) ?_
         refine L_nil ?_
         exact then_n ⟨s86, y81, rfl, hE87, e84.le, Option.some.inj hr, rfl⟩
        ·have hr := ite_f hb80 hr
         refine L_gf (e := 60) (by rfl) (by decide) (rfl : _ = Value.bool (decide (y38.1.Room = 0))) hb80 (by decide) ?_
         refine L_pick_f (rfl : _ = Value.bool (decide (y38.1.Room = 0))) hb80 (rfl : _ = Value.bool (false)) (by decide) ?_
         refine L_assign (rfl : _ = Value.bool (false)) (by decide) ?_
         refine L_nil ?_
         exact then_n ⟨s67, false, rfl, hE69, (Le.refl _), Option.some.inj hr, rfl⟩
       ·have hr := ite_f hb77 hr
        refine L_gf (e := 55) (by rfl) (by decide) (rfl : _ = Value.bool (decide ((y25.1.length : Int) = 0))) hb77 (by decide) ?_
        refine L_gf (e := 55) (by rfl) (by decide) (rfl : _ = Value.bool (decide ((y25.1.length : Int) = 0))) hb77 (by decide) ?_
        refine L_gf (e := 55) (by rfl) (by decide) (rfl : _ = Value.bool (decide ((y25.1.length : Int) = 0))) hb77 (by decide) ?_
        refine L_pick_f (rfl : _ = Value.bool (decide ((y25.1.length : Int) = 0))) hb77 (rfl : _ = Value.bool (false)) (by decide) ?_
        refine L_move (rfl : _ = Value.bool (false)) (by decide) ?_
        refine L_gf (e := 60) (by rfl) (by decide) (rfl : _ = Value.bool (false)) rfl (by decide) ?_
        refine L_pick_f (rfl : _ = Value.bool (false)) rfl (rfl : _ = Value.bool (false)) (by decide) ?_
        refine L_assign (rfl : _ = Value.bool (false)) (by decide) ?_
        refine L_nil ?_
        exact then_n ⟨s67, false, rfl, hE69, (Le.refl _), Option.some.inj hr, rfl⟩
      ·rintro f92 w93 ⟨s88, x73, rfl, hE90, l89, ho75, g91_2⟩
       subst ho75
       have hr := hq76
       try dsimp only at hr
       refine W_ret ?_
       refine then_r ?_
       obtain rfl := Option.some.inj hr
       exact done1 (Or.inl rfl) Try.results8 g91_2 ⟨_, _, rfl, rfl, hE90, Vbool⟩
     ·have hr := ite_f hb72 hr
      refine W_skip ?_
      refine then_n ?_
      refine W_seq ?_
      obtain ⟨o95, ho96, hq97⟩ := bind_some hr
      refine W_seq_cut (fun f w => ∃ (s : St) (x94 : Bool), s.w = w ∧ Ext s0 s ∧ Le s67 s ∧ x94 = o95 ∧ f 72 = Value.bool x94 ∧ f 0 = w0 ∧ f 3 = v32 ∧ f 6 = Value.pointer (some ⟨b50, 0, none⟩)) ?_ ?_
      ·have hr := ho96
       refine W_region ?_
       refine L_move g70_3 (by decide) ?_
       refine L_len Try.underlying29 (rfl : _ = v32) (hv35.mono (e41.le.trans (e49.le.trans (e55.le.trans l68)))) (by decide) ?_
       refine L_move g70_0 (by decide) ?_
       refine L_len Try.underlying29 (rfl : _ = w0) (h0.mono (l14.trans (e28.le.trans (e41.le.trans (e49.le.trans (e55.le.trans l68)))))) (by decide) ?_
       refine L_neq (rfl : _ = Value.int .i64 ((y25.1.length : Int))) (rfl : _ = Value.int .i64 ((a0.length : Int))) (by decide) ?_
       refine L_move (rfl : _ = Value.bool (!decide ((y25.1.length : Int) = (a0.length : Int)))) (by decide) ?_
       rcases Bool.eq_false_or_eq_true (!decide ((y25.1.length : Int) = (a0.length : Int))) with hb98 | hb98
       ·have hr := ite_t hb98 hr
        refine L_gf (e := 68) (by rfl) (by decide) (rfl : _ = Value.bool (!decide ((y25.1.length : Int) = (a0.length : Int)))) hb98 (by decide) ?_
        refine L_gf (e := 68) (by rfl) (by decide) (rfl : _ = Value.bool (!decide ((y25.1.length : Int) = (a0.length : Int)))) hb98 (by decide) ?_
        refine L_gf (e := 68) (by rfl) (by decide) (rfl : _ = Value.bool (!decide ((y25.1.length : Int) = (a0.length : Int)))) hb98 (by decide) ?_
        refine L_pick_t (rfl : _ = Value.bool (!decide ((y25.1.length : Int) = (a0.length : Int)))) hb98 (rfl : _ = Value.bool (true)) (by decide) ?_
        refine L_nil ?_
        exact then_n ⟨s67, true, rfl, hE69, (Le.refl _), Option.some.inj hr, rfl, g70_0, g70_3, g70_6⟩
       ·have hr := ite_f hb98 hr
        refine L_gt (e := 68) (by rfl) (by decide) (rfl : _ = Value.bool (!decide ((y25.1.length : Int) = (a0.length : Int)))) hb98 ?_
        refine L_move g70_3 (by decide) ?_
        refine L_gt (e := 68) (by rfl) (by decide) (rfl : _ = Value.bool (!decide ((y25.1.length : Int) = (a0.length : Int)))) hb98 ?_
        obtain ⟨y99, hy100, hr⟩ := bind_some hr
        refine L_calls cal27 (args1 (rfl : _ = v32)) (dead_Check_ok N _ _ _ (hv35.mono (e41.le.trans (e49.le.trans (e55.le.trans l68)))) y99 hy100) (by decide) ?_
        intro v101 s104 e102 hv103
        have hE105 := Tch.ext hE69 e102
        obtain rfl := hv103.int
        refine L_gt (e := 68) (by rfl) (by decide) (rfl : _ = Value.bool (!decide ((y25.1.length : Int) = (a0.length : Int)))) hb98 ?_
        refine L_neq (rfl : _ = Value.int .i64 (y99)) (rfl : _ = Value.int .i64 (0)) (by decide) ?_
        refine L_pick_f (rfl : _ = Value.bool (!decide ((y25.1.length : Int) = (a0.length : Int)))) hb98 (rfl : _ = Value.bool (!decide (y99 = 0))) (by decide) ?_
        refine L_nil ?_
        exact then_n ⟨s104, (!decide (y99 = 0)), rfl, hE105, e102.le, Option.some.inj hr, rfl, g70_0, g70_3, g70_6⟩
      ·rintro f503 w504 ⟨s106, x94, rfl, hE108, l107, ho96, g109_72, g109_0, g109_3, g109_6⟩
       subst ho96
       have hr := hq97
       try dsimp only at hr
       refine W_cond _ g109_72 (fun hb110 => ?_) (fun hb110 => ?_)
       ·have hr := ite_t hb110 hr
        refine W_seq ?_
        refine W_region ?_
        refine L_assign (rfl : _ = Value.bool (false)) (by decide) ?_
        refine L_nil ?_
        refine then_n ?_
        refine W_ret ?_
        refine then_r ?_
        obtain rfl := Option.some.inj hr
        exact done1 (Or.inl rfl) Try.results8 rfl ⟨_, _, rfl, rfl, hE108, Vbool⟩
       ·have hr := ite_f hb110 hr
        refine W_skip ?_
        refine then_n ?_
        refine W_seq ?_
        refine W_seq ?_
        refine W_region ?_
        refine L_move g109_0 (by decide) ?_
        refine L_len Try.underlying29 (rfl : _ = w0) (h0.mono (l14.trans (e28.le.trans (e41.le.trans (e49.le.trans (e55.le.trans (l68.trans l107))))))) (by decide) ?_
        refine L_move (rfl : _ = Value.int .i64 (0)) (by decide) ?_
        refine L_nil ?_
        refine then_n ?_
        obtain ⟨o112, ho113, hq115⟩ := bind_some hr
        refine W_cut (fun f w => ∃ (s : St), s.w = w ∧ Ext s0 s ∧ Le s106 s ∧ Sum.inl () = o112 ∧ f 3 = v32 ∧ f 6 = Value.pointer (some ⟨b50, 0, none⟩)) ?_ ?_
        ·refine W_block ?_
         refine W_loop (fun m f w => ∃ (s : St) (x111 : Int), s.w = w ∧ Ext s0 s ∧ Le s106 s ∧ law08_DeadNarrow_l1 N a0 y25 m x111 = some o112 ∧ f 75 = Value.int .i64 x111 ∧ f 0 = w0 ∧ f 3 = v32 ∧ f 6 = Value.pointer (some ⟨b50, 0, none⟩) ∧ f 74 = Value.int .i64 ((a0.length : Int))) N ⟨s106, 0, rfl, hE108, (Le.refl _), ho113, rfl, g109_0, g109_3, g109_6, rfl⟩ ?_
         rintro m114 f463 w464 ⟨s117, x111, rfl, hE119, l118, hr, g120_75, g120_0, g120_3, g120_6, g120_74⟩
         cases m114 with
         | zero => exact absurd hr (by simp [law08_DeadNarrow_l1])
         | succ m114 =>
          rw [law08_DeadNarrow_l1.eq_2] at hr
          refine W_seq ?_
          refine W_region ?_
          refine L_lss g120_75 g120_74 (by decide) ?_
          refine L_nil ?_
          refine then_n ?_
          refine W_seq ?_
          refine W_cond _ (rfl : _ = Value.bool (decide (x111 < (a0.length : Int)))) (fun hb121 => ?_) (fun hb121 => ?_)
          ·have hr := ite_t hb121 hr
           refine W_skip ?_
           refine then_n ?_
           refine W_seq ?_
           refine W_block ?_
           refine W_seq ?_
           refine W_region ?_
           refine L_move g120_75 (by decide) ?_
           refine L_assign (rfl : _ = Value.int .i64 (x111)) (by decide) ?_
           refine L_nil ?_
           refine then_n ?_
           refine W_seq ?_
           refine W_seq ?_
           refine W_region ?_
           refine L_move g120_0 (by decide) ?_
           refine L_move (rfl : _ = Value.int .i64 (x111)) (by decide) ?_
           obtain ⟨y122, hy123, hr⟩ := bind_some hr
           refine L_index Try.underlying29 ty59.inf (rfl : _ = w0) (h0.mono (l14.trans (e28.le.trans (e41.le.trans (e49.le.trans (e55.le.trans (l68.trans (l107.trans l118)))))))) (rfl : _ = Value.int .i64 (x111)) hy123 (by decide) ?_
           intro p124 hp125
           refine L_load ty59 (rfl : _ = p124) hp125 (by decide) ?_
           intro v126 hv127
           refine L_len Try.underlying59 (rfl : _ = v126) hv127 (by decide) ?_
           refine L_gtr (rfl : _ = Value.int .i64 ((y122.length : Int))) (rfl : _ = Value.int .i64 (20)) (by decide) ?_
           refine L_nil ?_
           refine then_n ?_
           refine W_cond _ (rfl : _ = Value.bool (decide (20 < (y122.length : Int)))) (fun hb128 => ?_) (fun hb128 => ?_)
           ·have hr := ite_t hb128 hr
            refine W_seq ?_
            refine W_region ?_
            obtain ⟨y129, hy130, hr⟩ := bind_some hr
            refine L_calls cal10 (args0) (law08_works_ok N _  y129 hy130) (by decide) ?_
            intro v131 s134 e132 hv133
            have hE135 := Tch.ext hE119 e132
            obtain rfl := hv133.bool
            refine L_assign (rfl : _ = Value.bool (y129)) (by decide) ?_
            refine L_nil ?_
            refine then_n ?_
            refine W_ret ?_
            refine then_r ?_
            refine block_r ?_
            refine then_r ?_
            refine then_r ?_
            refine block_r ?_
            obtain rfl := Option.some.inj hr
            have hr := hq115
            try dsimp only at hr
            refine then_r ?_
            refine then_r ?_
            obtain rfl := Option.some.inj hr
            exact done1 (Or.inl rfl) Try.results8 rfl ⟨_, _, rfl, rfl, hE135, Vbool⟩
           ·have hr := ite_f hb128 hr
            refine W_skip ?_
            refine then_n ?_
            refine W_seq ?_
            refine W_seq ?_
            obtain ⟨y136, hy137, hr⟩ := bind_some hr
            obtain ⟨y142, hy143, hr⟩ := bind_some hr
            refine W_draws mixed (by kernel_rfl) [PV.data (y25.1 : List (List Deed)), PV.eq (Value.int .i64 (x111)), PV.ptr (y136 : List Deed), PV.data (y136 : List Deed), PV.eq (Value.int .i64 ((y136.length : Int))), PV.data (a0 : List (List Deed)), PV.eq (Value.int .i64 (x111)), PV.ptr (y142 : List Deed), PV.data (y142 : List Deed), PV.eq (Value.int .i64 ((y142.length : Int))), PV.eq (Value.bool (!decide ((y136.length : Int) = (y142.length : Int))))] (Steps_cons ?_ (Steps_cons ?_ (Steps_cons ?_ (Steps_cons ?_ (Steps_cons ?_ (Steps_cons ?_ (Steps_cons ?_ (Steps_cons ?_ (Steps_cons ?_ (Steps_cons ?_ (Steps_cons ?_ Steps_nil))))))))))) ?_
            ·intro f150 s148 e149 hA151 hB152 Q hk153
             have ha154 : f150 3 = v32 := (hB152 3 (by kernel_rfl)).trans g120_3
             refine L_move ha154 (by decide) ?_
             exact L_nil (hk153 _ _ (Ext.refl s148) (hv35.mono (e41.le.trans (e49.le.trans (e55.le.trans (l68.trans (l107.trans (l118.trans e149.le))))))))
            ·intro f157 s155 e156 hA158 hB159 Q hk160
             have ha161 : f157 8 = Value.int .i64 (x111) := (hB159 8 (by kernel_rfl)).trans rfl
             refine L_move ha161 (by decide) ?_
             exact L_nil (hk160 _ _ (Ext.refl s155) rfl)
            ·intro f164 s162 e163 hA165 hB166 Q hk167
             have ha168 : V _ (f164 85) (y25.1 : List (List Deed)) := hA165 0 85 (by kernel_rfl) (by kernel_rfl)
             obtain ⟨v169, q170, hv171⟩ : ∃ v, _ = v ∧ V _ v _ := ⟨_, rfl, ha168⟩
             have ha172 : f164 86 = Value.int .i64 (x111) := hA165 1 86 (by kernel_rfl) (by kernel_rfl)
             refine L_index Try.underlying29 ty59.inf q170 hv171 ha172 hy137 (by decide) ?_
             intro p138 hp139
             exact L_nil (hk167 _ _ (Ext.refl s162) hp139)
            ·intro f175 s173 e174 hA176 hB177 Q hk178
             have ha179 : Ptr _ (f175 87) (y136 : List Deed) := hA176 2 87 (by kernel_rfl) (by kernel_rfl)
             obtain ⟨v180, q181, hv182⟩ : ∃ v, _ = v ∧ Ptr _ v _ := ⟨_, rfl, ha179⟩
             refine L_load ty59 q181 hv182 (by decide) ?_
             intro v140 hv141
             exact L_nil (hk178 _ _ (Ext.refl s173) hv141)
            ·intro f185 s183 e184 hA186 hB187 Q hk188
             have ha189 : V _ (f185 88) (y136 : List Deed) := hA186 3 88 (by kernel_rfl) (by kernel_rfl)
             obtain ⟨v190, q191, hv192⟩ : ∃ v, _ = v ∧ V _ v _ := ⟨_, rfl, ha189⟩
             refine L_len Try.underlying59 q191 hv192 (by decide) ?_
             exact L_nil (hk188 _ _ (Ext.refl s183) rfl)
            ·intro f195 s193 e194 hA196 hB197 Q hk198
             have ha199 : f195 0 = w0 := (hB197 0 (by kernel_rfl)).trans g120_0
             refine L_move ha199 (by decide) ?_
             exact L_nil (hk198 _ _ (Ext.refl s193) (h0.mono (l14.trans (e28.le.trans (e41.le.trans (e49.le.trans (e55.le.trans (l68.trans (l107.trans (l118.trans e194.le))))))))))
            ·intro f202 s200 e201 hA203 hB204 Q hk205
             have ha206 : f202 8 = Value.int .i64 (x111) := (hB204 8 (by kernel_rfl)).trans rfl
             refine L_move ha206 (by decide) ?_
             exact L_nil (hk205 _ _ (Ext.refl s200) rfl)
            ·intro f209 s207 e208 hA210 hB211 Q hk212
             have ha213 : V _ (f209 90) (a0 : List (List Deed)) := hA210 5 90 (by kernel_rfl) (by kernel_rfl)
             obtain ⟨v214, q215, hv216⟩ : ∃ v, _ = v ∧ V _ v _ := ⟨_, rfl, ha213⟩
             have ha217 : f209 91 = Value.int .i64 (x111) := hA210 6 91 (by kernel_rfl) (by kernel_rfl)
             refine L_index Try.underlying29 ty59.inf q215 hv216 ha217 hy143 (by decide) ?_
             intro p144 hp145
             exact L_nil (hk212 _ _ (Ext.refl s207) hp145)
            ·intro f220 s218 e219 hA221 hB222 Q hk223
             have ha224 : Ptr _ (f220 92) (y142 : List Deed) := hA221 7 92 (by kernel_rfl) (by kernel_rfl)
             obtain ⟨v225, q226, hv227⟩ : ∃ v, _ = v ∧ Ptr _ v _ := ⟨_, rfl, ha224⟩
             refine L_load ty59 q226 hv227 (by decide) ?_
             intro v146 hv147
             exact L_nil (hk223 _ _ (Ext.refl s218) hv147)
            ·intro f230 s228 e229 hA231 hB232 Q hk233
             have ha234 : V _ (f230 93) (y142 : List Deed) := hA231 8 93 (by kernel_rfl) (by kernel_rfl)
             obtain ⟨v235, q236, hv237⟩ : ∃ v, _ = v ∧ V _ v _ := ⟨_, rfl, ha234⟩
             refine L_len Try.underlying59 q236 hv237 (by decide) ?_
             exact L_nil (hk233 _ _ (Ext.refl s228) rfl)
            ·intro f240 s238 e239 hA241 hB242 Q hk243
             have ha244 : f240 89 = Value.int .i64 ((y136.length : Int)) := hA241 4 89 (by kernel_rfl) (by kernel_rfl)
             have ha245 : f240 94 = Value.int .i64 ((y142.length : Int)) := hA241 9 94 (by kernel_rfl) (by kernel_rfl)
             refine L_neq ha244 ha245 (by decide) ?_
             exact L_nil (hk243 _ _ (Ext.refl s238) rfl)
            ·intro f248 s246 e247 hA249 hB250
             have hE251 := Tch.ext hE119 e247
             have ha252 : f248 0 = w0 := (hB250 0 (by kernel_rfl)).trans g120_0
             have ha253 : f248 3 = v32 := (hB250 3 (by kernel_rfl)).trans g120_3
             have ha254 : f248 6 = Value.pointer (some ⟨b50, 0, none⟩) := (hB250 6 (by kernel_rfl)).trans g120_6
             have ha255 : f248 8 = Value.int .i64 (x111) := (hB250 8 (by kernel_rfl)).trans rfl
             have ha256 : f248 74 = Value.int .i64 ((a0.length : Int)) := (hB250 74 (by kernel_rfl)).trans g120_74
             have ha257 : f248 75 = Value.int .i64 (x111) := (hB250 75 (by kernel_rfl)).trans g120_75
             have ha258 : f248 95 = Value.bool (!decide ((y136.length : Int) = (y142.length : Int))) := hA249 10 95 (by kernel_rfl)
             refine then_n ?_
             refine W_cond _ ha258 (fun hb259 => ?_) (fun hb259 => ?_)
             ·have hr := ite_t hb259 hr
              refine W_seq ?_
              refine W_region ?_
              refine L_assign (rfl : _ = Value.bool (false)) (by decide) ?_
              refine L_nil ?_
              refine then_n ?_
              refine W_ret ?_
              refine then_r ?_
              refine block_r ?_
              refine then_r ?_
              refine then_r ?_
              refine block_r ?_
              obtain rfl := Option.some.inj hr
              have hr := hq115
              try dsimp only at hr
              refine then_r ?_
              refine then_r ?_
              obtain rfl := Option.some.inj hr
              exact done1 (Or.inl rfl) Try.results8 rfl ⟨_, _, rfl, rfl, hE251, Vbool⟩
             ·have hr := ite_f hb259 hr
              refine W_skip ?_
              refine then_n ?_
              refine W_seq ?_
              refine W_region ?_
              refine L_move ha252 (by decide) ?_
              refine L_move ha255 (by decide) ?_
              obtain ⟨y260, hy261, hr⟩ := bind_some hr
              refine L_index Try.underlying29 ty59.inf (rfl : _ = w0) (h0.mono (l14.trans (e28.le.trans (e41.le.trans (e49.le.trans (e55.le.trans (l68.trans (l107.trans (l118.trans e247.le))))))))) (rfl : _ = Value.int .i64 (x111)) hy261 (by decide) ?_
              intro p262 hp263
              refine L_load ty59 (rfl : _ = p262) hp263 (by decide) ?_
              intro v264 hv265
              refine L_len Try.underlying59 (rfl : _ = v264) hv265 (by decide) ?_
              refine L_move (rfl : _ = Value.int .i64 (0)) (by decide) ?_
              refine L_nil ?_
              refine then_n ?_
              obtain ⟨o267, ho268, hq270⟩ := bind_some hr
              refine W_cut (fun f w => ∃ (s : St), s.w = w ∧ Ext s0 s ∧ Le s246 s ∧ Sum.inl () = o267 ∧ f 0 = w0 ∧ f 3 = v32 ∧ f 6 = Value.pointer (some ⟨b50, 0, none⟩) ∧ f 74 = Value.int .i64 ((a0.length : Int)) ∧ f 75 = Value.int .i64 (x111)) ?_ ?_
              ·refine W_block ?_
               refine W_loop (fun m f w => ∃ (s : St) (x266 : Int), s.w = w ∧ Ext s0 s ∧ Le s246 s ∧ law08_DeadNarrow_l2 N a0 y25 x111 y260 m x266 = some o267 ∧ f 101 = Value.int .i64 x266 ∧ f 0 = w0 ∧ f 3 = v32 ∧ f 6 = Value.pointer (some ⟨b50, 0, none⟩) ∧ f 8 = Value.int .i64 (x111) ∧ f 74 = Value.int .i64 ((a0.length : Int)) ∧ f 75 = Value.int .i64 (x111) ∧ f 99 = v264 ∧ f 100 = Value.int .i64 ((y260.length : Int))) N ⟨s246, 0, rfl, hE251, (Le.refl _), ho268, rfl, ha252, ha253, ha254, ha255, ha256, ha257, rfl, rfl⟩ ?_
               rintro m269 f454 w455 ⟨s272, x266, rfl, hE274, l273, hr, g275_101, g275_0, g275_3, g275_6, g275_8, g275_74, g275_75, g275_99, g275_100⟩
               cases m269 with
               | zero => exact absurd hr (by simp [law08_DeadNarrow_l2])
               | succ m269 =>
                rw [law08_DeadNarrow_l2.eq_2] at hr
                refine W_seq ?_
                refine W_region ?_
                refine L_lss g275_101 g275_100 (by decide) ?_
                refine L_nil ?_
                refine then_n ?_
                refine W_seq ?_
                refine W_cond _ (rfl : _ = Value.bool (decide (x266 < (y260.length : Int)))) (fun hb276 => ?_) (fun hb276 => ?_)
                ·have hr := ite_t hb276 hr
                 refine W_skip ?_
                 refine then_n ?_
                 refine W_seq ?_
                 refine W_block ?_
                 refine W_seq ?_
                 refine W_region ?_
                 refine L_move g275_101 (by decide) ?_
                 obtain ⟨y277, hy278, hr⟩ := bind_some hr
                 refine L_index Try.underlying59 ty64.inf g275_99 (hv265.mono l273) g275_101 hy278 (by decide) ?_
                 intro p279 hp280
                 refine L_load ty64 (rfl : _ = p279) hp280 (by decide) ?_
                 intro v281 hv282
                 refine L_alloc (α := Deed) (x := ⟨0, 0, 0, 0, false⟩) zero64 Deed.zero_rel (by decide) ?_
                 intro s287 b284 e283 hb285 hv286
                 have hE288 := Tch.ext hE274 e283
                 refine L_assign (rfl : _ = Value.int .i64 (x266)) (by decide) ?_
                 refine L_store_ro ty64 (rfl : _ = Value.pointer (some ⟨b284, 0, none⟩)) (rfl : _ = v281) (hv282.mono e283.le) (hv286) ?_
                 intro s291 e289 hv290
                 have hE292 := Tch.trans hE288 e289 (fun k hk => Or.inr (by subst hk; exact (Nat.le_trans hE274.size hb285)))
                 refine L_nil ?_
                 refine then_n ?_
                 refine W_seq ?_
                 refine W_region ?_
                 refine L_move g275_3 (by decide) ?_
                 refine L_move g275_8 (by decide) ?_
                 obtain ⟨y293, hy294, hr⟩ := bind_some hr
                 refine L_index Try.underlying29 ty59.inf (rfl : _ = v32) (hv35.mono (e41.le.trans (e49.le.trans (e55.le.trans (l68.trans (l107.trans (l118.trans (e247.le.trans (l273.trans (e283.le.trans e289.le)))))))))) (rfl : _ = Value.int .i64 (x111)) hy294 (by decide) ?_
                 intro p295 hp296
                 refine L_load ty59 (rfl : _ = p295) hp296 (by decide) ?_
                 intro v297 hv298
                 refine L_move (rfl : _ = Value.int .i64 (x266)) (by decide) ?_
                 obtain ⟨y299, hy300, hr⟩ := bind_some hr
                 refine L_index Try.underlying59 ty64.inf (rfl : _ = v297) hv298 (rfl : _ = Value.int .i64 (x266)) hy300 (by decide) ?_
                 intro p301 hp302
                 refine L_load ty64 (rfl : _ = p301) hp302 (by decide) ?_
                 intro v303 hv304
                 refine L_alloc (α := Deed) (x := ⟨0, 0, 0, 0, false⟩) zero64 Deed.zero_rel (by decide) ?_
                 intro s309 b306 e305 hb307 hv308
                 have hE310 := Tch.ext hE292 e305
                 refine L_store_ro ty64 (rfl : _ = Value.pointer (some ⟨b306, 0, none⟩)) (rfl : _ = v303) (hv304.mono e305.le) (hv308) ?_
                 intro s313 e311 hv312
                 have hE314 := Tch.trans hE310 e311 (fun k hk => Or.inr (by subst hk; exact (Nat.le_trans hE292.size hb307)))
                 refine L_nil ?_
                 refine then_n ?_
                 refine W_seq ?_
                 obtain ⟨o316, ho317, hq318⟩ := bind_some hr
                 refine W_seq_cut (fun f w => ∃ (s : St) (x315 : Bool), s.w = w ∧ Ext s0 s ∧ Le s313 s ∧ x315 = o316 ∧ f 125 = Value.bool x315 ∧ f 0 = w0 ∧ f 3 = v32 ∧ f 6 = Value.pointer (some ⟨b50, 0, none⟩) ∧ f 8 = Value.int .i64 (x111) ∧ f 10 = Value.pointer (some ⟨b284, 0, none⟩) ∧ f 11 = Value.pointer (some ⟨b306, 0, none⟩) ∧ f 74 = Value.int .i64 ((a0.length : Int)) ∧ f 75 = Value.int .i64 (x111) ∧ f 99 = v264 ∧ f 100 = Value.int .i64 ((y260.length : Int)) ∧ f 101 = Value.int .i64 (x266)) ?_ ?_
                 ·have hr := ho317
                  refine W_region ?_
                  refine L_fieldAddr fld64_1 Deed.of_Peer (rfl : _ = Value.pointer (some ⟨b306, 0, none⟩)) hv312 (by decide) ?_
                  intro p319 hp320
                  refine L_load_int ty3 (rfl : _ = p319) hp320 (by decide) ?_
                  refine L_eql (rfl : _ = Value.int .i64 (y299.Peer)) (rfl : _ = Value.int .i64 (-1)) (by decide) ?_
                  refine L_move (rfl : _ = Value.bool (decide (y299.Peer = (-1)))) (by decide) ?_
                  rcases Bool.eq_false_or_eq_true (decide (y299.Peer = (-1))) with hb321 | hb321
                  ·have hr := ite_t hb321 hr
                   refine L_gf (e := 116) (by rfl) (by decide) (rfl : _ = Value.bool (decide (y299.Peer = (-1)))) hb321 (by decide) ?_
                   refine L_gf (e := 116) (by rfl) (by decide) (rfl : _ = Value.bool (decide (y299.Peer = (-1)))) hb321 (by decide) ?_
                   refine L_gf (e := 116) (by rfl) (by decide) (rfl : _ = Value.bool (decide (y299.Peer = (-1)))) hb321 (by decide) ?_
                   refine L_gf (e := 116) (by rfl) (by decide) (rfl : _ = Value.bool (decide (y299.Peer = (-1)))) hb321 (by decide) ?_
                   refine L_gu (e := 120) (by rfl) (rfl : _ = undef) (by decide) ?_
                   refine L_gu (e := 120) (by rfl) (rfl : _ = undef) (by decide) ?_
                   refine L_gu (e := 120) (by rfl) (rfl : _ = undef) (by decide) ?_
                   refine L_gf (e := 116) (by rfl) (by decide) (rfl : _ = Value.bool (decide (y299.Peer = (-1)))) hb321 (by decide) ?_
                   refine L_pick_t (rfl : _ = Value.bool (decide (y299.Peer = (-1)))) hb321 (rfl : _ = Value.bool (true)) (by decide) ?_
                   refine L_nil ?_
                   exact then_n ⟨s313, true, rfl, hE314, (Le.refl _), Option.some.inj hr, rfl, g275_0, g275_3, g275_6, g275_8, rfl, rfl, g275_74, g275_75, g275_99, g275_100, g275_101⟩
                  ·have hr := ite_f hb321 hr
                   refine L_gt (e := 116) (by rfl) (by decide) (rfl : _ = Value.bool (decide (y299.Peer = (-1)))) hb321 ?_
                   refine L_fieldAddr fld64_1 Deed.of_Peer (rfl : _ = Value.pointer (some ⟨b284, 0, none⟩)) (hv290.mono (e305.le.trans e311.le)) (by decide) ?_
                   intro p322 hp323
                   refine L_gt (e := 116) (by rfl) (by decide) (rfl : _ = Value.bool (decide (y299.Peer = (-1)))) hb321 ?_
                   refine L_load_int ty3 (rfl : _ = p322) hp323 (by decide) ?_
                   refine L_gt (e := 116) (by rfl) (by decide) (rfl : _ = Value.bool (decide (y299.Peer = (-1)))) hb321 ?_
                   refine L_neq (rfl : _ = Value.int .i64 (y277.Peer)) (rfl : _ = Value.int .i64 (-1)) (by decide) ?_
                   refine L_gt (e := 116) (by rfl) (by decide) (rfl : _ = Value.bool (decide (y299.Peer = (-1)))) hb321 ?_
                   refine L_move (rfl : _ = Value.bool (!decide (y277.Peer = (-1)))) (by decide) ?_
                   rcases Bool.eq_false_or_eq_true (!decide (y277.Peer = (-1))) with hb324 | hb324
                   ·have hr := ite_t hb324 hr
                    refine L_gt (e := 120) (by rfl) (by decide) (rfl : _ = Value.bool (!decide (y277.Peer = (-1)))) hb324 ?_
                    refine L_load ty64 (rfl : _ = Value.pointer (some ⟨b306, 0, none⟩)) hv312 (by decide) ?_
                    intro v325 hv326
                    refine L_gt (e := 120) (by rfl) (by decide) (rfl : _ = Value.bool (!decide (y277.Peer = (-1)))) hb324 ?_
                    refine L_load ty64 (rfl : _ = Value.pointer (some ⟨b284, 0, none⟩)) (hv290.mono (e305.le.trans e311.le)) (by decide) ?_
                    intro v327 hv328
                    refine L_gt (e := 120) (by rfl) (by decide) (rfl : _ = Value.bool (!decide (y277.Peer = (-1)))) hb324 ?_
                    refine L_sne64 (rfl : _ = v325) hv326 (rfl : _ = v327) hv328 (by decide) ?_
                    refine L_gt (e := 116) (by rfl) (by decide) (rfl : _ = Value.bool (decide (y299.Peer = (-1)))) hb321 ?_
                    refine L_pick_t (rfl : _ = Value.bool (!decide (y277.Peer = (-1)))) hb324 (rfl : _ = Value.bool (!decide (y299 = y277))) (by decide) ?_
                    refine L_pick_f (rfl : _ = Value.bool (decide (y299.Peer = (-1)))) hb321 (rfl : _ = Value.bool (!decide (y299 = y277))) (by decide) ?_
                    refine L_nil ?_
                    exact then_n ⟨s313, (!decide (y299 = y277)), rfl, hE314, (Le.refl _), Option.some.inj hr, rfl, g275_0, g275_3, g275_6, g275_8, rfl, rfl, g275_74, g275_75, g275_99, g275_100, g275_101⟩
                   ·have hr := ite_f hb324 hr
                    refine L_gf (e := 120) (by rfl) (by decide) (rfl : _ = Value.bool (!decide (y277.Peer = (-1)))) hb324 (by decide) ?_
                    refine L_gf (e := 120) (by rfl) (by decide) (rfl : _ = Value.bool (!decide (y277.Peer = (-1)))) hb324 (by decide) ?_
                    refine L_gf (e := 120) (by rfl) (by decide) (rfl : _ = Value.bool (!decide (y277.Peer = (-1)))) hb324 (by decide) ?_
                    refine L_gt (e := 116) (by rfl) (by decide) (rfl : _ = Value.bool (decide (y299.Peer = (-1)))) hb321 ?_
                    refine L_pick_f (rfl : _ = Value.bool (!decide (y277.Peer = (-1)))) hb324 (rfl : _ = Value.bool (false)) (by decide) ?_
                    refine L_pick_f (rfl : _ = Value.bool (decide (y299.Peer = (-1)))) hb321 (rfl : _ = Value.bool (false)) (by decide) ?_
                    refine L_nil ?_
                    exact then_n ⟨s313, false, rfl, hE314, (Le.refl _), Option.some.inj hr, rfl, g275_0, g275_3, g275_6, g275_8, rfl, rfl, g275_74, g275_75, g275_99, g275_100, g275_101⟩
                 ·rintro f450 w451 ⟨s329, x315, rfl, hE331, l330, ho317, g332_125, g332_0, g332_3, g332_6, g332_8, g332_10, g332_11, g332_74, g332_75, g332_99, g332_100, g332_101⟩
                  subst ho317
                  have hr := hq318
                  try dsimp only at hr
                  refine W_cond _ g332_125 (fun hb333 => ?_) (fun hb333 => ?_)
                  ·have hr := ite_t hb333 hr
                   refine W_seq ?_
                   refine W_region ?_
                   refine L_assign (rfl : _ = Value.bool (false)) (by decide) ?_
                   refine L_nil ?_
                   refine then_n ?_
                   refine W_ret ?_
                   refine then_r ?_
                   refine block_r ?_
                   refine then_r ?_
                   refine then_r ?_
                   refine block_r ?_
                   obtain rfl := Option.some.inj hr
                   have hr := hq270
                   try dsimp only at hr
                   refine then_r ?_
                   refine block_r ?_
                   refine then_r ?_
                   refine then_r ?_
                   refine block_r ?_
                   obtain rfl := Option.some.inj hr
                   have hr := hq115
                   try dsimp only at hr
                   refine then_r ?_
                   refine then_r ?_
                   obtain rfl := Option.some.inj hr
                   exact done1 (Or.inl rfl) Try.results8 rfl ⟨_, _, rfl, rfl, hE331, Vbool⟩
                  ·have hr := ite_f hb333 hr
                   refine W_skip ?_
                   refine then_n ?_
                   refine W_seq ?_
                   refine W_region ?_
                   refine L_move g332_0 (by decide) ?_
                   refine L_len Try.underlying29 (rfl : _ = w0) (h0.mono (l14.trans (e28.le.trans (e41.le.trans (e49.le.trans (e55.le.trans (l68.trans (l107.trans (l118.trans (e247.le.trans (l273.trans (e283.le.trans (e289.le.trans (e305.le.trans (e311.le.trans l330))))))))))))))) (by decide) ?_
                   refine L_move (rfl : _ = Value.int .i64 (0)) (by decide) ?_
                   refine L_nil ?_
                   refine then_n ?_
                   obtain ⟨o335, ho336, hq338⟩ := bind_some hr
                   refine W_cut (fun f w => ∃ (s : St), s.w = w ∧ Ext s0 s ∧ Le s329 s ∧ Sum.inl () = o335 ∧ f 0 = w0 ∧ f 3 = v32 ∧ f 6 = Value.pointer (some ⟨b50, 0, none⟩) ∧ f 8 = Value.int .i64 (x111) ∧ f 74 = Value.int .i64 ((a0.length : Int)) ∧ f 75 = Value.int .i64 (x111) ∧ f 99 = v264 ∧ f 100 = Value.int .i64 ((y260.length : Int)) ∧ f 101 = Value.int .i64 (x266)) ?_ ?_
                   ·refine W_block ?_
                    refine W_loop (fun m f w => ∃ (s : St) (x334 : Int), s.w = w ∧ Ext s0 s ∧ Le s329 s ∧ law08_DeadNarrow_l3 N a0 x111 y277 y299 m x334 = some o335 ∧ f 128 = Value.int .i64 x334 ∧ f 0 = w0 ∧ f 3 = v32 ∧ f 6 = Value.pointer (some ⟨b50, 0, none⟩) ∧ f 8 = Value.int .i64 (x111) ∧ f 10 = Value.pointer (some ⟨b284, 0, none⟩) ∧ f 11 = Value.pointer (some ⟨b306, 0, none⟩) ∧ f 74 = Value.int .i64 ((a0.length : Int)) ∧ f 75 = Value.int .i64 (x111) ∧ f 99 = v264 ∧ f 100 = Value.int .i64 ((y260.length : Int)) ∧ f 101 = Value.int .i64 (x266) ∧ f 127 = Value.int .i64 ((a0.length : Int))) N ⟨s329, 0, rfl, hE331, (Le.refl _), ho336, rfl, g332_0, g332_3, g332_6, g332_8, g332_10, g332_11, g332_74, g332_75, g332_99, g332_100, g332_101, rfl⟩ ?_
                    rintro m337 f443 w444 ⟨s340, x334, rfl, hE342, l341, hr, g343_128, g343_0, g343_3, g343_6, g343_8, g343_10, g343_11, g343_74, g343_75, g343_99, g343_100, g343_101, g343_127⟩
                    cases m337 with
                    | zero => exact absurd hr (by simp [law08_DeadNarrow_l3])
                    | succ m337 =>
                     rw [law08_DeadNarrow_l3.eq_2] at hr
                     refine W_seq ?_
                     refine W_region ?_
                     refine L_lss g343_128 g343_127 (by decide) ?_
                     refine L_nil ?_
                     refine then_n ?_
                     refine W_seq ?_
                     refine W_cond _ (rfl : _ = Value.bool (decide (x334 < (a0.length : Int)))) (fun hb344 => ?_) (fun hb344 => ?_)
                     ·have hr := ite_t hb344 hr
                      refine W_skip ?_
                      refine then_n ?_
                      refine W_seq ?_
                      refine W_block ?_
                      refine W_seq ?_
                      refine W_region ?_
                      refine L_move g343_128 (by decide) ?_
                      refine L_assign (rfl : _ = Value.int .i64 (x334)) (by decide) ?_
                      refine L_nil ?_
                      refine then_n ?_
                      refine W_seq ?_
                      refine W_region ?_
                      refine L_move g343_0 (by decide) ?_
                      refine L_move (rfl : _ = Value.int .i64 (x334)) (by decide) ?_
                      obtain ⟨y345, hy346, hr⟩ := bind_some hr
                      refine L_index Try.underlying29 ty59.inf (rfl : _ = w0) (h0.mono (l14.trans (e28.le.trans (e41.le.trans (e49.le.trans (e55.le.trans (l68.trans (l107.trans (l118.trans (e247.le.trans (l273.trans (e283.le.trans (e289.le.trans (e305.le.trans (e311.le.trans (l330.trans l341)))))))))))))))) (rfl : _ = Value.int .i64 (x334)) hy346 (by decide) ?_
                      intro p347 hp348
                      refine L_load ty59 (rfl : _ = p347) hp348 (by decide) ?_
                      intro v349 hv350
                      refine L_len Try.underlying59 (rfl : _ = v349) hv350 (by decide) ?_
                      refine L_move (rfl : _ = Value.int .i64 (0)) (by decide) ?_
                      refine L_nil ?_
                      refine then_n ?_
                      obtain ⟨o352, ho353, hq355⟩ := bind_some hr
                      refine W_cut (fun f w => ∃ (s : St), s.w = w ∧ Ext s0 s ∧ Le s340 s ∧ Sum.inl () = o352 ∧ f 0 = w0 ∧ f 3 = v32 ∧ f 6 = Value.pointer (some ⟨b50, 0, none⟩) ∧ f 8 = Value.int .i64 (x111) ∧ f 10 = Value.pointer (some ⟨b284, 0, none⟩) ∧ f 11 = Value.pointer (some ⟨b306, 0, none⟩) ∧ f 74 = Value.int .i64 ((a0.length : Int)) ∧ f 75 = Value.int .i64 (x111) ∧ f 99 = v264 ∧ f 100 = Value.int .i64 ((y260.length : Int)) ∧ f 101 = Value.int .i64 (x266) ∧ f 127 = Value.int .i64 ((a0.length : Int)) ∧ f 128 = Value.int .i64 (x334)) ?_ ?_
                      ·refine W_block ?_
                       refine W_loop (fun m f w => ∃ (s : St) (x351 : Int), s.w = w ∧ Ext s0 s ∧ Le s340 s ∧ law08_DeadNarrow_l4 N x111 y277 y299 x334 y345 m x351 = some o352 ∧ f 136 = Value.int .i64 x351 ∧ f 0 = w0 ∧ f 3 = v32 ∧ f 6 = Value.pointer (some ⟨b50, 0, none⟩) ∧ f 8 = Value.int .i64 (x111) ∧ f 10 = Value.pointer (some ⟨b284, 0, none⟩) ∧ f 11 = Value.pointer (some ⟨b306, 0, none⟩) ∧ f 12 = Value.int .i64 (x334) ∧ f 74 = Value.int .i64 ((a0.length : Int)) ∧ f 75 = Value.int .i64 (x111) ∧ f 99 = v264 ∧ f 100 = Value.int .i64 ((y260.length : Int)) ∧ f 101 = Value.int .i64 (x266) ∧ f 127 = Value.int .i64 ((a0.length : Int)) ∧ f 128 = Value.int .i64 (x334) ∧ f 134 = v349 ∧ f 135 = Value.int .i64 ((y345.length : Int))) N ⟨s340, 0, rfl, hE342, (Le.refl _), ho353, rfl, g343_0, g343_3, g343_6, g343_8, g343_10, g343_11, rfl, g343_74, g343_75, g343_99, g343_100, g343_101, g343_127, g343_128, rfl, rfl⟩ ?_
                       rintro m354 f434 w435 ⟨s357, x351, rfl, hE359, l358, hr, g360_136, g360_0, g360_3, g360_6, g360_8, g360_10, g360_11, g360_12, g360_74, g360_75, g360_99, g360_100, g360_101, g360_127, g360_128, g360_134, g360_135⟩
                       cases m354 with
                       | zero => exact absurd hr (by simp [law08_DeadNarrow_l4])
                       | succ m354 =>
                        rw [law08_DeadNarrow_l4.eq_2] at hr
                        refine W_seq ?_
                        refine W_region ?_
                        refine L_lss g360_136 g360_135 (by decide) ?_
                        refine L_nil ?_
                        refine then_n ?_
                        refine W_seq ?_
                        refine W_cond _ (rfl : _ = Value.bool (decide (x351 < (y345.length : Int)))) (fun hb361 => ?_) (fun hb361 => ?_)
                        ·have hr := ite_t hb361 hr
                         refine W_skip ?_
                         refine then_n ?_
                         refine W_seq ?_
                         refine W_block ?_
                         refine W_seq ?_
                         refine W_region ?_
                         obtain ⟨y362, hy363, hr⟩ := bind_some hr
                         refine L_index Try.underlying59 ty64.inf g360_134 (hv350.mono l358) g360_136 hy363 (by decide) ?_
                         intro p364 hp365
                         refine L_load ty64 (rfl : _ = p364) hp365 (by decide) ?_
                         intro v366 hv367
                         refine L_alloc (α := Deed) (x := ⟨0, 0, 0, 0, false⟩) zero64 Deed.zero_rel (by decide) ?_
                         intro s372 b369 e368 hb370 hv371
                         have hE373 := Tch.ext hE359 e368
                         refine L_store_ro ty64 (rfl : _ = Value.pointer (some ⟨b369, 0, none⟩)) (rfl : _ = v366) (hv367.mono e368.le) (hv371) ?_
                         intro s376 e374 hv375
                         have hE377 := Tch.trans hE373 e374 (fun k hk => Or.inr (by subst hk; exact (Nat.le_trans hE359.size hb370)))
                         refine L_nil ?_
                         refine then_n ?_
                         obtain ⟨o379, ho380, hq381⟩ := bind_some hr
                         refine W_seq_cut (fun f w => ∃ (s : St) (x378 : Bool), s.w = w ∧ Ext s0 s ∧ Le s376 s ∧ x378 = o379 ∧ f 15 = Value.bool x378 ∧ f 0 = w0 ∧ f 3 = v32 ∧ f 6 = Value.pointer (some ⟨b50, 0, none⟩) ∧ f 8 = Value.int .i64 (x111) ∧ f 10 = Value.pointer (some ⟨b284, 0, none⟩) ∧ f 11 = Value.pointer (some ⟨b306, 0, none⟩) ∧ f 12 = Value.int .i64 (x334) ∧ f 74 = Value.int .i64 ((a0.length : Int)) ∧ f 75 = Value.int .i64 (x111) ∧ f 99 = v264 ∧ f 100 = Value.int .i64 ((y260.length : Int)) ∧ f 101 = Value.int .i64 (x266) ∧ f 127 = Value.int .i64 ((a0.length : Int)) ∧ f 128 = Value.int .i64 (x334) ∧ f 134 = v349 ∧ f 135 = Value.int .i64 ((y345.length : Int)) ∧ f 136 = Value.int .i64 (x351)) ?_ ?_
                         ·have hr := ho380
                          refine W_region ?_
                          refine L_fieldAddr fld64_0 Deed.of_Kind (rfl : _ = Value.pointer (some ⟨b369, 0, none⟩)) hv375 (by decide) ?_
                          intro p382 hp383
                          refine L_load_int ty3 (rfl : _ = p382) hp383 (by decide) ?_
                          refine L_eql (rfl : _ = Value.int .i64 (y362.Kind)) (rfl : _ = Value.int .i64 (1)) (by decide) ?_
                          refine L_move (rfl : _ = Value.bool (decide (y362.Kind = 1))) (by decide) ?_
                          rcases Bool.eq_false_or_eq_true (decide (y362.Kind = 1)) with hb384 | hb384
                          ·have hr := ite_t hb384 hr
                           refine L_gf (e := 143) (by rfl) (by decide) (rfl : _ = Value.bool (decide (y362.Kind = 1))) hb384 (by decide) ?_
                           refine L_gf (e := 143) (by rfl) (by decide) (rfl : _ = Value.bool (decide (y362.Kind = 1))) hb384 (by decide) ?_
                           refine L_gf (e := 143) (by rfl) (by decide) (rfl : _ = Value.bool (decide (y362.Kind = 1))) hb384 (by decide) ?_
                           refine L_pick_t (rfl : _ = Value.bool (decide (y362.Kind = 1))) hb384 (rfl : _ = Value.bool (true)) (by decide) ?_
                           refine L_move (rfl : _ = Value.bool (true)) (by decide) ?_
                           refine L_gt (e := 148) (by rfl) (by decide) (rfl : _ = Value.bool (true)) rfl ?_
                           refine L_fieldAddr fld64_1 Deed.of_Peer (rfl : _ = Value.pointer (some ⟨b369, 0, none⟩)) hv375 (by decide) ?_
                           intro p385 hp386
                           refine L_gt (e := 148) (by rfl) (by decide) (rfl : _ = Value.bool (true)) rfl ?_
                           refine L_load_int ty3 (rfl : _ = p385) hp386 (by decide) ?_
                           refine L_gt (e := 148) (by rfl) (by decide) (rfl : _ = Value.bool (true)) rfl ?_
                           refine L_move g360_8 (by decide) ?_
                           refine L_gt (e := 148) (by rfl) (by decide) (rfl : _ = Value.bool (true)) rfl ?_
                           refine L_eql (rfl : _ = Value.int .i64 (y362.Peer)) (rfl : _ = Value.int .i64 (x111)) (by decide) ?_
                           refine L_pick_t (rfl : _ = Value.bool (true)) rfl (rfl : _ = Value.bool (decide (y362.Peer = x111))) (by decide) ?_
                           refine L_move (rfl : _ = Value.bool (decide (y362.Peer = x111))) (by decide) ?_
                           rcases Bool.eq_false_or_eq_true (decide (y362.Peer = x111)) with hb387 | hb387
                           ·have hr := ite_t hb387 hr
                            refine L_gt (e := 154) (by rfl) (by decide) (rfl : _ = Value.bool (decide (y362.Peer = x111))) hb387 ?_
                            refine L_fieldAddr fld64_2 Deed.of_Tag g360_10 (hv290.mono (e305.le.trans (e311.le.trans (l330.trans (l341.trans (l358.trans (e368.le.trans e374.le))))))) (by decide) ?_
                            intro p388 hp389
                            refine L_gt (e := 154) (by rfl) (by decide) (rfl : _ = Value.bool (decide (y362.Peer = x111))) hb387 ?_
                            refine L_load_int ty3 (rfl : _ = p388) hp389 (by decide) ?_
                            refine L_gt (e := 154) (by rfl) (by decide) (rfl : _ = Value.bool (decide (y362.Peer = x111))) hb387 ?_
                            refine L_eql (rfl : _ = Value.int .i64 (y277.Tag)) (rfl : _ = Value.int .i64 (-1)) (by decide) ?_
                            refine L_gt (e := 154) (by rfl) (by decide) (rfl : _ = Value.bool (decide (y362.Peer = x111))) hb387 ?_
                            refine L_move (rfl : _ = Value.bool (decide (y277.Tag = (-1)))) (by decide) ?_
                            rcases Bool.eq_false_or_eq_true (decide (y277.Tag = (-1))) with hb390 | hb390
                            ·have hr := ite_t hb390 hr
                             refine L_gf (e := 158) (by rfl) (by decide) (rfl : _ = Value.bool (decide (y277.Tag = (-1)))) hb390 (by decide) ?_
                             refine L_gf (e := 158) (by rfl) (by decide) (rfl : _ = Value.bool (decide (y277.Tag = (-1)))) hb390 (by decide) ?_
                             refine L_gf (e := 158) (by rfl) (by decide) (rfl : _ = Value.bool (decide (y277.Tag = (-1)))) hb390 (by decide) ?_
                             refine L_gf (e := 158) (by rfl) (by decide) (rfl : _ = Value.bool (decide (y277.Tag = (-1)))) hb390 (by decide) ?_
                             refine L_gf (e := 158) (by rfl) (by decide) (rfl : _ = Value.bool (decide (y277.Tag = (-1)))) hb390 (by decide) ?_
                             refine L_gt (e := 154) (by rfl) (by decide) (rfl : _ = Value.bool (decide (y362.Peer = x111))) hb387 ?_
                             refine L_pick_t (rfl : _ = Value.bool (decide (y277.Tag = (-1)))) hb390 (rfl : _ = Value.bool (true)) (by decide) ?_
                             refine L_pick_t (rfl : _ = Value.bool (decide (y362.Peer = x111))) hb387 (rfl : _ = Value.bool (true)) (by decide) ?_
                             refine L_assign (rfl : _ = Value.bool (true)) (by decide) ?_
                             refine L_nil ?_
                             exact then_n ⟨s376, true, rfl, hE377, (Le.refl _), Option.some.inj hr, rfl, g360_0, g360_3, g360_6, g360_8, g360_10, g360_11, g360_12, g360_74, g360_75, g360_99, g360_100, g360_101, g360_127, g360_128, g360_134, g360_135, g360_136⟩
                            ·have hr := ite_f hb390 hr
                             refine L_gt (e := 158) (by rfl) (by decide) (rfl : _ = Value.bool (decide (y277.Tag = (-1)))) hb390 ?_
                             refine L_fieldAddr fld64_2 Deed.of_Tag g360_10 (hv290.mono (e305.le.trans (e311.le.trans (l330.trans (l341.trans (l358.trans (e368.le.trans e374.le))))))) (by decide) ?_
                             intro p391 hp392
                             refine L_gt (e := 158) (by rfl) (by decide) (rfl : _ = Value.bool (decide (y277.Tag = (-1)))) hb390 ?_
                             refine L_load_int ty3 (rfl : _ = p391) hp392 (by decide) ?_
                             refine L_gt (e := 158) (by rfl) (by decide) (rfl : _ = Value.bool (decide (y277.Tag = (-1)))) hb390 ?_
                             refine L_fieldAddr fld64_2 Deed.of_Tag (rfl : _ = Value.pointer (some ⟨b369, 0, none⟩)) hv375 (by decide) ?_
                             intro p393 hp394
                             refine L_gt (e := 158) (by rfl) (by decide) (rfl : _ = Value.bool (decide (y277.Tag = (-1)))) hb390 ?_
                             refine L_load_int ty3 (rfl : _ = p393) hp394 (by decide) ?_
                             refine L_gt (e := 158) (by rfl) (by decide) (rfl : _ = Value.bool (decide (y277.Tag = (-1)))) hb390 ?_
                             refine L_eql (rfl : _ = Value.int .i64 (y277.Tag)) (rfl : _ = Value.int .i64 (y362.Tag)) (by decide) ?_
                             refine L_gt (e := 154) (by rfl) (by decide) (rfl : _ = Value.bool (decide (y362.Peer = x111))) hb387 ?_
                             refine L_pick_f (rfl : _ = Value.bool (decide (y277.Tag = (-1)))) hb390 (rfl : _ = Value.bool (decide (y277.Tag = y362.Tag))) (by decide) ?_
                             refine L_pick_t (rfl : _ = Value.bool (decide (y362.Peer = x111))) hb387 (rfl : _ = Value.bool (decide (y277.Tag = y362.Tag))) (by decide) ?_
                             refine L_assign (rfl : _ = Value.bool (decide (y277.Tag = y362.Tag))) (by decide) ?_
                             refine L_nil ?_
                             exact then_n ⟨s376, (decide (y277.Tag = y362.Tag)), rfl, hE377, (Le.refl _), Option.some.inj hr, rfl, g360_0, g360_3, g360_6, g360_8, g360_10, g360_11, g360_12, g360_74, g360_75, g360_99, g360_100, g360_101, g360_127, g360_128, g360_134, g360_135, g360_136⟩
                           ·have hr := ite_f hb387 hr
                            refine L_gf (e := 154) (by rfl) (by decide) (rfl : _ = Value.bool (decide (y362.Peer = x111))) hb387 (by decide) ?_
                            refine L_gf (e := 154) (by rfl) (by decide) (rfl : _ = Value.bool (decide (y362.Peer = x111))) hb387 (by decide) ?_
                            refine L_gf (e := 154) (by rfl) (by decide) (rfl : _ = Value.bool (decide (y362.Peer = x111))) hb387 (by decide) ?_
                            refine L_gf (e := 154) (by rfl) (by decide) (rfl : _ = Value.bool (decide (y362.Peer = x111))) hb387 (by decide) ?_
                            refine L_gu (e := 158) (by rfl) (rfl : _ = undef) (by decide) ?_
                            refine L_gu (e := 158) (by rfl) (rfl : _ = undef) (by decide) ?_
                            refine L_gu (e := 158) (by rfl) (rfl : _ = undef) (by decide) ?_
                            refine L_gu (e := 158) (by rfl) (rfl : _ = undef) (by decide) ?_
                            refine L_gu (e := 158) (by rfl) (rfl : _ = undef) (by decide) ?_
                            refine L_gf (e := 154) (by rfl) (by decide) (rfl : _ = Value.bool (decide (y362.Peer = x111))) hb387 (by decide) ?_
                            refine L_pick_f (rfl : _ = Value.bool (decide (y362.Peer = x111))) hb387 (rfl : _ = Value.bool (false)) (by decide) ?_
                            refine L_assign (rfl : _ = Value.bool (false)) (by decide) ?_
                            refine L_nil ?_
                            exact then_n ⟨s376, false, rfl, hE377, (Le.refl _), Option.some.inj hr, rfl, g360_0, g360_3, g360_6, g360_8, g360_10, g360_11, g360_12, g360_74, g360_75, g360_99, g360_100, g360_101, g360_127, g360_128, g360_134, g360_135, g360_136⟩
                          ·have hr := ite_f hb384 hr
                           refine L_gt (e := 143) (by rfl) (by decide) (rfl : _ = Value.bool (decide (y362.Kind = 1))) hb384 ?_
                           refine L_fieldAddr fld64_0 Deed.of_Kind (rfl : _ = Value.pointer (some ⟨b369, 0, none⟩)) hv375 (by decide) ?_
                           intro p395 hp396
                           refine L_gt (e := 143) (by rfl) (by decide) (rfl : _ = Value.bool (decide (y362.Kind = 1))) hb384 ?_
                           refine L_load_int ty3 (rfl : _ = p395) hp396 (by decide) ?_
                           refine L_gt (e := 143) (by rfl) (by decide) (rfl : _ = Value.bool (decide (y362.Kind = 1))) hb384 ?_
                           refine L_eql (rfl : _ = Value.int .i64 (y362.Kind)) (rfl : _ = Value.int .i64 (3)) (by decide) ?_
                           refine L_pick_f (rfl : _ = Value.bool (decide (y362.Kind = 1))) hb384 (rfl : _ = Value.bool (decide (y362.Kind = 3))) (by decide) ?_
                           refine L_move (rfl : _ = Value.bool (decide (y362.Kind = 3))) (by decide) ?_
                           rcases Bool.eq_false_or_eq_true (decide (y362.Kind = 3)) with hb397 | hb397
                           ·have hr := ite_t hb397 hr
                            refine L_gt (e := 148) (by rfl) (by decide) (rfl : _ = Value.bool (decide (y362.Kind = 3))) hb397 ?_
                            refine L_fieldAddr fld64_1 Deed.of_Peer (rfl : _ = Value.pointer (some ⟨b369, 0, none⟩)) hv375 (by decide) ?_
                            intro p398 hp399
                            refine L_gt (e := 148) (by rfl) (by decide) (rfl : _ = Value.bool (decide (y362.Kind = 3))) hb397 ?_
                            refine L_load_int ty3 (rfl : _ = p398) hp399 (by decide) ?_
                            refine L_gt (e := 148) (by rfl) (by decide) (rfl : _ = Value.bool (decide (y362.Kind = 3))) hb397 ?_
                            refine L_move g360_8 (by decide) ?_
                            refine L_gt (e := 148) (by rfl) (by decide) (rfl : _ = Value.bool (decide (y362.Kind = 3))) hb397 ?_
                            refine L_eql (rfl : _ = Value.int .i64 (y362.Peer)) (rfl : _ = Value.int .i64 (x111)) (by decide) ?_
                            refine L_pick_t (rfl : _ = Value.bool (decide (y362.Kind = 3))) hb397 (rfl : _ = Value.bool (decide (y362.Peer = x111))) (by decide) ?_
                            refine L_move (rfl : _ = Value.bool (decide (y362.Peer = x111))) (by decide) ?_
                            rcases Bool.eq_false_or_eq_true (decide (y362.Peer = x111)) with hb400 | hb400
                            ·have hr := ite_t hb400 hr
                             refine L_gt (e := 154) (by rfl) (by decide) (rfl : _ = Value.bool (decide (y362.Peer = x111))) hb400 ?_
                             refine L_fieldAddr fld64_2 Deed.of_Tag g360_10 (hv290.mono (e305.le.trans (e311.le.trans (l330.trans (l341.trans (l358.trans (e368.le.trans e374.le))))))) (by decide) ?_
                             intro p401 hp402
                             refine L_gt (e := 154) (by rfl) (by decide) (rfl : _ = Value.bool (decide (y362.Peer = x111))) hb400 ?_
                             refine L_load_int ty3 (rfl : _ = p401) hp402 (by decide) ?_
                             refine L_gt (e := 154) (by rfl) (by decide) (rfl : _ = Value.bool (decide (y362.Peer = x111))) hb400 ?_
                             refine L_eql (rfl : _ = Value.int .i64 (y277.Tag)) (rfl : _ = Value.int .i64 (-1)) (by decide) ?_
                             refine L_gt (e := 154) (by rfl) (by decide) (rfl : _ = Value.bool (decide (y362.Peer = x111))) hb400 ?_
                             refine L_move (rfl : _ = Value.bool (decide (y277.Tag = (-1)))) (by decide) ?_
                             rcases Bool.eq_false_or_eq_true (decide (y277.Tag = (-1))) with hb403 | hb403
                             ·have hr := ite_t hb403 hr
                              refine L_gf (e := 158) (by rfl) (by decide) (rfl : _ = Value.bool (decide (y277.Tag = (-1)))) hb403 (by decide) ?_
                              refine L_gf (e := 158) (by rfl) (by decide) (rfl : _ = Value.bool (decide (y277.Tag = (-1)))) hb403 (by decide) ?_
                              refine L_gf (e := 158) (by rfl) (by decide) (rfl : _ = Value.bool (decide (y277.Tag = (-1)))) hb403 (by decide) ?_
                              refine L_gf (e := 158) (by rfl) (by decide) (rfl : _ = Value.bool (decide (y277.Tag = (-1)))) hb403 (by decide) ?_
                              refine L_gf (e := 158) (by rfl) (by decide) (rfl : _ = Value.bool (decide (y277.Tag = (-1)))) hb403 (by decide) ?_
                              refine L_gt (e := 154) (by rfl) (by decide) (rfl : _ = Value.bool (decide (y362.Peer = x111))) hb400 ?_
                              refine L_pick_t (rfl : _ = Value.bool (decide (y277.Tag = (-1)))) hb403 (rfl : _ = Value.bool (true)) (by decide) ?_
                              refine L_pick_t (rfl : _ = Value.bool (decide (y362.Peer = x111))) hb400 (rfl : _ = Value.bool (true)) (by decide) ?_
                              refine L_assign (rfl : _ = Value.bool (true)) (by decide) ?_
                              refine L_nil ?_
                              exact then_n ⟨s376, true, rfl, hE377, (Le.refl _), Option.some.inj hr, rfl, g360_0, g360_3, g360_6, g360_8, g360_10, g360_11, g360_12, g360_74, g360_75, g360_99, g360_100, g360_101, g360_127, g360_128, g360_134, g360_135, g360_136⟩
                             ·have hr := ite_f hb403 hr
                              refine L_gt (e := 158) (by rfl) (by decide) (rfl : _ = Value.bool (decide (y277.Tag = (-1)))) hb403 ?_
                              refine L_fieldAddr fld64_2 Deed.of_Tag g360_10 (hv290.mono (e305.le.trans (e311.le.trans (l330.trans (l341.trans (l358.trans (e368.le.trans e374.le))))))) (by decide) ?_
                              intro p404 hp405
                              refine L_gt (e := 158) (by rfl) (by decide) (rfl : _ = Value.bool (decide (y277.Tag = (-1)))) hb403 ?_
                              refine L_load_int ty3 (rfl : _ = p404) hp405 (by decide) ?_
                              refine L_gt (e := 158) (by rfl) (by decide) (rfl : _ = Value.bool (decide (y277.Tag = (-1)))) hb403 ?_
                              refine L_fieldAddr fld64_2 Deed.of_Tag (rfl : _ = Value.pointer (some ⟨b369, 0, none⟩)) hv375 (by decide) ?_
                              intro p406 hp407
                              refine L_gt (e := 158) (by rfl) (by decide) (rfl : _ = Value.bool (decide (y277.Tag = (-1)))) hb403 ?_
                              refine L_load_int ty3 (rfl : _ = p406) hp407 (by decide) ?_
                              refine L_gt (e := 158) (by rfl) (by decide) (rfl : _ = Value.bool (decide (y277.Tag = (-1)))) hb403 ?_
                              refine L_eql (rfl : _ = Value.int .i64 (y277.Tag)) (rfl : _ = Value.int .i64 (y362.Tag)) (by decide) ?_
                              refine L_gt (e := 154) (by rfl) (by decide) (rfl : _ = Value.bool (decide (y362.Peer = x111))) hb400 ?_
                              refine L_pick_f (rfl : _ = Value.bool (decide (y277.Tag = (-1)))) hb403 (rfl : _ = Value.bool (decide (y277.Tag = y362.Tag))) (by decide) ?_
                              refine L_pick_t (rfl : _ = Value.bool (decide (y362.Peer = x111))) hb400 (rfl : _ = Value.bool (decide (y277.Tag = y362.Tag))) (by decide) ?_
                              refine L_assign (rfl : _ = Value.bool (decide (y277.Tag = y362.Tag))) (by decide) ?_
                              refine L_nil ?_
                              exact then_n ⟨s376, (decide (y277.Tag = y362.Tag)), rfl, hE377, (Le.refl _), Option.some.inj hr, rfl, g360_0, g360_3, g360_6, g360_8, g360_10, g360_11, g360_12, g360_74, g360_75, g360_99, g360_100, g360_101, g360_127, g360_128, g360_134, g360_135, g360_136⟩
                            ·have hr := ite_f hb400 hr
                             refine L_gf (e := 154) (by rfl) (by decide) (rfl : _ = Value.bool (decide (y362.Peer = x111))) hb400 (by decide) ?_
                             refine L_gf (e := 154) (by rfl) (by decide) (rfl : _ = Value.bool (decide (y362.Peer = x111))) hb400 (by decide) ?_
                             refine L_gf (e := 154) (by rfl) (by decide) (rfl : _ = Value.bool (decide (y362.Peer = x111))) hb400 (by decide) ?_
                             refine L_gf (e := 154) (by rfl) (by decide) (rfl : _ = Value.bool (decide (y362.Peer = x111))) hb400 (by decide) ?_
                             refine L_gu (e := 158) (by rfl) (rfl : _ = undef) (by decide) ?_
                             refine L_gu (e := 158) (by rfl) (rfl : _ = undef) (by decide) ?_
                             refine L_gu (e := 158) (by rfl) (rfl : _ = undef) (by decide) ?_
                             refine L_gu (e := 158) (by rfl) (rfl : _ = undef) (by decide) ?_
                             refine L_gu (e := 158) (by rfl) (rfl : _ = undef) (by decide) ?_
                             refine L_gf (e := 154) (by rfl) (by decide) (rfl : _ = Value.bool (decide (y362.Peer = x111))) hb400 (by decide) ?_
                             refine L_pick_f (rfl : _ = Value.bool (decide (y362.Peer = x111))) hb400 (rfl : _ = Value.bool (false)) (by decide) ?_
                             refine L_assign (rfl : _ = Value.bool (false)) (by decide) ?_
                             refine L_nil ?_
                             exact then_n ⟨s376, false, rfl, hE377, (Le.refl _), Option.some.inj hr, rfl, g360_0, g360_3, g360_6, g360_8, g360_10, g360_11, g360_12, g360_74, g360_75, g360_99, g360_100, g360_101, g360_127, g360_128, g360_134, g360_135, g360_136⟩
                           ·have hr := ite_f hb397 hr
                            refine L_gf (e := 148) (by rfl) (by decide) (rfl : _ = Value.bool (decide (y362.Kind = 3))) hb397 (by decide) ?_
                            refine L_gf (e := 148) (by rfl) (by decide) (rfl : _ = Value.bool (decide (y362.Kind = 3))) hb397 (by decide) ?_
                            refine L_gf (e := 148) (by rfl) (by decide) (rfl : _ = Value.bool (decide (y362.Kind = 3))) hb397 (by decide) ?_
                            refine L_gf (e := 148) (by rfl) (by decide) (rfl : _ = Value.bool (decide (y362.Kind = 3))) hb397 (by decide) ?_
                            refine L_pick_f (rfl : _ = Value.bool (decide (y362.Kind = 3))) hb397 (rfl : _ = Value.bool (false)) (by decide) ?_
                            refine L_move (rfl : _ = Value.bool (false)) (by decide) ?_
                            refine L_gf (e := 154) (by rfl) (by decide) (rfl : _ = Value.bool (false)) rfl (by decide) ?_
                            refine L_gf (e := 154) (by rfl) (by decide) (rfl : _ = Value.bool (false)) rfl (by decide) ?_
                            refine L_gf (e := 154) (by rfl) (by decide) (rfl : _ = Value.bool (false)) rfl (by decide) ?_
                            refine L_gf (e := 154) (by rfl) (by decide) (rfl : _ = Value.bool (false)) rfl (by decide) ?_
                            refine L_gu (e := 158) (by rfl) (rfl : _ = undef) (by decide) ?_
                            refine L_gu (e := 158) (by rfl) (rfl : _ = undef) (by decide) ?_
                            refine L_gu (e := 158) (by rfl) (rfl : _ = undef) (by decide) ?_
                            refine L_gu (e := 158) (by rfl) (rfl : _ = undef) (by decide) ?_
                            refine L_gu (e := 158) (by rfl) (rfl : _ = undef) (by decide) ?_
                            refine L_gf (e := 154) (by rfl) (by decide) (rfl : _ = Value.bool (false)) rfl (by decide) ?_
                            refine L_pick_f (rfl : _ = Value.bool (false)) rfl (rfl : _ = Value.bool (false)) (by decide) ?_
                            refine L_assign (rfl : _ = Value.bool (false)) (by decide) ?_
                            refine L_nil ?_
                            exact then_n ⟨s376, false, rfl, hE377, (Le.refl _), Option.some.inj hr, rfl, g360_0, g360_3, g360_6, g360_8, g360_10, g360_11, g360_12, g360_74, g360_75, g360_99, g360_100, g360_101, g360_127, g360_128, g360_134, g360_135, g360_136⟩
                         ·rintro f430 w431 ⟨s408, x378, rfl, hE410, l409, ho380, g411_15, g411_0, g411_3, g411_6, g411_8, g411_10, g411_11, g411_12, g411_74, g411_75, g411_99, g411_100, g411_101, g411_127, g411_128, g411_134, g411_135, g411_136⟩
                          subst ho380
                          have hr := hq381
                          try dsimp only at hr
                          obtain ⟨o413, ho414, hq415⟩ := bind_some hr
                          refine W_seq_cut (fun f w => ∃ (s : St) (x412 : Bool), s.w = w ∧ Ext s0 s ∧ Le s408 s ∧ x412 = o413 ∧ f 177 = Value.bool x412 ∧ f 0 = w0 ∧ f 3 = v32 ∧ f 6 = Value.pointer (some ⟨b50, 0, none⟩) ∧ f 8 = Value.int .i64 (x111) ∧ f 10 = Value.pointer (some ⟨b284, 0, none⟩) ∧ f 11 = Value.pointer (some ⟨b306, 0, none⟩) ∧ f 12 = Value.int .i64 (x334) ∧ f 74 = Value.int .i64 ((a0.length : Int)) ∧ f 75 = Value.int .i64 (x111) ∧ f 99 = v264 ∧ f 100 = Value.int .i64 ((y260.length : Int)) ∧ f 101 = Value.int .i64 (x266) ∧ f 127 = Value.int .i64 ((a0.length : Int)) ∧ f 128 = Value.int .i64 (x334) ∧ f 134 = v349 ∧ f 135 = Value.int .i64 ((y345.length : Int)) ∧ f 136 = Value.int .i64 (x351)) ?_ ?_
                          ·have hr := ho414
                           refine W_region ?_
                           refine L_fieldAddr fld64_1 Deed.of_Peer g411_10 (hv290.mono (e305.le.trans (e311.le.trans (l330.trans (l341.trans (l358.trans (e368.le.trans (e374.le.trans l409)))))))) (by decide) ?_
                           intro p416 hp417
                           refine L_load_int ty3 (rfl : _ = p416) hp417 (by decide) ?_
                           refine L_eql (rfl : _ = Value.int .i64 (y277.Peer)) (rfl : _ = Value.int .i64 (-1)) (by decide) ?_
                           refine L_move (rfl : _ = Value.bool (decide (y277.Peer = (-1)))) (by decide) ?_
                           rcases Bool.eq_false_or_eq_true (decide (y277.Peer = (-1))) with hb418 | hb418
                           ·have hr := ite_t hb418 hr
                            refine L_gt (e := 169) (by rfl) (by decide) (rfl : _ = Value.bool (decide (y277.Peer = (-1)))) hb418 ?_
                            refine L_move g411_15 (by decide) ?_
                            refine L_pick_t (rfl : _ = Value.bool (decide (y277.Peer = (-1)))) hb418 (rfl : _ = Value.bool (x378)) (by decide) ?_
                            refine L_move (rfl : _ = Value.bool (x378)) (by decide) ?_
                            rcases Bool.eq_false_or_eq_true (x378) with hb419 | hb419
                            ·have hr := ite_t hb419 hr
                             refine L_gt (e := 172) (by rfl) (by decide) (rfl : _ = Value.bool (x378)) hb419 ?_
                             refine L_fieldAddr fld64_1 Deed.of_Peer g411_11 (hv312.mono (l330.trans (l341.trans (l358.trans (e368.le.trans (e374.le.trans l409)))))) (by decide) ?_
                             intro p420 hp421
                             refine L_gt (e := 172) (by rfl) (by decide) (rfl : _ = Value.bool (x378)) hb419 ?_
                             refine L_load_int ty3 (rfl : _ = p420) hp421 (by decide) ?_
                             refine L_gt (e := 172) (by rfl) (by decide) (rfl : _ = Value.bool (x378)) hb419 ?_
                             refine L_move g411_12 (by decide) ?_
                             refine L_gt (e := 172) (by rfl) (by decide) (rfl : _ = Value.bool (x378)) hb419 ?_
                             refine L_neq (rfl : _ = Value.int .i64 (y299.Peer)) (rfl : _ = Value.int .i64 (x334)) (by decide) ?_
                             refine L_pick_t (rfl : _ = Value.bool (x378)) hb419 (rfl : _ = Value.bool (!decide (y299.Peer = x334))) (by decide) ?_
                             refine L_nil ?_
                             exact then_n ⟨s408, (!decide (y299.Peer = x334)), rfl, hE410, (Le.refl _), Option.some.inj hr, rfl, g411_0, g411_3, g411_6, g411_8, g411_10, g411_11, g411_12, g411_74, g411_75, g411_99, g411_100, g411_101, g411_127, g411_128, g411_134, g411_135, g411_136⟩
                            ·have hr := ite_f hb419 hr
                             refine L_gf (e := 172) (by rfl) (by decide) (rfl : _ = Value.bool (x378)) hb419 (by decide) ?_
                             refine L_gf (e := 172) (by rfl) (by decide) (rfl : _ = Value.bool (x378)) hb419 (by decide) ?_
                             refine L_gf (e := 172) (by rfl) (by decide) (rfl : _ = Value.bool (x378)) hb419 (by decide) ?_
                             refine L_gf (e := 172) (by rfl) (by decide) (rfl : _ = Value.bool (x378)) hb419 (by decide) ?_
                             refine L_pick_f (rfl : _ = Value.bool (x378)) hb419 (rfl : _ = Value.bool (false)) (by decide) ?_
                             refine L_nil ?_
                             exact then_n ⟨s408, false, rfl, hE410, (Le.refl _), Option.some.inj hr, rfl, g411_0, g411_3, g411_6, g411_8, g411_10, g411_11, g411_12, g411_74, g411_75, g411_99, g411_100, g411_101, g411_127, g411_128, g411_134, g411_135, g411_136⟩
                           ·have hr := ite_f hb418 hr
                            refine L_gf (e := 169) (by rfl) (by decide) (rfl : _ = Value.bool (decide (y277.Peer = (-1)))) hb418 (by decide) ?_
                            refine L_pick_f (rfl : _ = Value.bool (decide (y277.Peer = (-1)))) hb418 (rfl : _ = Value.bool (false)) (by decide) ?_
                            refine L_move (rfl : _ = Value.bool (false)) (by decide) ?_
                            refine L_gf (e := 172) (by rfl) (by decide) (rfl : _ = Value.bool (false)) rfl (by decide) ?_
                            refine L_gf (e := 172) (by rfl) (by decide) (rfl : _ = Value.bool (false)) rfl (by decide) ?_
                            refine L_gf (e := 172) (by rfl) (by decide) (rfl : _ = Value.bool (false)) rfl (by decide) ?_
                            refine L_gf (e := 172) (by rfl) (by decide) (rfl : _ = Value.bool (false)) rfl (by decide) ?_
                            refine L_pick_f (rfl : _ = Value.bool (false)) rfl (rfl : _ = Value.bool (false)) (by decide) ?_
                            refine L_nil ?_
                            exact then_n ⟨s408, false, rfl, hE410, (Le.refl _), Option.some.inj hr, rfl, g411_0, g411_3, g411_6, g411_8, g411_10, g411_11, g411_12, g411_74, g411_75, g411_99, g411_100, g411_101, g411_127, g411_128, g411_134, g411_135, g411_136⟩
                          ·rintro f428 w429 ⟨s422, x412, rfl, hE424, l423, ho414, g425_177, g425_0, g425_3, g425_6, g425_8, g425_10, g425_11, g425_12, g425_74, g425_75, g425_99, g425_100, g425_101, g425_127, g425_128, g425_134, g425_135, g425_136⟩
                           subst ho414
                           have hr := hq415
                           try dsimp only at hr
                           refine W_cond _ g425_177 (fun hb426 => ?_) (fun hb426 => ?_)
                           ·have hr := ite_t hb426 hr
                            refine W_seq ?_
                            refine W_region ?_
                            refine L_assign (rfl : _ = Value.bool (false)) (by decide) ?_
                            refine L_nil ?_
                            refine then_n ?_
                            refine W_ret ?_
                            refine block_r ?_
                            refine then_r ?_
                            refine then_r ?_
                            refine block_r ?_
                            obtain rfl := Option.some.inj hr
                            have hr := hq355
                            try dsimp only at hr
                            refine then_r ?_
                            refine block_r ?_
                            refine then_r ?_
                            refine then_r ?_
                            refine block_r ?_
                            obtain rfl := Option.some.inj hr
                            have hr := hq338
                            try dsimp only at hr
                            refine then_r ?_
                            refine block_r ?_
                            refine then_r ?_
                            refine then_r ?_
                            refine block_r ?_
                            obtain rfl := Option.some.inj hr
                            have hr := hq270
                            try dsimp only at hr
                            refine then_r ?_
                            refine block_r ?_
                            refine then_r ?_
                            refine then_r ?_
                            refine block_r ?_
                            obtain rfl := Option.some.inj hr
                            have hr := hq115
                            try dsimp only at hr
                            refine then_r ?_
                            refine then_r ?_
                            obtain rfl := Option.some.inj hr
                            exact done1 (Or.inl rfl) Try.results8 rfl ⟨_, _, rfl, rfl, hE424, Vbool⟩
                           ·have hr := ite_f hb426 hr
                            refine W_skip ?_
                            refine block_n ?_
                            refine then_n ?_
                            refine W_region ?_
                            obtain ⟨hc427, hr⟩ := chk_some hr
                            refine L_add g425_136 (rfl : _ = Value.int .i64 (1)) hc427 (by decide) ?_
                            refine L_move (rfl : _ = Value.int .i64 (x351 + 1)) (by decide) ?_
                            refine L_nil ?_
                            exact then_n ⟨m354, Nat.lt_succ_self _, ⟨s422, (x351 + 1), rfl, hE424, (l358.trans (e368.le.trans (e374.le.trans (l409.trans l423)))), hr, rfl, g425_0, g425_3, g425_6, g425_8, g425_10, g425_11, g425_12, g425_74, g425_75, g425_99, g425_100, g425_101, g425_127, g425_128, g425_134, g425_135⟩⟩
                        ·have hr := ite_f hb361 hr
                         refine W_exit ?_
                         refine then_x ?_
                         refine then_x ?_
                         refine block_here ?_
                         exact then_n ⟨s357, rfl, hE359, l358, Option.some.inj hr, g360_0, g360_3, g360_6, g360_8, g360_10, g360_11, g360_74, g360_75, g360_99, g360_100, g360_101, g360_127, g360_128⟩
                      ·rintro f432 w433 ⟨s436, rfl, hE438, l437, ho353, g439_0, g439_3, g439_6, g439_8, g439_10, g439_11, g439_74, g439_75, g439_99, g439_100, g439_101, g439_127, g439_128⟩
                       subst ho353
                       have hr := hq355
                       try dsimp only at hr
                       refine block_n ?_
                       refine then_n ?_
                       refine W_region ?_
                       obtain ⟨hc440, hr⟩ := chk_some hr
                       refine L_add g439_128 (rfl : _ = Value.int .i64 (1)) hc440 (by decide) ?_
                       refine L_move (rfl : _ = Value.int .i64 (x334 + 1)) (by decide) ?_
                       refine L_nil ?_
                       exact then_n ⟨m337, Nat.lt_succ_self _, ⟨s436, (x334 + 1), rfl, hE438, (l341.trans l437), hr, rfl, g439_0, g439_3, g439_6, g439_8, g439_10, g439_11, g439_74, g439_75, g439_99, g439_100, g439_101, g439_127⟩⟩
                     ·have hr := ite_f hb344 hr
                      refine W_exit ?_
                      refine then_x ?_
                      refine then_x ?_
                      refine block_here ?_
                      exact then_n ⟨s340, rfl, hE342, l341, Option.some.inj hr, g343_0, g343_3, g343_6, g343_8, g343_74, g343_75, g343_99, g343_100, g343_101⟩
                   ·rintro f441 w442 ⟨s445, rfl, hE447, l446, ho336, g448_0, g448_3, g448_6, g448_8, g448_74, g448_75, g448_99, g448_100, g448_101⟩
                    subst ho336
                    have hr := hq338
                    try dsimp only at hr
                    refine block_n ?_
                    refine then_n ?_
                    refine W_region ?_
                    obtain ⟨hc449, hr⟩ := chk_some hr
                    refine L_add g448_101 (rfl : _ = Value.int .i64 (1)) hc449 (by decide) ?_
                    refine L_move (rfl : _ = Value.int .i64 (x266 + 1)) (by decide) ?_
                    refine L_nil ?_
                    exact then_n ⟨m269, Nat.lt_succ_self _, ⟨s445, (x266 + 1), rfl, hE447, (l273.trans (e283.le.trans (e289.le.trans (e305.le.trans (e311.le.trans (l330.trans l446)))))), hr, rfl, g448_0, g448_3, g448_6, g448_8, g448_74, g448_75, g448_99, g448_100⟩⟩
                ·have hr := ite_f hb276 hr
                 refine W_exit ?_
                 refine then_x ?_
                 refine then_x ?_
                 refine block_here ?_
                 exact then_n ⟨s272, rfl, hE274, l273, Option.some.inj hr, g275_0, g275_3, g275_6, g275_74, g275_75⟩
              ·rintro f452 w453 ⟨s456, rfl, hE458, l457, ho268, g459_0, g459_3, g459_6, g459_74, g459_75⟩
               subst ho268
               have hr := hq270
               try dsimp only at hr
               refine block_n ?_
               refine then_n ?_
               refine W_region ?_
               obtain ⟨hc460, hr⟩ := chk_some hr
               refine L_add g459_75 (rfl : _ = Value.int .i64 (1)) hc460 (by decide) ?_
               refine L_move (rfl : _ = Value.int .i64 (x111 + 1)) (by decide) ?_
               refine L_nil ?_
               exact then_n ⟨m114, Nat.lt_succ_self _, ⟨s456, (x111 + 1), rfl, hE458, (l118.trans (e247.le.trans l457)), hr, rfl, g459_0, g459_3, g459_6, g459_74⟩⟩
          ·have hr := ite_f hb121 hr
           refine W_exit ?_
           refine then_x ?_
           refine then_x ?_
           refine block_here ?_
           exact then_n ⟨s117, rfl, hE119, l118, Option.some.inj hr, g120_3, g120_6⟩
        ·rintro f461 w462 ⟨s465, rfl, hE467, l466, ho113, g468_3, g468_6⟩
         subst ho113
         have hr := hq115
         try dsimp only at hr
         refine then_n ?_
         refine W_seq ?_
         refine W_region ?_
         refine L_move g468_3 (by decide) ?_
         obtain ⟨y469, hy470, hr⟩ := bind_some hr
         refine L_calls cal18 (args1 (rfl : _ = v32)) (dead_Decide_ok N _ _ _ (hv35.mono (e41.le.trans (e49.le.trans (e55.le.trans (l68.trans (l107.trans l466)))))) y469 hy470) (by decide) ?_
         intro v471 s474 e472 hv473
         have hE475 := Tch.ext hE467 e472
         obtain ⟨v476, v477, rfl, hv478, hv479⟩ := hv473
         obtain rfl := hv479.int
         refine L_move (rfl : _ = Value.tuple #[v476, Value.int .i64 (y469.2)]) (by decide) ?_
         refine L_extract (rfl : _ = Value.tuple #[v476, Value.int .i64 (y469.2)]) (k := 0) rfl (by decide) ?_
         refine L_extract (rfl : _ = Value.tuple #[v476, Value.int .i64 (y469.2)]) (k := 1) rfl (by decide) ?_
         refine L_alloc (α := Verdict) (x := ⟨0, 0⟩) zero40 Verdict.zero_rel (by decide) ?_
         intro s484 b481 e480 hb482 hv483
         have hE485 := Tch.ext hE475 e480
         refine L_store_ro ty40 (rfl : _ = Value.pointer (some ⟨b481, 0, none⟩)) (rfl : _ = v476) (hv478.mono e480.le) (hv483) ?_
         intro s488 e486 hv487
         have hE489 := Tch.trans hE485 e486 (fun k hk => Or.inr (by subst hk; exact (Nat.le_trans hE475.size hb482)))
         refine L_assign (rfl : _ = Value.int .i64 (y469.2)) (by decide) ?_
         refine L_nil ?_
         refine then_n ?_
         refine W_seq ?_
         refine W_region ?_
         refine L_move (rfl : _ = Value.int .i64 (y469.2)) (by decide) ?_
         refine L_eql (rfl : _ = Value.int .i64 (y469.2)) (rfl : _ = Value.int .i64 (0)) (by decide) ?_
         refine L_move (rfl : _ = Value.bool (decide (y469.2 = 0))) (by decide) ?_
         rcases Bool.eq_false_or_eq_true (decide (y469.2 = 0)) with hb490 | hb490
         ·have hr := ite_t hb490 hr
          refine L_gt (e := 189) (by rfl) (by decide) (rfl : _ = Value.bool (decide (y469.2 = 0))) hb490 ?_
          refine L_load ty40 (rfl : _ = Value.pointer (some ⟨b481, 0, none⟩)) hv487 (by decide) ?_
          intro v491 hv492
          refine L_gt (e := 189) (by rfl) (by decide) (rfl : _ = Value.bool (decide (y469.2 = 0))) hb490 ?_
          refine L_load ty40 g468_6 (hv56.mono (l68.trans (l107.trans (l466.trans (e472.le.trans (e480.le.trans e486.le)))))) (by decide) ?_
          intro v493 hv494
          refine L_gt (e := 189) (by rfl) (by decide) (rfl : _ = Value.bool (decide (y469.2 = 0))) hb490 ?_
          refine L_seq40 (rfl : _ = v491) hv492 (rfl : _ = v493) hv494 (by decide) ?_
          refine L_pick_t (rfl : _ = Value.bool (decide (y469.2 = 0))) hb490 (rfl : _ = Value.bool (decide (y469.1 = y38.1))) (by decide) ?_
          refine L_move (rfl : _ = Value.bool (decide (y469.1 = y38.1))) (by decide) ?_
          rcases Bool.eq_false_or_eq_true (decide (y469.1 = y38.1)) with hb495 | hb495
          ·have hr := ite_t hb495 hr
           refine L_gt (e := 194) (by rfl) (by decide) (rfl : _ = Value.bool (decide (y469.1 = y38.1))) hb495 ?_
           obtain ⟨y496, hy497, hr⟩ := bind_some hr
           refine L_calls cal10 (args0) (law08_works_ok N _  y496 hy497) (by decide) ?_
           intro v498 s501 e499 hv500
           have hE502 := Tch.ext hE489 e499
           obtain rfl := hv500.bool
           refine L_pick_t (rfl : _ = Value.bool (decide (y469.1 = y38.1))) hb495 (rfl : _ = Value.bool (y496)) (by decide) ?_
           refine L_assign (rfl : _ = Value.bool (y496)) (by decide) ?_
           refine L_nil ?_
           refine then_n ?_
           refine W_ret ?_
           obtain rfl := Option.some.inj hr
           exact done1 (Or.inl rfl) Try.results8 rfl ⟨_, _, rfl, rfl, hE502, Vbool⟩
          ·have hr := ite_f hb495 hr
           refine L_gf (e := 194) (by rfl) (by decide) (rfl : _ = Value.bool (decide (y469.1 = y38.1))) hb495 (by decide) ?_
           refine L_pick_f (rfl : _ = Value.bool (decide (y469.1 = y38.1))) hb495 (rfl : _ = Value.bool (false)) (by decide) ?_
           refine L_assign (rfl : _ = Value.bool (false)) (by decide) ?_
           refine L_nil ?_
           refine then_n ?_
           refine W_ret ?_
           obtain rfl := Option.some.inj hr
           exact done1 (Or.inl rfl) Try.results8 rfl ⟨_, _, rfl, rfl, hE489, Vbool⟩
         ·have hr := ite_f hb490 hr
          refine L_gf (e := 189) (by rfl) (by decide) (rfl : _ = Value.bool (decide (y469.2 = 0))) hb490 (by decide) ?_
          refine L_gf (e := 189) (by rfl) (by decide) (rfl : _ = Value.bool (decide (y469.2 = 0))) hb490 (by decide) ?_
          refine L_gf (e := 189) (by rfl) (by decide) (rfl : _ = Value.bool (decide (y469.2 = 0))) hb490 (by decide) ?_
          refine L_pick_f (rfl : _ = Value.bool (decide (y469.2 = 0))) hb490 (rfl : _ = Value.bool (false)) (by decide) ?_
          refine L_move (rfl : _ = Value.bool (false)) (by decide) ?_
          refine L_gf (e := 194) (by rfl) (by decide) (rfl : _ = Value.bool (false)) rfl (by decide) ?_
          refine L_pick_f (rfl : _ = Value.bool (false)) rfl (rfl : _ = Value.bool (false)) (by decide) ?_
          refine L_assign (rfl : _ = Value.bool (false)) (by decide) ?_
          refine L_nil ?_
          refine then_n ?_
          refine W_ret ?_
          obtain rfl := Option.some.inj hr
          exact done1 (Or.inl rfl) Try.results8 rfl ⟨_, _, rfl, rfl, hE489, Vbool⟩

end Go.Arm
