/- Each function of the program computes what its plain function says. -/
import Derived.Test.YtmojccilbgjngaaPrfT5c
namespace Go.Arm
open Go Go.RowKit Go.Proofs
theorem law08_equal_ok (N : Nat) (s0 : St) (w0 : Value) (a0 : List Int) (h0 : V s0 w0 a0) (w1 : Value) (a1 : List Int) (h1 : V s0 w1 a1) (r : Bool) (hr : law08_equal N a0 a1 = some r) :
  Calls Try.prog 23 #[w0, w1] s0.w (Ret s0 fun v s => V s v r) := by
 unfold law08_equal at hr
 have hE0 := Ext.refl s0
 refine Calls_of (n := 26) (args := [w0, w1]) Try.func23 rfl rfl (by simp) ?_
 refine W_seq ?_
 refine W_region ?_
 refine L_assign (rfl : _ = Value.bool (false)) (by decide) ?_
 refine L_nil ?_
 refine then_n ?_
 refine W_seq ?_
 refine W_seq ?_
 refine W_region ?_
 refine L_move (rfl : _ = w0) (by decide) ?_
 refine L_len Try.underlying23 (rfl : _ = w0) h0 (by decide) ?_
 refine L_move (rfl : _ = w1) (by decide) ?_
 refine L_len Try.underlying23 (rfl : _ = w1) h1 (by decide) ?_
 refine L_neq (rfl : _ = Value.int .i64 ((a0.length : Int))) (rfl : _ = Value.int .i64 ((a1.length : Int))) (by decide) ?_
 refine L_nil ?_
 refine then_n ?_
 refine W_cond _ (rfl : _ = Value.bool (!decide ((a0.length : Int) = (a1.length : Int)))) (fun hb1 => ?_) (fun hb1 => ?_)
 ·have hr := ite_t hb1 hr
  refine W_seq ?_
  refine W_region ?_
  refine L_assign (rfl : _ = Value.bool (false)) (by decide) ?_
  refine L_nil ?_
  refine then_n ?_
  refine W_ret ?_
  refine then_r ?_
  obtain rfl := Option.some.inj hr
  exact done1 (Or.inl rfl) Try.results23 rfl ⟨_, _, rfl, rfl, hE0, Vbool⟩
 ·have hr := ite_f hb1 hr
  refine W_skip ?_
  refine then_n ?_
  refine W_seq ?_
  refine W_seq ?_
  refine W_region ?_
  refine L_move (rfl : _ = w0) (by decide) ?_
  refine L_len Try.underlying23 (rfl : _ = w0) h0 (by decide) ?_
  refine L_move (rfl : _ = Value.int .i64 (0)) (by decide) ?_
  refine L_nil ?_
  refine then_n ?_
  obtain ⟨o3, ho4, hq6⟩ := bind_some hr
  refine W_cut (fun f w => ∃ (s : St), s.w = w ∧ Ext s0 s ∧ Le s0 s ∧ Sum.inl () = o3) ?_ ?_
  ·refine W_block ?_
   refine W_loop (fun m f w => ∃ (s : St) (x2 : Int), s.w = w ∧ Ext s0 s ∧ Le s0 s ∧ law08_equal_l1 N a0 a1 m x2 = some o3 ∧ f 13 = Value.int .i64 x2 ∧ f 0 = w0 ∧ f 1 = w1 ∧ f 12 = Value.int .i64 ((a0.length : Int))) N ⟨s0, 0, rfl, hE0, (Le.refl _), ho4, rfl, rfl, rfl, rfl⟩ ?_
   rintro m5 f114 w115 ⟨s8, x2, rfl, hE10, l9, hr, g11_13, g11_0, g11_1, g11_12⟩
   cases m5 with
   | zero => exact absurd hr (by simp [law08_equal_l1])
   | succ m5 =>
    rw [law08_equal_l1.eq_2] at hr
    refine W_seq ?_
    refine W_region ?_
    refine L_lss g11_13 g11_12 (by decide) ?_
    refine L_nil ?_
    refine then_n ?_
    refine W_seq ?_
    refine W_cond _ (rfl : _ = Value.bool (decide (x2 < (a0.length : Int)))) (fun hb12 => ?_) (fun hb12 => ?_)
    ·have hr := ite_t hb12 hr
     refine W_skip ?_
     refine then_n ?_
     refine W_seq ?_
     refine W_block ?_
     refine W_seq ?_
     refine W_region ?_
     refine L_move g11_13 (by decide) ?_
     refine L_assign (rfl : _ = Value.int .i64 (x2)) (by decide) ?_
     refine L_nil ?_
     refine then_n ?_
     refine W_seq ?_
     obtain ⟨y13, hy14, hr⟩ := bind_some hr
     obtain ⟨y17, hy18, hr⟩ := bind_some hr
     refine W_draws mixed (by kernel_rfl) [PV.data (a0 : List Int), PV.eq (Value.int .i64 (x2)), PV.ptr (y13 : Int), PV.eq (Value.int .i64 (y13)), PV.data (a1 : List Int), PV.eq (Value.int .i64 (x2)), PV.ptr (y17 : Int), PV.eq (Value.int .i64 (y17)), PV.eq (Value.bool (!decide (y13 = y17)))] (Steps_cons ?_ (Steps_cons ?_ (Steps_cons ?_ (Steps_cons ?_ (Steps_cons ?_ (Steps_cons ?_ (Steps_cons ?_ (Steps_cons ?_ (Steps_cons ?_ Steps_nil))))))))) ?_
     ·intro f23 s21 e22 hA24 hB25 Q hk26
      have ha27 : f23 0 = w0 := (hB25 0 (by kernel_rfl)).trans g11_0
      refine L_move ha27 (by decide) ?_
      exact L_nil (hk26 _ _ (Ext.refl s21) (h0.mono (l9.trans e22.le)))
     ·intro f30 s28 e29 hA31 hB32 Q hk33
      have ha34 : f30 5 = Value.int .i64 (x2) := (hB32 5 (by kernel_rfl)).trans rfl
      refine L_move ha34 (by decide) ?_
      exact L_nil (hk33 _ _ (Ext.refl s28) rfl)
     ·intro f37 s35 e36 hA38 hB39 Q hk40
      have ha41 : V _ (f37 16) (a0 : List Int) := hA38 0 16 (by kernel_rfl) (by kernel_rfl)
      obtain ⟨v42, q43, hv44⟩ : ∃ v, _ = v ∧ V _ v _ := ⟨_, rfl, ha41⟩
      have ha45 : f37 17 = Value.int .i64 (x2) := hA38 1 17 (by kernel_rfl) (by kernel_rfl)
      refine L_index Try.underlying23 ty3.inf q43 hv44 ha45 hy14 (by decide) ?_
      intro p15 hp16
      exact L_nil (hk40 _ _ (Ext.refl s35) hp16)
     ·intro f48 s46 e47 hA49 hB50 Q hk51
      have ha52 : Ptr _ (f48 18) (y13 : Int) := hA49 2 18 (by kernel_rfl) (by kernel_rfl)
      obtain ⟨v53, q54, hv55⟩ : ∃ v, _ = v ∧ Ptr _ v _ := ⟨_, rfl, ha52⟩
      refine L_load_int ty3 q54 hv55 (by decide) ?_
      exact L_nil (hk51 _ _ (Ext.refl s46) rfl)
     ·intro f58 s56 e57 hA59 hB60 Q hk61
      have ha62 : f58 1 = w1 := (hB60 1 (by kernel_rfl)).trans g11_1
      refine L_move ha62 (by decide) ?_
      exact L_nil (hk61 _ _ (Ext.refl s56) (h1.mono (l9.trans e57.le)))
     ·intro f65 s63 e64 hA66 hB67 Q hk68
      have ha69 : f65 5 = Value.int .i64 (x2) := (hB67 5 (by kernel_rfl)).trans rfl
      refine L_move ha69 (by decide) ?_
      exact L_nil (hk68 _ _ (Ext.refl s63) rfl)
     ·intro f72 s70 e71 hA73 hB74 Q hk75
      have ha76 : V _ (f72 20) (a1 : List Int) := hA73 4 20 (by kernel_rfl) (by kernel_rfl)
      obtain ⟨v77, q78, hv79⟩ : ∃ v, _ = v ∧ V _ v _ := ⟨_, rfl, ha76⟩
      have ha80 : f72 21 = Value.int .i64 (x2) := hA73 5 21 (by kernel_rfl) (by kernel_rfl)
      refine L_index Try.underlying23 ty3.inf q78 hv79 ha80 hy18 (by decide) ?_
      intro p19 hp20
      exact L_nil (hk75 _ _ (Ext.refl s70) hp20)
     ·intro f83 s81 e82 hA84 hB85 Q hk86
      have ha87 : Ptr _ (f83 22) (y17 : Int) := hA84 6 22 (by kernel_rfl) (by kernel_rfl)
      obtain ⟨v88, q89, hv90⟩ : ∃ v, _ = v ∧ Ptr _ v _ := ⟨_, rfl, ha87⟩
      refine L_load_int ty3 q89 hv90 (by decide) ?_
      exact L_nil (hk86 _ _ (Ext.refl s81) rfl)
     ·intro f93 s91 e92 hA94 hB95 Q hk96
      have ha97 : f93 19 = Value.int .i64 (y13) := hA94 3 19 (by kernel_rfl) (by kernel_rfl)
      have ha98 : f93 23 = Value.int .i64 (y17) := hA94 7 23 (by kernel_rfl) (by kernel_rfl)
      refine L_neq ha97 ha98 (by decide) ?_
      exact L_nil (hk96 _ _ (Ext.refl s91) rfl)
     ·intro f101 s99 e100 hA102 hB103
      have hE104 := Tch.ext hE10 e100
      have ha105 : f101 0 = w0 := (hB103 0 (by kernel_rfl)).trans g11_0
      have ha106 : f101 1 = w1 := (hB103 1 (by kernel_rfl)).trans g11_1
      have ha107 : f101 12 = Value.int .i64 ((a0.length : Int)) := (hB103 12 (by kernel_rfl)).trans g11_12
      have ha108 : f101 13 = Value.int .i64 (x2) := (hB103 13 (by kernel_rfl)).trans g11_13
      have ha109 : f101 24 = Value.bool (!decide (y13 = y17)) := hA102 8 24 (by kernel_rfl)
      refine then_n ?_
      refine W_cond _ ha109 (fun hb110 => ?_) (fun hb110 => ?_)
      ·have hr := ite_t hb110 hr
       refine W_seq ?_
       refine W_region ?_
       refine L_assign (rfl : _ = Value.bool (false)) (by decide) ?_
       refine L_nil ?_
       refine then_n ?_
       refine W_ret ?_
       refine block_r ?_
       refine then_r ?_
       refine then_r ?_
       refine block_r ?_
       obtain rfl := Option.some.inj hr
       have hr := hq6
       try dsimp only at hr
       refine then_r ?_
       refine then_r ?_
       obtain rfl := Option.some.inj hr
       exact done1 (Or.inl rfl) Try.results23 rfl ⟨_, _, rfl, rfl, hE104, Vbool⟩
      ·have hr := ite_f hb110 hr
       refine W_skip ?_
       refine block_n ?_
       refine then_n ?_
       refine W_region ?_
       obtain ⟨hc111, hr⟩ := chk_some hr
       refine L_add ha108 (rfl : _ = Value.int .i64 (1)) hc111 (by decide) ?_
       refine L_move (rfl : _ = Value.int .i64 (x2 + 1)) (by decide) ?_
       refine L_nil ?_
       exact then_n ⟨m5, Nat.lt_succ_self _, ⟨s99, (x2 + 1), rfl, hE104, (l9.trans e100.le), hr, rfl, ha105, ha106, ha107⟩⟩
    ·have hr := ite_f hb12 hr
     refine W_exit ?_
     refine then_x ?_
     refine then_x ?_
     refine block_here ?_
     exact then_n ⟨s8, rfl, hE10, l9, Option.some.inj hr⟩
  ·rintro f112 w113 ⟨s116, rfl, hE118, l117, ho4⟩
   subst ho4
   have hr := hq6
   try dsimp only at hr
   refine then_n ?_
   refine W_seq ?_
   refine W_region ?_
   refine L_assign (rfl : _ = Value.bool (true)) (by decide) ?_
   refine L_nil ?_
   refine then_n ?_
   refine W_ret ?_
   obtain rfl := Option.some.inj hr
   exact done1 (Or.inl rfl) Try.results23 rfl ⟨_, _, rfl, rfl, hE118, Vbool⟩

set_option maxHeartbeats 909000 in
theorem law08_DeadSchedules_ok (N : Nat) (s0 : St) (w0 : Value) (a0 : List (List Deed)) (h0 : V s0 w0 a0) (a1 : U8) (w2 : Value) (a2 : List U8) (h2 : V s0 w2 a2) (r : Bool) (hr : law08_DeadSchedules N a0 a1 a2 = some r) :
  Calls Try.prog 5 #[w0, .int .u8 a1.n, w2] s0.w (Ret s0 fun v s => V s v r) := by
 unfold law08_DeadSchedules at hr
 have hE0 := Ext.refl s0
 refine Calls_of (n := 152) (args := [w0, .int .u8 a1.n, w2]) Try.func5 rfl rfl (by simp) ?_
 refine W_seq ?_
 refine W_region ?_
 refine L_assign (rfl : _ = Value.bool (false)) (by decide) ?_
 refine L_nil ?_
 refine then_n ?_
 refine W_seq ?_
 obtain ⟨o2, ho3, hq4⟩ := bind_some hr
 refine W_seq_cut (fun f w => ∃ (s : St) (x1 : Bool), s.w = w ∧ Ext s0 s ∧ Le s0 s ∧ x1 = o2 ∧ f 34 = Value.bool x1 ∧ f 0 = w0 ∧ f 1 = Value.int .u8 (a1).n ∧ f 2 = w2) ?_ ?_
 ·have hr := ho3
  refine W_region ?_
  refine L_move (rfl : _ = w0) (by decide) ?_
  obtain ⟨y5, hy6, hr⟩ := bind_some hr
  refine L_calls cal20 (args1 (rfl : _ = w0)) (law08_light_ok N _ _ _ h0 y5 hy6) (by decide) ?_
  intro v7 s10 e8 hv9
  have hE11 := Tch.ext hE0 e8
  obtain rfl := hv9.bool
  refine L_not (rfl : _ = Value.bool (y5)) (by decide) ?_
  refine L_move (rfl : _ = Value.bool (!y5)) (by decide) ?_
  rcases Bool.eq_false_or_eq_true (!y5) with hb12 | hb12
  ·have hr := ite_t hb12 hr
   refine L_gf (e := 30) (by rfl) (by decide) (rfl : _ = Value.bool (!y5)) hb12 (by decide) ?_
   refine L_gf (e := 30) (by rfl) (by decide) (rfl : _ = Value.bool (!y5)) hb12 (by decide) ?_
   refine L_gf (e := 30) (by rfl) (by decide) (rfl : _ = Value.bool (!y5)) hb12 (by decide) ?_
   refine L_pick_t (rfl : _ = Value.bool (!y5)) hb12 (rfl : _ = Value.bool (true)) (by decide) ?_
   refine L_nil ?_
   exact then_n ⟨s10, true, rfl, hE11, e8.le, Option.some.inj hr, rfl, rfl, rfl, rfl⟩
  ·have hr := ite_f hb12 hr
   refine L_gt (e := 30) (by rfl) (by decide) (rfl : _ = Value.bool (!y5)) hb12 ?_
   refine L_move (rfl : _ = w2) (by decide) ?_
   refine L_gt (e := 30) (by rfl) (by decide) (rfl : _ = Value.bool (!y5)) hb12 ?_
   refine L_len Try.underlying46 (rfl : _ = w2) (h2.mono e8.le) (by decide) ?_
   refine L_gt (e := 30) (by rfl) (by decide) (rfl : _ = Value.bool (!y5)) hb12 ?_
   refine L_gtr (rfl : _ = Value.int .i64 ((a2.length : Int))) (rfl : _ = Value.int .i64 (200)) (by decide) ?_
   refine L_pick_f (rfl : _ = Value.bool (!y5)) hb12 (rfl : _ = Value.bool (decide (200 < (a2.length : Int)))) (by decide) ?_
   refine L_nil ?_
   exact then_n ⟨s10, (decide (200 < (a2.length : Int))), rfl, hE11, e8.le, Option.some.inj hr, rfl, rfl, rfl, rfl⟩
 ·rintro f552 w553 ⟨s13, x1, rfl, hE15, l14, ho3, g16_34, g16_0, g16_1, g16_2⟩
  subst ho3
  have hr := hq4
  try dsimp only at hr
  refine W_cond _ g16_34 (fun hb17 => ?_) (fun hb17 => ?_)
  ·have hr := ite_t hb17 hr
   refine W_seq ?_
   refine W_region ?_
   obtain ⟨y18, hy19, hr⟩ := bind_some hr
   refine L_calls cal10 (args0) (law08_works_ok N _  y18 hy19) (by decide) ?_
   intro v20 s23 e21 hv22
   have hE24 := Tch.ext hE15 e21
   obtain rfl := hv22.bool
   refine L_assign (rfl : _ = Value.bool (y18)) (by decide) ?_
   refine L_nil ?_
   refine then_n ?_
   refine W_ret ?_
   refine then_r ?_
   obtain rfl := Option.some.inj hr
   exact done1 (Or.inl rfl) Try.results5 rfl ⟨_, _, rfl, rfl, hE24, Vbool⟩
  ·have hr := ite_f hb17 hr
   refine W_skip ?_
   refine then_n ?_
   refine W_seq ?_
   refine W_region ?_
   refine L_move g16_0 (by decide) ?_
   refine L_move g16_1 (by decide) ?_
   obtain ⟨hc25, hr⟩ := chk_some hr
   refine L_convert_i64 Try.underlying5 Try.underlying3 (rfl : _ = Value.int .u8 (a1).n) hc25 (by decide) ?_
   obtain ⟨hc26, hr⟩ := chk_some hr
   refine L_rem (rfl : _ = Value.int .i64 (a1.n)) (rfl : _ = Value.int .i64 (6)) hc26 (by decide) ?_
   obtain ⟨y27, hy28, hr⟩ := bind_some hr
   refine L_calls cal21 (args2 (rfl : _ = w0) (rfl : _ = Value.int .i64 (Int.tmod a1.n 6))) (law08_ends_ok N _ _ _ (h0.mono l14) (Int.tmod a1.n 6) y27 hy28) (by decide) ?_
   intro v29 s32 e30 hv31
   have hE33 := Tch.ext hE15 e30
   obtain ⟨v34, v35, v36, rfl, hv37, hv38, hv39⟩ := hv31
   obtain rfl := hv38.bool
   obtain rfl := hv39.bool
   refine L_move (rfl : _ = Value.tuple #[v34, Value.bool (y27.2.1), Value.bool (y27.2.2)]) (by decide) ?_
   refine L_extract (rfl : _ = Value.tuple #[v34, Value.bool (y27.2.1), Value.bool (y27.2.2)]) (k := 0) rfl (by decide) ?_
   refine L_extract (rfl : _ = Value.tuple #[v34, Value.bool (y27.2.1), Value.bool (y27.2.2)]) (k := 1) rfl (by decide) ?_
   refine L_extract (rfl : _ = Value.tuple #[v34, Value.bool (y27.2.1), Value.bool (y27.2.2)]) (k := 2) rfl (by decide) ?_
   refine L_assign (rfl : _ = v34) (by decide) ?_
   refine L_assign (rfl : _ = Value.bool (y27.2.1)) (by decide) ?_
   refine L_assign (rfl : _ = Value.bool (y27.2.2)) (by decide) ?_
   refine L_nil ?_
   refine then_n ?_
   refine W_seq ?_
   refine W_region ?_
   refine L_move g16_0 (by decide) ?_
   refine L_move g16_1 (by decide) ?_
   obtain ⟨hc40, hr⟩ := chk_some hr
   refine L_convert_i64 Try.underlying5 Try.underlying3 (rfl : _ = Value.int .u8 (a1).n) hc40 (by decide) ?_
   obtain ⟨hc41, hr⟩ := chk_some hr
   refine L_rem (rfl : _ = Value.int .i64 (a1.n)) (rfl : _ = Value.int .i64 (6)) hc41 (by decide) ?_
   obtain ⟨y42, hy43, hr⟩ := bind_some hr
   refine L_calls cal22 (args2 (rfl : _ = w0) (rfl : _ = Value.int .i64 (Int.tmod a1.n 6))) (dead_Show_ok N _ _ _ (h0.mono (l14.trans e30.le)) (Int.tmod a1.n 6) y42 hy43) (by decide) ?_
   intro v44 s47 e45 hv46
   have hE48 := Tch.ext hE33 e45
   obtain ⟨v49, v50, rfl, hv51, hv52⟩ := hv46
   obtain rfl := hv52.int
   refine L_move (rfl : _ = Value.tuple #[v49, Value.int .i64 (y42.2)]) (by decide) ?_
   refine L_extract (rfl : _ = Value.tuple #[v49, Value.int .i64 (y42.2)]) (k := 0) rfl (by decide) ?_
   refine L_extract (rfl : _ = Value.tuple #[v49, Value.int .i64 (y42.2)]) (k := 1) rfl (by decide) ?_
   refine L_assign (rfl : _ = v49) (by decide) ?_
   refine L_assign (rfl : _ = Value.int .i64 (y42.2)) (by decide) ?_
   refine L_nil ?_
   refine then_n ?_
   refine W_seq ?_
   refine W_region ?_
   refine L_move g16_0 (by decide) ?_
   refine L_move g16_1 (by decide) ?_
   obtain ⟨hc53, hr⟩ := chk_some hr
   refine L_convert_i64 Try.underlying5 Try.underlying3 (rfl : _ = Value.int .u8 (a1).n) hc53 (by decide) ?_
   obtain ⟨hc54, hr⟩ := chk_some hr
   refine L_rem (rfl : _ = Value.int .i64 (a1.n)) (rfl : _ = Value.int .i64 (6)) hc54 (by decide) ?_
   refine L_move (rfl : _ = v49) (by decide) ?_
   obtain ⟨y55, hy56, hr⟩ := bind_some hr
   refine L_calls cal11 (args3 (rfl : _ = w0) (rfl : _ = Value.int .i64 (Int.tmod a1.n 6)) (rfl : _ = v49)) (dead_Follow_ok N _ _ _ (h0.mono (l14.trans (e30.le.trans e45.le))) (Int.tmod a1.n 6) _ _ hv51 y55 hy56) (by decide) ?_
   intro v57 s60 e58 hv59
   have hE61 := Tch.ext hE48 e58
   obtain ⟨v62, v63, v64, rfl, hv65, hv66, hv67⟩ := hv59
   obtain rfl := hv66.bool
   obtain rfl := hv67.int
   refine L_move (rfl : _ = Value.tuple #[v62, Value.bool (y55.2.1), Value.int .i64 (y55.2.2)]) (by decide) ?_
   refine L_extract (rfl : _ = Value.tuple #[v62, Value.bool (y55.2.1), Value.int .i64 (y55.2.2)]) (k := 0) rfl (by decide) ?_
   refine L_extract (rfl : _ = Value.tuple #[v62, Value.bool (y55.2.1), Value.int .i64 (y55.2.2)]) (k := 1) rfl (by decide) ?_
   refine L_extract (rfl : _ = Value.tuple #[v62, Value.bool (y55.2.1), Value.int .i64 (y55.2.2)]) (k := 2) rfl (by decide) ?_
   refine L_assign (rfl : _ = v62) (by decide) ?_
   refine L_assign (rfl : _ = Value.bool (y55.2.1)) (by decide) ?_
   refine L_assign (rfl : _ = Value.int .i64 (y55.2.2)) (by decide) ?_
   refine L_nil ?_
   refine then_n ?_
   refine W_seq ?_
   obtain ⟨o69, ho70, hq71⟩ := bind_some hr
   refine W_seq_cut (fun f w => ∃ (s : St) (x68 : Bool), s.w = w ∧ Ext s0 s ∧ Le s60 s ∧ x68 = o69 ∧ f 82 = Value.bool x68 ∧ f 0 = w0 ∧ f 1 = Value.int .u8 (a1).n ∧ f 2 = w2 ∧ f 7 = v34) ?_ ?_
   ·have hr := ho70
    refine W_region ?_
    refine L_move (rfl : _ = Value.bool (y27.2.2)) (by decide) ?_
    refine L_not (rfl : _ = Value.bool (y27.2.2)) (by decide) ?_
    refine L_move (rfl : _ = Value.bool (!y27.2.2)) (by decide) ?_
    rcases Bool.eq_false_or_eq_true (!y27.2.2) with hb72 | hb72
    ·have hr := ite_t hb72 hr
     refine L_gf (e := 65) (by rfl) (by decide) (rfl : _ = Value.bool (!y27.2.2)) hb72 (by decide) ?_
     refine L_gf (e := 65) (by rfl) (by decide) (rfl : _ = Value.bool (!y27.2.2)) hb72 (by decide) ?_
     refine L_pick_t (rfl : _ = Value.bool (!y27.2.2)) hb72 (rfl : _ = Value.bool (true)) (by decide) ?_
     refine L_move (rfl : _ = Value.bool (true)) (by decide) ?_
     refine L_gf (e := 69) (by rfl) (by decide) (rfl : _ = Value.bool (true)) rfl (by decide) ?_
     refine L_gf (e := 69) (by rfl) (by decide) (rfl : _ = Value.bool (true)) rfl (by decide) ?_
     refine L_pick_t (rfl : _ = Value.bool (true)) rfl (rfl : _ = Value.bool (true)) (by decide) ?_
     refine L_move (rfl : _ = Value.bool (true)) (by decide) ?_
     refine L_gf (e := 73) (by rfl) (by decide) (rfl : _ = Value.bool (true)) rfl (by decide) ?_
     refine L_gf (e := 73) (by rfl) (by decide) (rfl : _ = Value.bool (true)) rfl (by decide) ?_
     refine L_pick_t (rfl : _ = Value.bool (true)) rfl (rfl : _ = Value.bool (true)) (by decide) ?_
     refine L_move (rfl : _ = Value.bool (true)) (by decide) ?_
     refine L_gf (e := 77) (by rfl) (by decide) (rfl : _ = Value.bool (true)) rfl (by decide) ?_
     refine L_gf (e := 77) (by rfl) (by decide) (rfl : _ = Value.bool (true)) rfl (by decide) ?_
     refine L_gf (e := 77) (by rfl) (by decide) (rfl : _ = Value.bool (true)) rfl (by decide) ?_
     refine L_gf (e := 77) (by rfl) (by decide) (rfl : _ = Value.bool (true)) rfl (by decide) ?_
     refine L_pick_t (rfl : _ = Value.bool (true)) rfl (rfl : _ = Value.bool (true)) (by decide) ?_
     refine L_nil ?_
     exact then_n ⟨s60, true, rfl, hE61, (Le.refl _), Option.some.inj hr, rfl, g16_0, g16_1, g16_2, rfl⟩
    ·have hr := ite_f hb72 hr
     refine L_gt (e := 65) (by rfl) (by decide) (rfl : _ = Value.bool (!y27.2.2)) hb72 ?_
     refine L_move (rfl : _ = Value.int .i64 (y42.2)) (by decide) ?_
     refine L_gt (e := 65) (by rfl) (by decide) (rfl : _ = Value.bool (!y27.2.2)) hb72 ?_
     refine L_neq (rfl : _ = Value.int .i64 (y42.2)) (rfl : _ = Value.int .i64 (0)) (by decide) ?_
     refine L_pick_f (rfl : _ = Value.bool (!y27.2.2)) hb72 (rfl : _ = Value.bool (!decide (y42.2 = 0))) (by decide) ?_
     refine L_move (rfl : _ = Value.bool (!decide (y42.2 = 0))) (by decide) ?_
     rcases Bool.eq_false_or_eq_true (!decide (y42.2 = 0)) with hb73 | hb73
     ·have hr := ite_t hb73 hr
      refine L_gf (e := 69) (by rfl) (by decide) (rfl : _ = Value.bool (!decide (y42.2 = 0))) hb73 (by decide) ?_
      refine L_gf (e := 69) (by rfl) (by decide) (rfl : _ = Value.bool (!decide (y42.2 = 0))) hb73 (by decide) ?_
      refine L_pick_t (rfl : _ = Value.bool (!decide (y42.2 = 0))) hb73 (rfl : _ = Value.bool (true)) (by decide) ?_
      refine L_move (rfl : _ = Value.bool (true)) (by decide) ?_
      refine L_gf (e := 73) (by rfl) (by decide) (rfl : _ = Value.bool (true)) rfl (by decide) ?_
      refine L_gf (e := 73) (by rfl) (by decide) (rfl : _ = Value.bool (true)) rfl (by decide) ?_
      refine L_pick_t (rfl : _ = Value.bool (true)) rfl (rfl : _ = Value.bool (true)) (by decide) ?_
      refine L_move (rfl : _ = Value.bool (true)) (by decide) ?_
      refine L_gf (e := 77) (by rfl) (by decide) (rfl : _ = Value.bool (true)) rfl (by decide) ?_
      refine L_gf (e := 77) (by rfl) (by decide) (rfl : _ = Value.bool (true)) rfl (by decide) ?_
      refine L_gf (e := 77) (by rfl) (by decide) (rfl : _ = Value.bool (true)) rfl (by decide) ?_
      refine L_gf (e := 77) (by rfl) (by decide) (rfl : _ = Value.bool (true)) rfl (by decide) ?_
      refine L_pick_t (rfl : _ = Value.bool (true)) rfl (rfl : _ = Value.bool (true)) (by decide) ?_
      refine L_nil ?_
      exact then_n ⟨s60, true, rfl, hE61, (Le.refl _), Option.some.inj hr, rfl, g16_0, g16_1, g16_2, rfl⟩
     ·have hr := ite_f hb73 hr
      refine L_gt (e := 69) (by rfl) (by decide) (rfl : _ = Value.bool (!decide (y42.2 = 0))) hb73 ?_
      refine L_move (rfl : _ = Value.int .i64 (y55.2.2)) (by decide) ?_
      refine L_gt (e := 69) (by rfl) (by decide) (rfl : _ = Value.bool (!decide (y42.2 = 0))) hb73 ?_
      refine L_neq (rfl : _ = Value.int .i64 (y55.2.2)) (rfl : _ = Value.int .i64 (0)) (by decide) ?_
      refine L_pick_f (rfl : _ = Value.bool (!decide (y42.2 = 0))) hb73 (rfl : _ = Value.bool (!decide (y55.2.2 = 0))) (by decide) ?_
      refine L_move (rfl : _ = Value.bool (!decide (y55.2.2 = 0))) (by decide) ?_
      rcases Bool.eq_false_or_eq_true (!decide (y55.2.2 = 0)) with hb74 | hb74
      ·have hr := ite_t hb74 hr
       refine L_gf (e := 73) (by rfl) (by decide) (rfl : _ = Value.bool (!decide (y55.2.2 = 0))) hb74 (by decide) ?_
       refine L_gf (e := 73) (by rfl) (by decide) (rfl : _ = Value.bool (!decide (y55.2.2 = 0))) hb74 (by decide) ?_
       refine L_pick_t (rfl : _ = Value.bool (!decide (y55.2.2 = 0))) hb74 (rfl : _ = Value.bool (true)) (by decide) ?_
       refine L_move (rfl : _ = Value.bool (true)) (by decide) ?_
       refine L_gf (e := 77) (by rfl) (by decide) (rfl : _ = Value.bool (true)) rfl (by decide) ?_
       refine L_gf (e := 77) (by rfl) (by decide) (rfl : _ = Value.bool (true)) rfl (by decide) ?_
       refine L_gf (e := 77) (by rfl) (by decide) (rfl : _ = Value.bool (true)) rfl (by decide) ?_
       refine L_gf (e := 77) (by rfl) (by decide) (rfl : _ = Value.bool (true)) rfl (by decide) ?_
       refine L_pick_t (rfl : _ = Value.bool (true)) rfl (rfl : _ = Value.bool (true)) (by decide) ?_
       refine L_nil ?_
       exact then_n ⟨s60, true, rfl, hE61, (Le.refl _), Option.some.inj hr, rfl, g16_0, g16_1, g16_2, rfl⟩
      ·have hr := ite_f hb74 hr
       refine L_gt (e := 73) (by rfl) (by decide) (rfl : _ = Value.bool (!decide (y55.2.2 = 0))) hb74 ?_
       refine L_move (rfl : _ = Value.bool (y55.2.1)) (by decide) ?_
       refine L_gt (e := 73) (by rfl) (by decide) (rfl : _ = Value.bool (!decide (y55.2.2 = 0))) hb74 ?_
       refine L_not (rfl : _ = Value.bool (y55.2.1)) (by decide) ?_
       refine L_pick_f (rfl : _ = Value.bool (!decide (y55.2.2 = 0))) hb74 (rfl : _ = Value.bool (!y55.2.1)) (by decide) ?_
       refine L_move (rfl : _ = Value.bool (!y55.2.1)) (by decide) ?_
       rcases Bool.eq_false_or_eq_true (!y55.2.1) with hb75 | hb75
       ·have hr := ite_t hb75 hr
        refine L_gf (e := 77) (by rfl) (by decide) (rfl : _ = Value.bool (!y55.2.1)) hb75 (by decide) ?_
        refine L_gf (e := 77) (by rfl) (by decide) (rfl : _ = Value.bool (!y55.2.1)) hb75 (by decide) ?_
        refine L_gf (e := 77) (by rfl) (by decide) (rfl : _ = Value.bool (!y55.2.1)) hb75 (by decide) ?_
        refine L_gf (e := 77) (by rfl) (by decide) (rfl : _ = Value.bool (!y55.2.1)) hb75 (by decide) ?_
        refine L_pick_t (rfl : _ = Value.bool (!y55.2.1)) hb75 (rfl : _ = Value.bool (true)) (by decide) ?_
        refine L_nil ?_
        exact then_n ⟨s60, true, rfl, hE61, (Le.refl _), Option.some.inj hr, rfl, g16_0, g16_1, g16_2, rfl⟩
       ·have hr := ite_f hb75 hr
        refine L_gt (e := 77) (by rfl) (by decide) (rfl : _ = Value.bool (!y55.2.1)) hb75 ?_
        refine L_move (rfl : _ = v62) (by decide) ?_
        refine L_gt (e := 77) (by rfl) (by decide) (rfl : _ = Value.bool (!y55.2.1)) hb75 ?_
        refine L_move (rfl : _ = v34) (by decide) ?_
        refine L_gt (e := 77) (by rfl) (by decide) (rfl : _ = Value.bool (!y55.2.1)) hb75 ?_
        obtain ⟨y76, hy77, hr⟩ := bind_some hr
        refine L_calls cal23 (args2 (rfl : _ = v62) (rfl : _ = v34)) (law08_equal_ok N _ _ _ hv65 _ _ (hv37.mono (e45.le.trans e58.le)) y76 hy77) (by decide) ?_
        intro v78 s81 e79 hv80
        have hE82 := Tch.ext hE61 e79
        obtain rfl := hv80.bool
        refine L_gt (e := 77) (by rfl) (by decide) (rfl : _ = Value.bool (!y55.2.1)) hb75 ?_
        refine L_not (rfl : _ = Value.bool (y76)) (by decide) ?_
        refine L_pick_f (rfl : _ = Value.bool (!y55.2.1)) hb75 (rfl : _ = Value.bool (!y76)) (by decide) ?_
        refine L_nil ?_
        exact then_n ⟨s81, (!y76), rfl, hE82, e79.le, Option.some.inj hr, rfl, g16_0, g16_1, g16_2, rfl⟩
   ·rintro f550 w551 ⟨s83, x68, rfl, hE85, l84, ho70, g86_82, g86_0, g86_1, g86_2, g86_7⟩
    subst ho70
    have hr := hq71
    try dsimp only at hr
    refine W_cond _ g86_82 (fun hb87 => ?_) (fun hb87 => ?_)
    ·have hr := ite_t hb87 hr
     refine W_seq ?_
     refine W_region ?_
     refine L_assign (rfl : _ = Value.bool (false)) (by decide) ?_
     refine L_nil ?_
     refine then_n ?_
     refine W_ret ?_
     refine then_r ?_
     obtain rfl := Option.some.inj hr
     exact done1 (Or.inl rfl) Try.results5 rfl ⟨_, _, rfl, rfl, hE85, Vbool⟩
    ·have hr := ite_f hb87 hr
     refine W_skip ?_
     refine then_n ?_
     refine W_seq ?_
     refine W_region ?_
     refine L_assign (rfl : _ = Value.slice none 0 0) (by decide) ?_
     refine L_nil ?_
     refine then_n ?_
     refine W_seq ?_
     refine W_seq ?_
     refine W_region ?_
     refine L_move (rfl : _ = Value.int .i64 (0)) (by decide) ?_
     refine L_nil ?_
     refine then_n ?_
     obtain ⟨o91, ho92, hq94⟩ := bind_some hr
     refine W_cut (fun f w => ∃ (s : St), s.w = w ∧ Ext s0 s ∧ Le s83 s ∧ Sum.inl () = o91) ?_ ?_
     ·refine W_block ?_
      refine W_loop (fun m f w => ∃ (s : St) (v89 : Value) (x88 : List Int) (x90 : Int), s.w = w ∧ Ext s0 s ∧ Le s83 s ∧ law08_DeadSchedules_l1 N a0 a1 a2 y27 m x88 x90 = some o91 ∧ f 15 = v89 ∧ V s v89 x88 ∧ f 83 = Value.int .i64 x90 ∧ f 0 = w0 ∧ f 1 = Value.int .u8 (a1).n ∧ f 2 = w2 ∧ f 7 = v34) N ⟨s83, (Value.slice none 0 0), ([]), 0, rfl, hE85, (Le.refl _), ho92, rfl, Vnil, rfl, g86_0, g86_1, g86_2, g86_7⟩ ?_
      rintro m93 f544 w545 ⟨s96, v89, x88, x90, rfl, hE98, l97, hr, g99_15, hv100, g99_83, g99_0, g99_1, g99_2, g99_7⟩
      cases m93 with
      | zero => exact absurd hr (by simp [law08_DeadSchedules_l1])
      | succ m93 =>
       rw [law08_DeadSchedules_l1.eq_2] at hr
       refine W_seq ?_
       refine W_region ?_
       refine L_lss g99_83 (rfl : _ = Value.int .i64 (130)) (by decide) ?_
       refine L_nil ?_
       refine then_n ?_
       refine W_seq ?_
       refine W_cond _ (rfl : _ = Value.bool (decide (x90 < 130))) (fun hb101 => ?_) (fun hb101 => ?_)
       ·have hr := ite_t hb101 hr
        refine W_skip ?_
        refine then_n ?_
        refine W_seq ?_
        refine W_block ?_
        refine W_seq ?_
        refine W_region ?_
        refine L_move g99_83 (by decide) ?_
        refine L_assign (rfl : _ = Value.int .i64 (x90)) (by decide) ?_
        refine L_nil ?_
        refine then_n ?_
        refine W_seq ?_
        refine W_region ?_
        refine L_move g99_0 (by decide) ?_
        refine L_move g99_1 (by decide) ?_
        obtain ⟨hc102, hr⟩ := chk_some hr
        refine L_convert_i64 Try.underlying5 Try.underlying3 (rfl : _ = Value.int .u8 (a1).n) hc102 (by decide) ?_
        obtain ⟨hc103, hr⟩ := chk_some hr
        refine L_rem (rfl : _ = Value.int .i64 (a1.n)) (rfl : _ = Value.int .i64 (6)) hc103 (by decide) ?_
        refine L_move g99_15 (by decide) ?_
        obtain ⟨y104, hy105, hr⟩ := bind_some hr
        refine L_calls cal11 (args3 (rfl : _ = w0) (rfl : _ = Value.int .i64 (Int.tmod a1.n 6)) (rfl : _ = v89)) (dead_Follow_ok N _ _ _ (h0.mono (l14.trans (e30.le.trans (e45.le.trans (e58.le.trans (l84.trans l97)))))) (Int.tmod a1.n 6) _ _ hv100 y104 hy105) (by decide) ?_
        intro v106 s109 e107 hv108
        have hE110 := Tch.ext hE98 e107
        obtain ⟨v111, v112, v113, rfl, hv114, hv115, hv116⟩ := hv108
        obtain rfl := hv115.bool
        obtain rfl := hv116.int
        refine L_move (rfl : _ = Value.tuple #[v111, Value.bool (y104.2.1), Value.int .i64 (y104.2.2)]) (by decide) ?_
        refine L_extract (rfl : _ = Value.tuple #[v111, Value.bool (y104.2.1), Value.int .i64 (y104.2.2)]) (k := 0) rfl (by decide) ?_
        refine L_extract (rfl : _ = Value.tuple #[v111, Value.bool (y104.2.1), Value.int .i64 (y104.2.2)]) (k := 1) rfl (by decide) ?_
        refine L_extract (rfl : _ = Value.tuple #[v111, Value.bool (y104.2.1), Value.int .i64 (y104.2.2)]) (k := 2) rfl (by decide) ?_
        refine L_assign (rfl : _ = v111) (by decide) ?_
        refine L_assign (rfl : _ = Value.bool (y104.2.1)) (by decide) ?_
        refine L_assign (rfl : _ = Value.int .i64 (y104.2.2)) (by decide) ?_
        refine L_nil ?_
        refine then_n ?_
        refine W_seq ?_
        refine W_seq ?_
        refine W_region ?_
        refine L_move (rfl : _ = Value.int .i64 (y104.2.2)) (by decide) ?_
        refine L_neq (rfl : _ = Value.int .i64 (y104.2.2)) (rfl : _ = Value.int .i64 (0)) (by decide) ?_
        refine L_nil ?_
        refine then_n ?_
        refine W_cond _ (rfl : _ = Value.bool (!decide (y104.2.2 = 0))) (fun hb117 => ?_) (fun hb117 => ?_)
        ·have hr := ite_t hb117 hr
         refine W_seq ?_
         refine W_region ?_
         refine L_assign (rfl : _ = Value.bool (false)) (by decide) ?_
         refine L_nil ?_
         refine then_n ?_
         refine W_ret ?_
         refine then_r ?_
         refine block_r ?_
         refine then_r ?_
         refine then_r ?_
         refine block_r ?_
         obtain rfl := Option.some.inj hr
         have hr := hq94
         try dsimp only at hr
         refine then_r ?_
         refine then_r ?_
         obtain rfl := Option.some.inj hr
         exact done1 (Or.inl rfl) Try.results5 rfl ⟨_, _, rfl, rfl, hE110, Vbool⟩
        ·have hr := ite_f hb117 hr
         refine W_skip ?_
         refine then_n ?_
         refine W_seq ?_
         refine W_seq ?_
         refine W_region ?_
         refine L_move (rfl : _ = Value.bool (y104.2.1)) (by decide) ?_
         refine L_nil ?_
         refine then_n ?_
         refine W_cond _ (rfl : _ = Value.bool (y104.2.1)) (fun hb118 => ?_) (fun hb118 => ?_)
         ·have hr := ite_t hb118 hr
          obtain ⟨o120, ho121, hq122⟩ := bind_some hr
          refine W_seq_cut (fun f w => ∃ (s : St) (x119 : Bool), s.w = w ∧ Ext s0 s ∧ Le s109 s ∧ x119 = o120 ∧ f 6 = Value.bool x119) ?_ ?_
          ·have hr := ho121
           refine W_region ?_
           refine L_move (rfl : _ = v111) (by decide) ?_
           refine L_move g99_7 (by decide) ?_
           obtain ⟨y123, hy124, hr⟩ := bind_some hr
           refine L_calls cal23 (args2 (rfl : _ = v111) (rfl : _ = v34)) (law08_equal_ok N _ _ _ hv114 _ _ (hv37.mono (e45.le.trans (e58.le.trans (l84.trans (l97.trans e107.le))))) y123 hy124) (by decide) ?_
           intro v125 s128 e126 hv127
           have hE129 := Tch.ext hE110 e126
           obtain rfl := hv127.bool
           refine L_move (rfl : _ = Value.bool (y123)) (by decide) ?_
           rcases Bool.eq_false_or_eq_true (y123) with hb130 | hb130
           ·have hr := ite_t hb130 hr
            refine L_gt (e := 102) (by rfl) (by decide) (rfl : _ = Value.bool (y123)) hb130 ?_
            obtain ⟨y131, hy132, hr⟩ := bind_some hr
            refine L_calls cal10 (args0) (law08_works_ok N _  y131 hy132) (by decide) ?_
            intro v133 s136 e134 hv135
            have hE137 := Tch.ext hE129 e134
            obtain rfl := hv135.bool
            refine L_pick_t (rfl : _ = Value.bool (y123)) hb130 (rfl : _ = Value.bool (y131)) (by decide) ?_
            refine L_assign (rfl : _ = Value.bool (y131)) (by decide) ?_
            refine L_nil ?_
            exact then_n ⟨s136, y131, rfl, hE137, (e126.le.trans e134.le), Option.some.inj hr, rfl⟩
           ·have hr := ite_f hb130 hr
            refine L_gf (e := 102) (by rfl) (by decide) (rfl : _ = Value.bool (y123)) hb130 (by decide) ?_
            refine L_pick_f (rfl : _ = Value.bool (y123)) hb130 (rfl : _ = Value.bool (false)) (by decide) ?_
            refine L_assign (rfl : _ = Value.bool (false)) (by decide) ?_
            refine L_nil ?_
            exact then_n ⟨s128, false, rfl, hE129, e126.le, Option.some.inj hr, rfl⟩
          ·rintro f142 w143 ⟨s138, x119, rfl, hE140, l139, ho121, g141_6⟩
           subst ho121
           have hr := hq122
           try dsimp only at hr
           refine W_ret ?_
           refine then_r ?_
           refine block_r ?_
           refine then_r ?_
           refine then_r ?_
           refine block_r ?_
           obtain rfl := Option.some.inj hr
           have hr := hq94
           try dsimp only at hr
           refine then_r ?_
           refine then_r ?_
           obtain rfl := Option.some.inj hr
           exact done1 (Or.inl rfl) Try.results5 g141_6 ⟨_, _, rfl, rfl, hE140, Vbool⟩
         ·have hr := ite_f hb118 hr
          refine W_skip ?_
          refine then_n ?_
          refine W_seq ?_
          refine W_region ?_
          refine L_assign (rfl : _ = Value.int .i64 (0)) (by decide) ?_
          refine L_nil ?_
          refine then_n ?_
          refine W_seq ?_
          refine W_seq ?_
          refine W_region ?_
          refine L_move g99_2 (by decide) ?_
          refine L_len Try.underlying46 (rfl : _ = w2) (h2.mono (l14.trans (e30.le.trans (e45.le.trans (e58.le.trans (l84.trans (l97.trans e107.le))))))) (by decide) ?_
          refine L_gtr (rfl : _ = Value.int .i64 ((a2.length : Int))) (rfl : _ = Value.int .i64 (0)) (by decide) ?_
          refine L_nil ?_
          refine then_n ?_
          refine W_cond _ (rfl : _ = Value.bool (decide (0 < (a2.length : Int)))) (fun hb144 => ?_) (fun hb144 => ?_)
          ·have hr := ite_t hb144 hr
           refine W_region ?_
           refine L_move g99_2 (by decide) ?_
           refine L_move (rfl : _ = Value.int .i64 (x90)) (by decide) ?_
           refine L_move g99_2 (by decide) ?_
           refine L_len Try.underlying46 (rfl : _ = w2) (h2.mono (l14.trans (e30.le.trans (e45.le.trans (e58.le.trans (l84.trans (l97.trans e107.le))))))) (by decide) ?_
           obtain ⟨hc145, hr⟩ := chk_some hr
           refine L_rem (rfl : _ = Value.int .i64 (x90)) (rfl : _ = Value.int .i64 ((a2.length : Int))) hc145 (by decide) ?_
           obtain ⟨y146, hy147, hr⟩ := bind_some hr
           refine L_index Try.underlying46 ty5.inf (rfl : _ = w2) (h2.mono (l14.trans (e30.le.trans (e45.le.trans (e58.le.trans (l84.trans (l97.trans e107.le))))))) (rfl : _ = Value.int .i64 (Int.tmod x90 (a2.length : Int))) hy147 (by decide) ?_
           intro p148 hp149
           refine L_load_u8 ty5 (rfl : _ = p148) hp149 (by decide) ?_
           obtain ⟨hc150, hr⟩ := chk_some hr
           refine L_convert_i64 Try.underlying5 Try.underlying3 (rfl : _ = Value.int .u8 (y146).n) hc150 (by decide) ?_
           refine L_move g99_0 (by decide) ?_
           refine L_len Try.underlying29 (rfl : _ = w0) (h0.mono (l14.trans (e30.le.trans (e45.le.trans (e58.le.trans (l84.trans (l97.trans e107.le))))))) (by decide) ?_
           obtain ⟨hc151, hr⟩ := chk_some hr
           refine L_rem (rfl : _ = Value.int .i64 (y146.n)) (rfl : _ = Value.int .i64 ((a0.length : Int))) hc151 (by decide) ?_
           refine L_assign (rfl : _ = Value.int .i64 (Int.tmod y146.n (a0.length : Int))) (by decide) ?_
           refine L_nil ?_
           refine then_n ?_
           refine W_seq ?_
           refine W_region ?_
           refine L_assign (rfl : _ = Value.bool (false)) (by decide) ?_
           refine L_nil ?_
           refine then_n ?_
           refine W_seq ?_
           refine W_seq ?_
           refine W_region ?_
           refine L_move g99_0 (by decide) ?_
           refine L_len Try.underlying29 (rfl : _ = w0) (h0.mono (l14.trans (e30.le.trans (e45.le.trans (e58.le.trans (l84.trans (l97.trans e107.le))))))) (by decide) ?_
           refine L_move (rfl : _ = Value.int .i64 (0)) (by decide) ?_
           refine L_nil ?_
           refine then_n ?_
           obtain ⟨o159, ho160, hq162⟩ := bind_some hr
           refine W_cut (fun f w => ∃ (s : St) (v157 : Value) (x156 : List Int) (x158 : Bool), s.w = w ∧ Ext s0 s ∧ Le s109 s ∧ (x156, x158) = o159 ∧ f 15 = v157 ∧ V s v157 x156 ∧ f 21 = Value.bool x158 ∧ f 0 = w0 ∧ f 1 = Value.int .u8 (a1).n ∧ f 2 = w2 ∧ f 7 = v34 ∧ f 83 = Value.int .i64 (x90)) ?_ ?_
           ·refine W_block ?_
            refine W_loop (fun m f w => ∃ (s : St) (v153 : Value) (x152 : List Int) (x154 : Bool) (x155 : Int), s.w = w ∧ Ext s0 s ∧ Le s109 s ∧ law08_DeadSchedules_l2 N a0 a1 y146 m x152 x154 x155 = some o159 ∧ f 15 = v153 ∧ V s v153 x152 ∧ f 21 = Value.bool x154 ∧ f 121 = Value.int .i64 x155 ∧ f 0 = w0 ∧ f 1 = Value.int .u8 (a1).n ∧ f 2 = w2 ∧ f 7 = v34 ∧ f 20 = Value.int .i64 (Int.tmod y146.n (a0.length : Int)) ∧ f 83 = Value.int .i64 (x90) ∧ f 120 = Value.int .i64 ((a0.length : Int))) N ⟨s109, v89, x88, false, 0, rfl, hE110, (Le.refl _), ho160, g99_15, (hv100.mono e107.le), rfl, rfl, g99_0, g99_1, g99_2, g99_7, rfl, g99_83, rfl⟩ ?_
            rintro m161 f338 w339 ⟨s164, v153, x152, x154, x155, rfl, hE166, l165, hr, g167_15, hv168, g167_21, g167_121, g167_0, g167_1, g167_2, g167_7, g167_20, g167_83, g167_120⟩
            cases m161 with
            | zero => exact absurd hr (by simp [law08_DeadSchedules_l2])
            | succ m161 =>
             rw [law08_DeadSchedules_l2.eq_2] at hr
             refine W_seq ?_
             refine W_region ?_
             refine L_lss g167_121 g167_120 (by decide) ?_
             refine L_nil ?_
             refine then_n ?_
             refine W_seq ?_
             refine W_cond _ (rfl : _ = Value.bool (decide (x155 < (a0.length : Int)))) (fun hb169 => ?_) (fun hb169 => ?_)
             ·have hr := ite_t hb169 hr
              refine W_skip ?_
              refine then_n ?_
              refine W_seq ?_
              refine W_block ?_
              refine W_seq ?_
              refine W_region ?_
              refine L_move g167_121 (by decide) ?_
              refine L_assign (rfl : _ = Value.int .i64 (x155)) (by decide) ?_
              refine L_nil ?_
              refine then_n ?_
              refine W_seq ?_
              obtain ⟨hc176, hr⟩ := chk_some hr
              obtain ⟨hc181, hr⟩ := chk_some hr
              obtain ⟨hc182, hr⟩ := chk_some hr
              obtain ⟨hc189, hr⟩ := chk_some hr
              refine W_drawP mixed 12 [PX.bld s0.w.heap.size 3 (([] : List Int) : List Int), PX.data (x152 : List Int), PX.bld s0.w.heap.size 3 (([] : List Int) ++ x152 : List Int), PX.eq (Value.int .i64 (Int.tmod y146.n (a0.length : Int))), PX.eq (Value.int .i64 (x155)), PX.eq (Value.int .i64 (Int.tmod y146.n (a0.length : Int) + x155)), PX.data (a0 : List (List Deed)), PX.eq (Value.int .i64 ((a0.length : Int))), PX.eq (Value.int .i64 (Int.tmod (Int.tmod y146.n (a0.length : Int) + x155) (a0.length : Int))), PX.data (([Int.tmod (Int.tmod y146.n (a0.length : Int) + x155) (a0.length : Int)] : List Int) : List Int), PX.bld s0.w.heap.size 3 ((([] : List Int) ++ x152) ++ ([Int.tmod (Int.tmod y146.n (a0.length : Int) + x155) (a0.length : Int)] : List Int) : List Int), PX.bld s0.w.heap.size 3 ((([] : List Int) ++ x152) ++ ([Int.tmod (Int.tmod y146.n (a0.length : Int) + x155) (a0.length : Int)] : List Int) : List Int)] [124, 125, 126, 127, 128, 129, 130, 131, 132, 133, 134, 23] [[], [], [0], [], [], [], [], [], [], [], [2], [10]] rfl (by kernel_rfl) (ent0 rfl) (dis0 rfl) (StepsX_cons ?_ (StepsX_cons ?_ (StepsX_cons ?_ (StepsX_cons ?_ (StepsX_cons ?_ (StepsX_cons ?_ (StepsX_cons ?_ (StepsX_cons ?_ (StepsX_cons ?_ (StepsX_cons ?_ (StepsX_cons ?_ (StepsX_cons ?_ StepsX_nil)))))))))))) ?_
              ·intro f196 s194 hT195 hA197 hB198 Q hk199
               refine L_buildSlice (xs := ([] : List Int)) Try.underlying23 tyz3 Parts_nil Vs.nil rfl (by decide) (by decide) ?_
               intro s174 v171 e170 hb172 hv173
               have hE175 := Tch.ext (Ext.refl s194) e170
               exact L_nil (hk199 _ _ No hE175 (fun _ h => h.elim) (hb172.base (Nat.le_trans hE166.size hT195.size)) (fun k h => Or.inr ((hb172.lt h).1)))
              ·intro f202 s200 hT201 hA203 hB204 Q hk205
               have ha206 : f202 15 = v153 := (hB204 15 (by kernel_rfl)).trans g167_15
               refine L_move ha206 (by decide) ?_
               exact L_nil (hk205 _ _ No (Ext.refl s200) (fun _ h => h.elim) (hv168.mono hT201.le) (fun _ h => h.elim))
              ·intro f209 s207 hT208 hA210 hB211 Q hk212
               obtain ⟨v214, q215, hv216⟩ : ∃ v, f209 124 = v ∧ Bld s207 s0.w.heap.size 3 v (([] : List Int) : List Int) := ⟨_, rfl, hA210 0 (by kernel_rfl) (by show _ < 12; decide)⟩
               have ha217 : V _ (f209 125) (x152 : List Int) := hA210 1 (by kernel_rfl) (by show _ < 12; decide)
               obtain ⟨v218, q219, hv220⟩ : ∃ v, _ = v ∧ V _ v _ := ⟨_, rfl, ha217⟩
               refine L_append (xs := ([] : List Int)) (B := s0.w.heap.size) Try.underlying23 tyz3 q215 q219 (hv216) (Nat.le_trans hE166.size hT208.size) hv220 hc176.1 hc176.2 (by decide) ?_
               intro v177 s179 g178
               exact L_nil (hk212 _ _ _ g178.tch (fun k h => ⟨0, (List.mem_singleton.2 rfl : (0 : Nat) ∈ [0]), (by show own (f209 124) k; rw [q215]; exact h)⟩) g178.bld (fun k h => (g178.own k h).imp (fun h => ⟨0, (List.mem_singleton.2 rfl : (0 : Nat) ∈ [0]), (by show own (f209 124) k; rw [q215]; exact h)⟩) (fun h => h)))
              ·intro f223 s221 hT222 hA224 hB225 Q hk226
               have ha227 : f223 20 = Value.int .i64 (Int.tmod y146.n (a0.length : Int)) := (hB225 20 (by kernel_rfl)).trans g167_20
               refine L_move ha227 (by decide) ?_
               exact L_nil (hk226 _ _ No (Ext.refl s221) (fun _ h => h.elim) rfl (fun _ h => h.elim))
              ·intro f230 s228 hT229 hA231 hB232 Q hk233
               have ha234 : f230 22 = Value.int .i64 (x155) := (hB232 22 (by kernel_rfl)).trans rfl
               refine L_move ha234 (by decide) ?_
               exact L_nil (hk233 _ _ No (Ext.refl s228) (fun _ h => h.elim) rfl (fun _ h => h.elim))
              ·intro f237 s235 hT236 hA238 hB239 Q hk240
               have ha241 : f237 127 = Value.int .i64 (Int.tmod y146.n (a0.length : Int)) := hA238 3 (by kernel_rfl) (by show _ < 12; decide)
               have ha242 : f237 128 = Value.int .i64 (x155) := hA238 4 (by kernel_rfl) (by show _ < 12; decide)
               refine L_add ha241 ha242 hc181 (by decide) ?_
               exact L_nil (hk240 _ _ No (Ext.refl s235) (fun _ h => h.elim) rfl (fun _ h => h.elim))
              ·intro f245 s243 hT244 hA246 hB247 Q hk248
               have ha249 : f245 0 = w0 := (hB247 0 (by kernel_rfl)).trans g167_0
               refine L_move ha249 (by decide) ?_
               exact L_nil (hk248 _ _ No (Ext.refl s243) (fun _ h => h.elim) (h0.mono (l14.trans (e30.le.trans (e45.le.trans (e58.le.trans (l84.trans (l97.trans (e107.le.trans (l165.trans hT244.le))))))))) (fun _ h => h.elim))
              ·intro f252 s250 hT251 hA253 hB254 Q hk255
               have ha256 : V _ (f252 130) (a0 : List (List Deed)) := hA253 6 (by kernel_rfl) (by show _ < 12; decide)
               obtain ⟨v257, q258, hv259⟩ : ∃ v, _ = v ∧ V _ v _ := ⟨_, rfl, ha256⟩
               refine L_len Try.underlying29 q258 hv259 (by decide) ?_
               exact L_nil (hk255 _ _ No (Ext.refl s250) (fun _ h => h.elim) rfl (fun _ h => h.elim))
              ·intro f262 s260 hT261 hA263 hB264 Q hk265
               have ha266 : f262 129 = Value.int .i64 (Int.tmod y146.n (a0.length : Int) + x155) := hA263 5 (by kernel_rfl) (by show _ < 12; decide)
               have ha267 : f262 131 = Value.int .i64 ((a0.length : Int)) := hA263 7 (by kernel_rfl) (by show _ < 12; decide)
               refine L_rem ha266 ha267 hc182 (by decide) ?_
               exact L_nil (hk265 _ _ No (Ext.refl s260) (fun _ h => h.elim) rfl (fun _ h => h.elim))
              ·intro f270 s268 hT269 hA271 hB272 Q hk273
               have ha274 : f270 132 = Value.int .i64 (Int.tmod (Int.tmod y146.n (a0.length : Int) + x155) (a0.length : Int)) := hA271 8 (by kernel_rfl) (by show _ < 12; decide)
               refine L_buildSlice (xs := ([Int.tmod (Int.tmod y146.n (a0.length : Int) + x155) (a0.length : Int)] : List Int)) Try.underlying23 tyz3 (Parts_cons rfl ha274 Parts_nil) (Vs.cons Vint Vs.nil) rfl (by decide) (by decide) ?_
               intro s187 v184 e183 hb185 hv186
               have hE188 := Tch.ext (Ext.refl s268) e183
               exact L_nil (hk273 _ _ No hE188 (fun _ h => h.elim) hv186 (fun _ h => h.elim))
              ·intro f277 s275 hT276 hA278 hB279 Q hk280
               obtain ⟨v282, q283, hv284⟩ : ∃ v, f277 126 = v ∧ Bld s275 s0.w.heap.size 3 v (([] : List Int) ++ x152 : List Int) := ⟨_, rfl, hA278 2 (by kernel_rfl) (by show _ < 12; decide)⟩
               have ha285 : V _ (f277 133) (([Int.tmod (Int.tmod y146.n (a0.length : Int) + x155) (a0.length : Int)] : List Int) : List Int) := hA278 9 (by kernel_rfl) (by show _ < 12; decide)
               obtain ⟨v286, q287, hv288⟩ : ∃ v, _ = v ∧ V _ v _ := ⟨_, rfl, ha285⟩
               refine L_append (xs := (([] : List Int) ++ x152)) (B := s0.w.heap.size) Try.underlying23 tyz3 q283 q287 (hv284) (Nat.le_trans hE166.size hT276.size) hv288 hc189.1 hc189.2 (by decide) ?_
               intro v190 s192 g191
               exact L_nil (hk280 _ _ _ g191.tch (fun k h => ⟨2, (List.mem_singleton.2 rfl : (2 : Nat) ∈ [2]), (by show own (f277 126) k; rw [q283]; exact h)⟩) g191.bld (fun k h => (g191.own k h).imp (fun h => ⟨2, (List.mem_singleton.2 rfl : (2 : Nat) ∈ [2]), (by show own (f277 126) k; rw [q283]; exact h)⟩) (fun h => h)))
              ·intro f291 s289 hT290 hA292 hB293 Q hk294
               obtain ⟨v296, q297, hv298⟩ : ∃ v, f291 134 = v ∧ Bld s289 s0.w.heap.size 3 v ((([] : List Int) ++ x152) ++ ([Int.tmod (Int.tmod y146.n (a0.length : Int) + x155) (a0.length : Int)] : List Int) : List Int) := ⟨_, rfl, hA292 10 (by kernel_rfl) (by show _ < 12; decide)⟩
               refine L_assign q297 (by decide) ?_
               exact L_nil (hk294 _ _ No (Ext.refl s289) (fun _ h => h.elim) hv298 (fun k h => Or.inl ⟨10, (List.mem_singleton.2 rfl : (10 : Nat) ∈ [10]), (by show own (f291 134) k; rw [q297]; exact h)⟩))
              ·intro f301 s299 hT300 hP302 hD303 hB304
               have hE305 := Tch.trans hE166 hT300 (fun k h => absurd h (ent_none (k := 12) rfl rfl k))
               obtain ⟨v306, q307, hv308⟩ : ∃ v, f301 23 = v ∧ Bld s299 s0.w.heap.size 3 v ((([] : List Int) ++ x152) ++ ([Int.tmod (Int.tmod y146.n (a0.length : Int) + x155) (a0.length : Int)] : List Int) : List Int) := ⟨_, rfl, hP302 11 (by show _ < 12; decide) (by kernel_rfl)⟩
               have ha309 : f301 0 = w0 := (hB304 0 (by kernel_rfl)).trans g167_0
               have ha310 : f301 1 = Value.int .u8 (a1).n := (hB304 1 (by kernel_rfl)).trans g167_1
               have ha311 : f301 2 = w2 := (hB304 2 (by kernel_rfl)).trans g167_2
               have ha312 : f301 7 = v34 := (hB304 7 (by kernel_rfl)).trans g167_7
               have ha313 : f301 15 = v153 := (hB304 15 (by kernel_rfl)).trans g167_15
               have ha314 : f301 20 = Value.int .i64 (Int.tmod y146.n (a0.length : Int)) := (hB304 20 (by kernel_rfl)).trans g167_20
               have ha315 : f301 21 = Value.bool (x154) := (hB304 21 (by kernel_rfl)).trans g167_21
               have ha316 : f301 83 = Value.int .i64 (x90) := (hB304 83 (by kernel_rfl)).trans g167_83
               have ha317 : f301 120 = Value.int .i64 ((a0.length : Int)) := (hB304 120 (by kernel_rfl)).trans g167_120
               have ha318 : f301 121 = Value.int .i64 (x155) := (hB304 121 (by kernel_rfl)).trans g167_121
               refine then_n ?_
               refine W_seq ?_
               refine W_region ?_
               refine L_move ha309 (by decide) ?_
               refine L_move ha310 (by decide) ?_
               obtain ⟨hc319, hr⟩ := chk_some hr
               refine L_convert_i64 Try.underlying5 Try.underlying3 (rfl : _ = Value.int .u8 (a1).n) hc319 (by decide) ?_
               obtain ⟨hc320, hr⟩ := chk_some hr
               refine L_rem (rfl : _ = Value.int .i64 (a1.n)) (rfl : _ = Value.int .i64 (6)) hc320 (by decide) ?_
               refine L_move q307 (by decide) ?_
               obtain ⟨y321, hy322, hr⟩ := bind_some hr
               refine L_calls cal11 (args3 (rfl : _ = w0) (rfl : _ = Value.int .i64 (Int.tmod a1.n 6)) (rfl : _ = v306)) (dead_Follow_ok N _ _ _ (h0.mono (l14.trans (e30.le.trans (e45.le.trans (e58.le.trans (l84.trans (l97.trans (e107.le.trans (l165.trans hT300.le))))))))) (Int.tmod a1.n 6) _ _ (hv308).toV y321 hy322) (by decide) ?_
               intro v323 s326 e324 hv325
               have hE327 := Tch.ext hE305 e324
               obtain ⟨v328, v329, v330, rfl, hv331, hv332, hv333⟩ := hv325
               obtain rfl := hv332.bool
               obtain rfl := hv333.int
               refine L_move (rfl : _ = Value.tuple #[v328, Value.bool (y321.2.1), Value.int .i64 (y321.2.2)]) (by decide) ?_
               refine L_extract (rfl : _ = Value.tuple #[v328, Value.bool (y321.2.1), Value.int .i64 (y321.2.2)]) (k := 0) rfl (by decide) ?_
               refine L_extract (rfl : _ = Value.tuple #[v328, Value.bool (y321.2.1), Value.int .i64 (y321.2.2)]) (k := 1) rfl (by decide) ?_
               refine L_extract (rfl : _ = Value.tuple #[v328, Value.bool (y321.2.1), Value.int .i64 (y321.2.2)]) (k := 2) rfl (by decide) ?_
               refine L_assign (rfl : _ = v328) (by decide) ?_
               refine L_assign (rfl : _ = Value.bool (y321.2.1)) (by decide) ?_
               refine L_assign (rfl : _ = Value.int .i64 (y321.2.2)) (by decide) ?_
               refine L_nil ?_
               refine then_n ?_
               refine W_seq ?_
               refine W_region ?_
               refine L_move (rfl : _ = Value.int .i64 (y321.2.2)) (by decide) ?_
               refine L_eql (rfl : _ = Value.int .i64 (y321.2.2)) (rfl : _ = Value.int .i64 (0)) (by decide) ?_
               refine L_nil ?_
               refine then_n ?_
               refine W_cond _ (rfl : _ = Value.bool (decide (y321.2.2 = 0))) (fun hb334 => ?_) (fun hb334 => ?_)
               ·have hr := ite_t hb334 hr
                refine W_seq ?_
                refine W_region ?_
                refine L_move q307 (by decide) ?_
                refine L_assign (rfl : _ = v306) (by decide) ?_
                refine L_assign (rfl : _ = Value.bool (true)) (by decide) ?_
                refine L_nil ?_
                refine then_n ?_
                refine W_exit ?_
                refine block_x (by decide) ?_
                refine then_x ?_
                refine then_x ?_
                refine block_here ?_
                exact then_n ⟨s326, v306, ((([] : List Int) ++ x152) ++ ([Int.tmod (Int.tmod y146.n (a0.length : Int) + x155) (a0.length : Int)] : List Int)), true, rfl, hE327, (l165.trans (hT300.le.trans e324.le)), Option.some.inj hr, rfl, ((hv308).ext e324).toV, rfl, ha309, ha310, ha311, ha312, ha316⟩
               ·have hr := ite_f hb334 hr
                refine W_skip ?_
                refine block_n ?_
                refine then_n ?_
                refine W_region ?_
                obtain ⟨hc335, hr⟩ := chk_some hr
                refine L_add ha318 (rfl : _ = Value.int .i64 (1)) hc335 (by decide) ?_
                refine L_move (rfl : _ = Value.int .i64 (x155 + 1)) (by decide) ?_
                refine L_nil ?_
                exact then_n ⟨m161, Nat.lt_succ_self _, ⟨s326, v153, x152, x154, (x155 + 1), rfl, hE327, (l165.trans (hT300.le.trans e324.le)), hr, ha313, (hv168.mono (hT300.le.trans e324.le)), ha315, rfl, ha309, ha310, ha311, ha312, ha314, ha316, ha317⟩⟩
             ·have hr := ite_f hb169 hr
              refine W_exit ?_
              refine then_x ?_
              refine then_x ?_
              refine block_here ?_
              exact then_n ⟨s164, v153, x152, x154, rfl, hE166, l165, Option.some.inj hr, g167_15, hv168, g167_21, g167_0, g167_1, g167_2, g167_7, g167_83⟩
           ·rintro f336 w337 ⟨s340, v157, x156, x158, rfl, hE342, l341, ho160, g343_15, hv344, g343_21, g343_0, g343_1, g343_2, g343_7, g343_83⟩
            subst ho160
            have hr := hq162
            try dsimp only at hr
            refine then_n ?_
            refine W_seq ?_
            refine W_region ?_
            refine L_move g343_21 (by decide) ?_
            refine L_not (rfl : _ = Value.bool (x158)) (by decide) ?_
            refine L_nil ?_
            refine then_n ?_
            refine W_cond _ (rfl : _ = Value.bool (!x158)) (fun hb345 => ?_) (fun hb345 => ?_)
            ·have hr := ite_t hb345 hr
             refine W_seq ?_
             refine W_region ?_
             refine L_assign (rfl : _ = Value.bool (false)) (by decide) ?_
             refine L_nil ?_
             refine then_n ?_
             refine W_ret ?_
             refine block_r ?_
             refine then_r ?_
             refine then_r ?_
             refine block_r ?_
             obtain rfl := Option.some.inj hr
             have hr := hq94
             try dsimp only at hr
             refine then_r ?_
             refine then_r ?_
             obtain rfl := Option.some.inj hr
             exact done1 (Or.inl rfl) Try.results5 rfl ⟨_, _, rfl, rfl, hE342, Vbool⟩
            ·have hr := ite_f hb345 hr
             refine W_skip ?_
             refine block_n ?_
             refine then_n ?_
             refine W_region ?_
             obtain ⟨hc346, hr⟩ := chk_some hr
             refine L_add g343_83 (rfl : _ = Value.int .i64 (1)) hc346 (by decide) ?_
             refine L_move (rfl : _ = Value.int .i64 (x90 + 1)) (by decide) ?_
             refine L_nil ?_
             exact then_n ⟨m93, Nat.lt_succ_self _, ⟨s340, v157, x156, (x90 + 1), rfl, hE342, (l97.trans (e107.le.trans l341)), hr, g343_15, hv344, rfl, g343_0, g343_1, g343_2, g343_7⟩⟩
          ·have hr := ite_f hb144 hr
           refine W_skip ?_
           refine then_n ?_
           refine W_seq ?_
           refine W_region ?_
           refine L_assign (rfl : _ = Value.bool (false)) (by decide) ?_
           refine L_nil ?_
           refine then_n ?_
           refine W_seq ?_
           refine W_seq ?_
           refine W_region ?_
           refine L_move g99_0 (by decide) ?_
           refine L_len Try.underlying29 (rfl : _ = w0) (h0.mono (l14.trans (e30.le.trans (e45.le.trans (e58.le.trans (l84.trans (l97.trans e107.le))))))) (by decide) ?_
           refine L_move (rfl : _ = Value.int .i64 (0)) (by decide) ?_
           refine L_nil ?_
           refine then_n ?_
           obtain ⟨o354, ho355, hq357⟩ := bind_some hr
           refine W_cut (fun f w => ∃ (s : St) (v352 : Value) (x351 : List Int) (x353 : Bool), s.w = w ∧ Ext s0 s ∧ Le s109 s ∧ (x351, x353) = o354 ∧ f 15 = v352 ∧ V s v352 x351 ∧ f 21 = Value.bool x353 ∧ f 0 = w0 ∧ f 1 = Value.int .u8 (a1).n ∧ f 2 = w2 ∧ f 7 = v34 ∧ f 83 = Value.int .i64 (x90)) ?_ ?_
           ·refine W_block ?_
            refine W_loop (fun m f w => ∃ (s : St) (v348 : Value) (x347 : List Int) (x349 : Bool) (x350 : Int), s.w = w ∧ Ext s0 s ∧ Le s109 s ∧ law08_DeadSchedules_l3 N a0 a1 m x347 x349 x350 = some o354 ∧ f 15 = v348 ∧ V s v348 x347 ∧ f 21 = Value.bool x349 ∧ f 121 = Value.int .i64 x350 ∧ f 0 = w0 ∧ f 1 = Value.int .u8 (a1).n ∧ f 2 = w2 ∧ f 7 = v34 ∧ f 20 = Value.int .i64 (0) ∧ f 83 = Value.int .i64 (x90) ∧ f 120 = Value.int .i64 ((a0.length : Int))) N ⟨s109, v89, x88, false, 0, rfl, hE110, (Le.refl _), ho355, g99_15, (hv100.mono e107.le), rfl, rfl, g99_0, g99_1, g99_2, g99_7, rfl, g99_83, rfl⟩ ?_
            rintro m356 f533 w534 ⟨s359, v348, x347, x349, x350, rfl, hE361, l360, hr, g362_15, hv363, g362_21, g362_121, g362_0, g362_1, g362_2, g362_7, g362_20, g362_83, g362_120⟩
            cases m356 with
            | zero => exact absurd hr (by simp [law08_DeadSchedules_l3])
            | succ m356 =>
             rw [law08_DeadSchedules_l3.eq_2] at hr
             refine W_seq ?_
             refine W_region ?_
             refine L_lss g362_121 g362_120 (by decide) ?_
             refine L_nil ?_
             refine then_n ?_
             refine W_seq ?_
             refine W_cond _ (rfl : _ = Value.bool (decide (x350 < (a0.length : Int)))) (fun hb364 => ?_) (fun hb364 => ?_)
             ·have hr := ite_t hb364 hr
              refine W_skip ?_
              refine then_n ?_
              refine W_seq ?_
              refine W_block ?_
              refine W_seq ?_
              refine W_region ?_
              refine L_move g362_121 (by decide) ?_
              refine L_assign (rfl : _ = Value.int .i64 (x350)) (by decide) ?_
              refine L_nil ?_
              refine then_n ?_
              refine W_seq ?_
              obtain ⟨hc371, hr⟩ := chk_some hr
              obtain ⟨hc376, hr⟩ := chk_some hr
              obtain ⟨hc377, hr⟩ := chk_some hr
              obtain ⟨hc384, hr⟩ := chk_some hr
              refine W_drawP mixed 12 [PX.bld s0.w.heap.size 3 (([] : List Int) : List Int), PX.data (x347 : List Int), PX.bld s0.w.heap.size 3 (([] : List Int) ++ x347 : List Int), PX.eq (Value.int .i64 (0)), PX.eq (Value.int .i64 (x350)), PX.eq (Value.int .i64 (0 + x350)), PX.data (a0 : List (List Deed)), PX.eq (Value.int .i64 ((a0.length : Int))), PX.eq (Value.int .i64 (Int.tmod (0 + x350) (a0.length : Int))), PX.data (([Int.tmod (0 + x350) (a0.length : Int)] : List Int) : List Int), PX.bld s0.w.heap.size 3 ((([] : List Int) ++ x347) ++ ([Int.tmod (0 + x350) (a0.length : Int)] : List Int) : List Int), PX.bld s0.w.heap.size 3 ((([] : List Int) ++ x347) ++ ([Int.tmod (0 + x350) (a0.length : Int)] : List Int) : List Int)] [124, 125, 126, 127, 128, 129, 130, 131, 132, 133, 134, 23] [[], [], [0], [], [], [], [], [], [], [], [2], [10]] rfl (by kernel_rfl) (ent0 rfl) (dis0 rfl) (StepsX_cons ?_ (StepsX_cons ?_ (StepsX_cons ?_ (StepsX_cons ?_ (StepsX_cons ?_ (StepsX_cons ?_ (StepsX_cons ?_ (StepsX_cons ?_ (StepsX_cons ?_ (StepsX_cons ?_ (StepsX_cons ?_ (StepsX_cons ?_ StepsX_nil)))))))))))) ?_
              ·intro f391 s389 hT390 hA392 hB393 Q hk394
               refine L_buildSlice (xs := ([] : List Int)) Try.underlying23 tyz3 Parts_nil Vs.nil rfl (by decide) (by decide) ?_
               intro s369 v366 e365 hb367 hv368
               have hE370 := Tch.ext (Ext.refl s389) e365
               exact L_nil (hk394 _ _ No hE370 (fun _ h => h.elim) (hb367.base (Nat.le_trans hE361.size hT390.size)) (fun k h => Or.inr ((hb367.lt h).1)))
              ·intro f397 s395 hT396 hA398 hB399 Q hk400
               have ha401 : f397 15 = v348 := (hB399 15 (by kernel_rfl)).trans g362_15
               refine L_move ha401 (by decide) ?_
               exact L_nil (hk400 _ _ No (Ext.refl s395) (fun _ h => h.elim) (hv363.mono hT396.le) (fun _ h => h.elim))
              ·intro f404 s402 hT403 hA405 hB406 Q hk407
               obtain ⟨v409, q410, hv411⟩ : ∃ v, f404 124 = v ∧ Bld s402 s0.w.heap.size 3 v (([] : List Int) : List Int) := ⟨_, rfl, hA405 0 (by kernel_rfl) (by show _ < 12; decide)⟩
               have ha412 : V _ (f404 125) (x347 : List Int) := hA405 1 (by kernel_rfl) (by show _ < 12; decide)
               obtain ⟨v413, q414, hv415⟩ : ∃ v, _ = v ∧ V _ v _ := ⟨_, rfl, ha412⟩
               refine L_append (xs := ([] : List Int)) (B := s0.w.heap.size) Try.underlying23 tyz3 q410 q414 (hv411) (Nat.le_trans hE361.size hT403.size) hv415 hc371.1 hc371.2 (by decide) ?_
               intro v372 s374 g373
               exact L_nil (hk407 _ _ _ g373.tch (fun k h => ⟨0, (List.mem_singleton.2 rfl : (0 : Nat) ∈ [0]), (by show own (f404 124) k; rw [q410]; exact h)⟩) g373.bld (fun k h => (g373.own k h).imp (fun h => ⟨0, (List.mem_singleton.2 rfl : (0 : Nat) ∈ [0]), (by show own (f404 124) k; rw [q410]; exact h)⟩) (fun h => h)))
              ·intro f418 s416 hT417 hA419 hB420 Q hk421
               have ha422 : f418 20 = Value.int .i64 (0) := (hB420 20 (by kernel_rfl)).trans g362_20
               refine L_move ha422 (by decide) ?_
               exact L_nil (hk421 _ _ No (Ext.refl s416) (fun _ h => h.elim) rfl (fun _ h => h.elim))
              ·intro f425 s423 hT424 hA426 hB427 Q hk428
               have ha429 : f425 22 = Value.int .i64 (x350) := (hB427 22 (by kernel_rfl)).trans rfl
               refine L_move ha429 (by decide) ?_
               exact L_nil (hk428 _ _ No (Ext.refl s423) (fun _ h => h.elim) rfl (fun _ h => h.elim))
              ·intro f432 s430 hT431 hA433 hB434 Q hk435
               have ha436 : f432 127 = Value.int .i64 (0) := hA433 3 (by kernel_rfl) (by show _ < 12; decide)
               have ha437 : f432 128 = Value.int .i64 (x350) := hA433 4 (by kernel_rfl) (by show _ < 12; decide)
               refine L_add ha436 ha437 hc376 (by decide) ?_
               exact L_nil (hk435 _ _ No (Ext.refl s430) (fun _ h => h.elim) rfl (fun _ h => h.elim))
              ·intro f440 s438 hT439 hA441 hB442 Q hk443
               have ha444 : f440 0 = w0 := (hB442 0 (by kernel_rfl)).trans g362_0
               refine L_move ha444 (by decide) ?_
               exact L_nil (hk443 _ _ No (Ext.refl s438) (fun _ h => h.elim) (h0.mono (l14.trans (e30.le.trans (e45.le.trans (e58.le.trans (l84.trans (l97.trans (e107.le.trans (l360.trans hT439.le))))))))) (fun _ h => h.elim))
              ·intro f447 s445 hT446 hA448 hB449 Q hk450
               have ha451 : V _ (f447 130) (a0 : List (List Deed)) := hA448 6 (by kernel_rfl) (by show _ < 12; decide)
               obtain ⟨v452, q453, hv454⟩ : ∃ v, _ = v ∧ V _ v _ := ⟨_, rfl, ha451⟩
               refine L_len Try.underlying29 q453 hv454 (by decide) ?_
               exact L_nil (hk450 _ _ No (Ext.refl s445) (fun _ h => h.elim) rfl (fun _ h => h.elim))
              ·intro f457 s455 hT456 hA458 hB459 Q hk460
               have ha461 : f457 129 = Value.int .i64 (0 + x350) := hA458 5 (by kernel_rfl) (by show _ < 12; decide)
               have ha462 : f457 131 = Value.int .i64 ((a0.length : Int)) := hA458 7 (by kernel_rfl) (by show _ < 12; decide)
               refine L_rem ha461 ha462 hc377 (by decide) ?_
               exact L_nil (hk460 _ _ No (Ext.refl s455) (fun _ h => h.elim) rfl (fun _ h => h.elim))
              ·intro f465 s463 hT464 hA466 hB467 Q hk468
               have ha469 : f465 132 = Value.int .i64 (Int.tmod (0 + x350) (a0.length : Int)) := hA466 8 (by kernel_rfl) (by show _ < 12; decide)
               refine L_buildSlice (xs := ([Int.tmod (0 + x350) (a0.length : Int)] : List Int)) Try.underlying23 tyz3 (Parts_cons rfl ha469 Parts_nil) (Vs.cons Vint Vs.nil) rfl (by decide) (by decide) ?_
               intro s382 v379 e378 hb380 hv381
               have hE383 := Tch.ext (Ext.refl s463) e378
               exact L_nil (hk468 _ _ No hE383 (fun _ h => h.elim) hv381 (fun _ h => h.elim))
              ·intro f472 s470 hT471 hA473 hB474 Q hk475
               obtain ⟨v477, q478, hv479⟩ : ∃ v, f472 126 = v ∧ Bld s470 s0.w.heap.size 3 v (([] : List Int) ++ x347 : List Int) := ⟨_, rfl, hA473 2 (by kernel_rfl) (by show _ < 12; decide)⟩
               have ha480 : V _ (f472 133) (([Int.tmod (0 + x350) (a0.length : Int)] : List Int) : List Int) := hA473 9 (by kernel_rfl) (by show _ < 12; decide)
               obtain ⟨v481, q482, hv483⟩ : ∃ v, _ = v ∧ V _ v _ := ⟨_, rfl, ha480⟩
               refine L_append (xs := (([] : List Int) ++ x347)) (B := s0.w.heap.size) Try.underlying23 tyz3 q478 q482 (hv479) (Nat.le_trans hE361.size hT471.size) hv483 hc384.1 hc384.2 (by decide) ?_
               intro v385 s387 g386
               exact L_nil (hk475 _ _ _ g386.tch (fun k h => ⟨2, (List.mem_singleton.2 rfl : (2 : Nat) ∈ [2]), (by show own (f472 126) k; rw [q478]; exact h)⟩) g386.bld (fun k h => (g386.own k h).imp (fun h => ⟨2, (List.mem_singleton.2 rfl : (2 : Nat) ∈ [2]), (by show own (f472 126) k; rw [q478]; exact h)⟩) (fun h => h)))
              ·intro f486 s484 hT485 hA487 hB488 Q hk489
               obtain ⟨v491, q492, hv493⟩ : ∃ v, f486 134 = v ∧ Bld s484 s0.w.heap.size 3 v ((([] : List Int) ++ x347) ++ ([Int.tmod (0 + x350) (a0.length : Int)] : List Int) : List Int) := ⟨_, rfl, hA487 10 (by kernel_rfl) (by show _ < 12; decide)⟩
               refine L_assign q492 (by decide) ?_
               exact L_nil (hk489 _ _ No (Ext.refl s484) (fun _ h => h.elim) hv493 (fun k h => Or.inl ⟨10, (List.mem_singleton.2 rfl : (10 : Nat) ∈ [10]), (by show own (f486 134) k; rw [q492]; exact h)⟩))
              ·intro f496 s494 hT495 hP497 hD498 hB499
               have hE500 := Tch.trans hE361 hT495 (fun k h => absurd h (ent_none (k := 12) rfl rfl k))
               obtain ⟨v501, q502, hv503⟩ : ∃ v, f496 23 = v ∧ Bld s494 s0.w.heap.size 3 v ((([] : List Int) ++ x347) ++ ([Int.tmod (0 + x350) (a0.length : Int)] : List Int) : List Int) := ⟨_, rfl, hP497 11 (by show _ < 12; decide) (by kernel_rfl)⟩
               have ha504 : f496 0 = w0 := (hB499 0 (by kernel_rfl)).trans g362_0
               have ha505 : f496 1 = Value.int .u8 (a1).n := (hB499 1 (by kernel_rfl)).trans g362_1
               have ha506 : f496 2 = w2 := (hB499 2 (by kernel_rfl)).trans g362_2
               have ha507 : f496 7 = v34 := (hB499 7 (by kernel_rfl)).trans g362_7
               have ha508 : f496 15 = v348 := (hB499 15 (by kernel_rfl)).trans g362_15
               have ha509 : f496 20 = Value.int .i64 (0) := (hB499 20 (by kernel_rfl)).trans g362_20
               have ha510 : f496 21 = Value.bool (x349) := (hB499 21 (by kernel_rfl)).trans g362_21
               have ha511 : f496 83 = Value.int .i64 (x90) := (hB499 83 (by kernel_rfl)).trans g362_83
               have ha512 : f496 120 = Value.int .i64 ((a0.length : Int)) := (hB499 120 (by kernel_rfl)).trans g362_120
               have ha513 : f496 121 = Value.int .i64 (x350) := (hB499 121 (by kernel_rfl)).trans g362_121
               refine then_n ?_
               refine W_seq ?_
               refine W_region ?_
               refine L_move ha504 (by decide) ?_
               refine L_move ha505 (by decide) ?_
               obtain ⟨hc514, hr⟩ := chk_some hr
               refine L_convert_i64 Try.underlying5 Try.underlying3 (rfl : _ = Value.int .u8 (a1).n) hc514 (by decide) ?_
               obtain ⟨hc515, hr⟩ := chk_some hr
               refine L_rem (rfl : _ = Value.int .i64 (a1.n)) (rfl : _ = Value.int .i64 (6)) hc515 (by decide) ?_
               refine L_move q502 (by decide) ?_
               obtain ⟨y516, hy517, hr⟩ := bind_some hr
               refine L_calls cal11 (args3 (rfl : _ = w0) (rfl : _ = Value.int .i64 (Int.tmod a1.n 6)) (rfl : _ = v501)) (dead_Follow_ok N _ _ _ (h0.mono (l14.trans (e30.le.trans (e45.le.trans (e58.le.trans (l84.trans (l97.trans (e107.le.trans (l360.trans hT495.le))))))))) (Int.tmod a1.n 6) _ _ (hv503).toV y516 hy517) (by decide) ?_
               intro v518 s521 e519 hv520
               have hE522 := Tch.ext hE500 e519
               obtain ⟨v523, v524, v525, rfl, hv526, hv527, hv528⟩ := hv520
               obtain rfl := hv527.bool
               obtain rfl := hv528.int
               refine L_move (rfl : _ = Value.tuple #[v523, Value.bool (y516.2.1), Value.int .i64 (y516.2.2)]) (by decide) ?_
               refine L_extract (rfl : _ = Value.tuple #[v523, Value.bool (y516.2.1), Value.int .i64 (y516.2.2)]) (k := 0) rfl (by decide) ?_
               refine L_extract (rfl : _ = Value.tuple #[v523, Value.bool (y516.2.1), Value.int .i64 (y516.2.2)]) (k := 1) rfl (by decide) ?_
               refine L_extract (rfl : _ = Value.tuple #[v523, Value.bool (y516.2.1), Value.int .i64 (y516.2.2)]) (k := 2) rfl (by decide) ?_
               refine L_assign (rfl : _ = v523) (by decide) ?_
               refine L_assign (rfl : _ = Value.bool (y516.2.1)) (by decide) ?_
               refine L_assign (rfl : _ = Value.int .i64 (y516.2.2)) (by decide) ?_
               refine L_nil ?_
               refine then_n ?_
               refine W_seq ?_
               refine W_region ?_
               refine L_move (rfl : _ = Value.int .i64 (y516.2.2)) (by decide) ?_
               refine L_eql (rfl : _ = Value.int .i64 (y516.2.2)) (rfl : _ = Value.int .i64 (0)) (by decide) ?_
               refine L_nil ?_
               refine then_n ?_
               refine W_cond _ (rfl : _ = Value.bool (decide (y516.2.2 = 0))) (fun hb529 => ?_) (fun hb529 => ?_)
               ·have hr := ite_t hb529 hr
                refine W_seq ?_
                refine W_region ?_
                refine L_move q502 (by decide) ?_
                refine L_assign (rfl : _ = v501) (by decide) ?_
                refine L_assign (rfl : _ = Value.bool (true)) (by decide) ?_
                refine L_nil ?_
                refine then_n ?_
                refine W_exit ?_
                refine block_x (by decide) ?_
                refine then_x ?_
                refine then_x ?_
                refine block_here ?_
                exact then_n ⟨s521, v501, ((([] : List Int) ++ x347) ++ ([Int.tmod (0 + x350) (a0.length : Int)] : List Int)), true, rfl, hE522, (l360.trans (hT495.le.trans e519.le)), Option.some.inj hr, rfl, ((hv503).ext e519).toV, rfl, ha504, ha505, ha506, ha507, ha511⟩
               ·have hr := ite_f hb529 hr
                refine W_skip ?_
                refine block_n ?_
                refine then_n ?_
                refine W_region ?_
                obtain ⟨hc530, hr⟩ := chk_some hr
                refine L_add ha513 (rfl : _ = Value.int .i64 (1)) hc530 (by decide) ?_
                refine L_move (rfl : _ = Value.int .i64 (x350 + 1)) (by decide) ?_
                refine L_nil ?_
                exact then_n ⟨m356, Nat.lt_succ_self _, ⟨s521, v348, x347, x349, (x350 + 1), rfl, hE522, (l360.trans (hT495.le.trans e519.le)), hr, ha508, (hv363.mono (hT495.le.trans e519.le)), ha510, rfl, ha504, ha505, ha506, ha507, ha509, ha511, ha512⟩⟩
             ·have hr := ite_f hb364 hr
              refine W_exit ?_
              refine then_x ?_
              refine then_x ?_
              refine block_here ?_
              exact then_n ⟨s359, v348, x347, x349, rfl, hE361, l360, Option.some.inj hr, g362_15, hv363, g362_21, g362_0, g362_1, g362_2, g362_7, g362_83⟩
           ·rintro f531 w532 ⟨s535, v352, x351, x353, rfl, hE537, l536, ho355, g538_15, hv539, g538_21, g538_0, g538_1, g538_2, g538_7, g538_83⟩
            subst ho355
            have hr := hq357
            try dsimp only at hr
            refine then_n ?_
            refine W_seq ?_
            refine W_region ?_
            refine L_move g538_21 (by decide) ?_
            refine L_not (rfl : _ = Value.bool (x353)) (by decide) ?_
            refine L_nil ?_
            refine then_n ?_
            refine W_cond _ (rfl : _ = Value.bool (!x353)) (fun hb540 => ?_) (fun hb540 => ?_)
            ·have hr := ite_t hb540 hr
             refine W_seq ?_
             refine W_region ?_
             refine L_assign (rfl : _ = Value.bool (false)) (by decide) ?_
             refine L_nil ?_
             refine then_n ?_
             refine W_ret ?_
             refine block_r ?_
             refine then_r ?_
             refine then_r ?_
             refine block_r ?_
             obtain rfl := Option.some.inj hr
             have hr := hq94
             try dsimp only at hr
             refine then_r ?_
             refine then_r ?_
             obtain rfl := Option.some.inj hr
             exact done1 (Or.inl rfl) Try.results5 rfl ⟨_, _, rfl, rfl, hE537, Vbool⟩
            ·have hr := ite_f hb540 hr
             refine W_skip ?_
             refine block_n ?_
             refine then_n ?_
             refine W_region ?_
             obtain ⟨hc541, hr⟩ := chk_some hr
             refine L_add g538_83 (rfl : _ = Value.int .i64 (1)) hc541 (by decide) ?_
             refine L_move (rfl : _ = Value.int .i64 (x90 + 1)) (by decide) ?_
             refine L_nil ?_
             exact then_n ⟨m93, Nat.lt_succ_self _, ⟨s535, v352, x351, (x90 + 1), rfl, hE537, (l97.trans (e107.le.trans l536)), hr, g538_15, hv539, rfl, g538_0, g538_1, g538_2, g538_7⟩⟩
       ·have hr := ite_f hb101 hr
        refine W_exit ?_
        refine then_x ?_
        refine then_x ?_
        refine block_here ?_
        exact then_n ⟨s96, rfl, hE98, l97, Option.some.inj hr⟩
     ·rintro f542 w543 ⟨s546, rfl, hE548, l547, ho92⟩
      subst ho92
      have hr := hq94
      try dsimp only at hr
      refine then_n ?_
      refine W_seq ?_
      refine W_region ?_
      refine L_assign (rfl : _ = Value.bool (false)) (by decide) ?_
      refine L_nil ?_
      refine then_n ?_
      refine W_ret ?_
      obtain rfl := Option.some.inj hr
      exact done1 (Or.inl rfl) Try.results5 rfl ⟨_, _, rfl, rfl, hE548, Vbool⟩

end Go.Arm
