/- Each function of the program computes what its plain function says. -/
import Derived.Test.YtmojccilbgjngaaPureT5
namespace Go.Arm
open Go Go.RowKit Go.Proofs
theorem dead_begins_ok (N : Nat) (s0 : St) (w0 : Value) (a0 : Deed) (h0 : V s0 w0 a0) (r : Bool) (hr : dead_begins N a0 = some r) :
  Calls Try.prog 75 #[w0] s0.w (Ret s0 fun v s => V s v r) := by
 unfold dead_begins at hr
 have hE0 := Ext.refl s0
 refine Calls_of (n := 11) (args := [w0]) Try.func75 rfl rfl (by simp) ?_
 refine W_seq ?_
 refine W_region ?_
 refine L_box (rfl : _ = w0) h0 (by decide) ?_
 intro s4 p2 e1 hp3
 have hE5 := Tch.ext hE0 e1
 refine L_assign (rfl : _ = Value.bool (false)) (by decide) ?_
 refine L_nil ?_
 refine then_n ?_
 refine W_seq ?_
 refine W_region ?_
 refine L_fieldAddr fld64_0 Deed.of_Kind (rfl : _ = p2) hp3 (by decide) ?_
 intro p6 hp7
 refine L_load_int ty3 (rfl : _ = p6) hp7 (by decide) ?_
 refine L_eql (rfl : _ = Value.int .i64 (a0.Kind)) (rfl : _ = Value.int .i64 (3)) (by decide) ?_
 refine L_move (rfl : _ = Value.bool (decide (a0.Kind = 3))) (by decide) ?_
 rcases Bool.eq_false_or_eq_true (decide (a0.Kind = 3)) with hb8 | hb8
 ·have hr := ite_t hb8 hr
  refine L_gf (e := 6) (by rfl) (by decide) (rfl : _ = Value.bool (decide (a0.Kind = 3))) hb8 (by decide) ?_
  refine L_gf (e := 6) (by rfl) (by decide) (rfl : _ = Value.bool (decide (a0.Kind = 3))) hb8 (by decide) ?_
  refine L_gf (e := 6) (by rfl) (by decide) (rfl : _ = Value.bool (decide (a0.Kind = 3))) hb8 (by decide) ?_
  refine L_pick_t (rfl : _ = Value.bool (decide (a0.Kind = 3))) hb8 (rfl : _ = Value.bool (true)) (by decide) ?_
  refine L_assign (rfl : _ = Value.bool (true)) (by decide) ?_
  refine L_nil ?_
  refine then_n ?_
  refine W_ret ?_
  obtain rfl := Option.some.inj hr
  exact done1 (Or.inl rfl) Try.results75 rfl ⟨_, _, rfl, rfl, hE5, Vbool⟩
 ·have hr := ite_f hb8 hr
  refine L_gt (e := 6) (by rfl) (by decide) (rfl : _ = Value.bool (decide (a0.Kind = 3))) hb8 ?_
  refine L_fieldAddr fld64_0 Deed.of_Kind (rfl : _ = p2) hp3 (by decide) ?_
  intro p9 hp10
  refine L_gt (e := 6) (by rfl) (by decide) (rfl : _ = Value.bool (decide (a0.Kind = 3))) hb8 ?_
  refine L_load_int ty3 (rfl : _ = p9) hp10 (by decide) ?_
  refine L_gt (e := 6) (by rfl) (by decide) (rfl : _ = Value.bool (decide (a0.Kind = 3))) hb8 ?_
  refine L_eql (rfl : _ = Value.int .i64 (a0.Kind)) (rfl : _ = Value.int .i64 (4)) (by decide) ?_
  refine L_pick_f (rfl : _ = Value.bool (decide (a0.Kind = 3))) hb8 (rfl : _ = Value.bool (decide (a0.Kind = 4))) (by decide) ?_
  refine L_assign (rfl : _ = Value.bool (decide (a0.Kind = 4))) (by decide) ?_
  refine L_nil ?_
  refine then_n ?_
  refine W_ret ?_
  obtain rfl := Option.some.inj hr
  exact done1 (Or.inl rfl) Try.results75 rfl ⟨_, _, rfl, rfl, hE5, Vbool⟩

theorem dead_count_lang_Deed_ok (N : Nat) (s0 : St) (w0 : Value) (a0 : List Deed) (h0 : V s0 w0 a0) (w1 : Value) (a1 : Deed → Option Bool) (h1 : Fn1 Try.prog s0 w1 a1) (r : Int) (hr : dead_count_lang_Deed N a0 a1 = some r) :
  Calls Try.prog 79 #[w0, w1] s0.w (Ret s0 fun v s => V s v r) := by
 unfold dead_count_lang_Deed at hr
 have hE0 := Ext.refl s0
 refine Calls_of (n := 21) (args := [w0, w1]) Try.func79 rfl rfl (by simp) ?_
 refine W_seq ?_
 refine W_region ?_
 refine L_assign (rfl : _ = Value.int .i64 (0)) (by decide) ?_
 refine L_nil ?_
 refine then_n ?_
 refine W_seq ?_
 refine W_region ?_
 refine L_assign (rfl : _ = Value.int .i64 (0)) (by decide) ?_
 refine L_nil ?_
 refine then_n ?_
 refine W_seq ?_
 refine W_seq ?_
 refine W_region ?_
 refine L_move (rfl : _ = w0) (by decide) ?_
 refine L_len Try.underlying59 (rfl : _ = w0) h0 (by decide) ?_
 refine L_move (rfl : _ = Value.int .i64 (0)) (by decide) ?_
 refine L_nil ?_
 refine then_n ?_
 obtain ⟨o4, ho5, hq7⟩ := bind_some hr
 refine W_cut (fun f w => ∃ (s : St) (x3 : Int), s.w = w ∧ Ext s0 s ∧ Le s0 s ∧ x3 = o4 ∧ f 5 = Value.int .i64 x3) ?_ ?_
 ·refine W_block ?_
  refine W_loop (fun m f w => ∃ (s : St) (x1 : Int) (x2 : Int), s.w = w ∧ Ext s0 s ∧ Le s0 s ∧ dead_count_lang_Deed_l1 N a0 a1 m x1 x2 = some o4 ∧ f 5 = Value.int .i64 x1 ∧ f 10 = Value.int .i64 x2 ∧ f 1 = w1 ∧ f 8 = w0 ∧ f 9 = Value.int .i64 ((a0.length : Int))) N ⟨s0, 0, 0, rfl, hE0, (Le.refl _), ho5, rfl, rfl, rfl, rfl, rfl⟩ ?_
  rintro m6 f45 w46 ⟨s9, x1, x2, rfl, hE11, l10, hr, g12_5, g12_10, g12_1, g12_8, g12_9⟩
  cases m6 with
  | zero => exact absurd hr (by simp [dead_count_lang_Deed_l1])
  | succ m6 =>
   rw [dead_count_lang_Deed_l1.eq_2] at hr
   refine W_seq ?_
   refine W_region ?_
   refine L_lss g12_10 g12_9 (by decide) ?_
   refine L_nil ?_
   refine then_n ?_
   refine W_seq ?_
   refine W_cond _ (rfl : _ = Value.bool (decide (x2 < (a0.length : Int)))) (fun hb13 => ?_) (fun hb13 => ?_)
   ·have hr := ite_t hb13 hr
    refine W_skip ?_
    refine then_n ?_
    refine W_seq ?_
    refine W_block ?_
    refine W_seq ?_
    refine W_region ?_
    obtain ⟨y14, hy15, hr⟩ := bind_some hr
    refine L_index Try.underlying59 ty64.inf g12_8 (h0.mono l10) g12_10 hy15 (by decide) ?_
    intro p16 hp17
    refine L_load ty64 (rfl : _ = p16) hp17 (by decide) ?_
    intro v18 hv19
    refine L_alloc (α := Deed) (x := ⟨0, 0, 0, 0, false⟩) zero64 Deed.zero_rel (by decide) ?_
    intro s24 b21 e20 hb22 hv23
    have hE25 := Tch.ext hE11 e20
    refine L_store_ro ty64 (rfl : _ = Value.pointer (some ⟨b21, 0, none⟩)) (rfl : _ = v18) (hv19.mono e20.le) (hv23) ?_
    intro s28 e26 hv27
    have hE29 := Tch.trans hE25 e26 (fun k hk => Or.inr (by subst hk; exact (Nat.le_trans hE11.size hb22)))
    refine L_nil ?_
    refine then_n ?_
    refine W_seq ?_
    refine W_region ?_
    refine L_move g12_1 (by decide) ?_
    refine L_load ty64 (rfl : _ = Value.pointer (some ⟨b21, 0, none⟩)) hv27 (by decide) ?_
    intro v30 hv31
    obtain ⟨y32, hy33, hr⟩ := bind_some hr
    refine L_call1 (rfl : _ = w1) (h1.mono (l10.trans (e20.le.trans e26.le))) (rfl : _ = v30) hv31 hy33 (by decide) ?_
    intro v34 s37 e35 hv36
    have hE38 := Tch.ext hE29 e35
    obtain rfl := hv36.bool
    refine L_nil ?_
    refine then_n ?_
    refine W_cond _ (rfl : _ = Value.bool (y32)) (fun hb39 => ?_) (fun hb39 => ?_)
    ·have hr := ite_t hb39 hr
     refine W_region ?_
     refine L_move g12_5 (by decide) ?_
     obtain ⟨hc40, hr⟩ := chk_some hr
     refine L_add (rfl : _ = Value.int .i64 (x1)) (rfl : _ = Value.int .i64 (1)) hc40 (by decide) ?_
     refine L_assign (rfl : _ = Value.int .i64 (x1 + 1)) (by decide) ?_
     refine L_nil ?_
     refine block_n ?_
     refine then_n ?_
     refine W_region ?_
     obtain ⟨hc41, hr⟩ := chk_some hr
     refine L_add g12_10 (rfl : _ = Value.int .i64 (1)) hc41 (by decide) ?_
     refine L_move (rfl : _ = Value.int .i64 (x2 + 1)) (by decide) ?_
     refine L_nil ?_
     exact then_n ⟨m6, Nat.lt_succ_self _, ⟨s37, (x1 + 1), (x2 + 1), rfl, hE38, (l10.trans (e20.le.trans (e26.le.trans e35.le))), hr, rfl, rfl, g12_1, g12_8, g12_9⟩⟩
    ·have hr := ite_f hb39 hr
     refine W_skip ?_
     refine block_n ?_
     refine then_n ?_
     refine W_region ?_
     obtain ⟨hc42, hr⟩ := chk_some hr
     refine L_add g12_10 (rfl : _ = Value.int .i64 (1)) hc42 (by decide) ?_
     refine L_move (rfl : _ = Value.int .i64 (x2 + 1)) (by decide) ?_
     refine L_nil ?_
     exact then_n ⟨m6, Nat.lt_succ_self _, ⟨s37, x1, (x2 + 1), rfl, hE38, (l10.trans (e20.le.trans (e26.le.trans e35.le))), hr, g12_5, rfl, g12_1, g12_8, g12_9⟩⟩
   ·have hr := ite_f hb13 hr
    refine W_exit ?_
    refine then_x ?_
    refine then_x ?_
    refine block_here ?_
    exact then_n ⟨s9, x1, rfl, hE11, l10, Option.some.inj hr, g12_5⟩
 ·rintro f43 w44 ⟨s47, x3, rfl, hE49, l48, ho5, g50_5⟩
  subst ho5
  have hr := hq7
  try dsimp only at hr
  refine then_n ?_
  refine W_seq ?_
  refine W_region ?_
  refine L_move g50_5 (by decide) ?_
  refine L_assign (rfl : _ = Value.int .i64 (x3)) (by decide) ?_
  refine L_nil ?_
  refine then_n ?_
  refine W_ret ?_
  obtain rfl := Option.some.inj hr
  exact done1 (Or.inl rfl) Try.results79 rfl ⟨_, _, rfl, rfl, hE49, Vint⟩

theorem slices_Index_Llang_Deed_lang_Deed_ok (N : Nat) (s0 : St) (w0 : Value) (a0 : List Deed) (h0 : V s0 w0 a0) (w1 : Value) (a1 : Deed) (h1 : V s0 w1 a1) (r : Int) (hr : slices_Index_Llang_Deed_lang_Deed N a0 a1 = some r) :
  Calls Try.prog 88 #[w0, w1] s0.w (Ret s0 fun v s => V s v r) := by
 unfold slices_Index_Llang_Deed_lang_Deed at hr
 have hE0 := Ext.refl s0
 refine Calls_of (n := 19) (args := [w0, w1]) Try.func88 rfl rfl (by simp) ?_
 refine W_seq ?_
 refine W_region ?_
 refine L_box (rfl : _ = w1) h1 (by decide) ?_
 intro s4 p2 e1 hp3
 have hE5 := Tch.ext hE0 e1
 refine L_assign (rfl : _ = Value.int .i64 (0)) (by decide) ?_
 refine L_nil ?_
 refine then_n ?_
 refine W_seq ?_
 refine W_seq ?_
 refine W_region ?_
 refine L_move (rfl : _ = w0) (by decide) ?_
 refine L_len Try.underlying59 (rfl : _ = w0) (h0.mono e1.le) (by decide) ?_
 refine L_move (rfl : _ = Value.int .i64 (0)) (by decide) ?_
 refine L_nil ?_
 refine then_n ?_
 obtain ⟨o7, ho8, hq10⟩ := bind_some hr
 refine W_cut (fun f w => ∃ (s : St), s.w = w ∧ Ext s0 s ∧ Le s4 s ∧ Sum.inl () = o7) ?_ ?_
 ·refine W_block ?_
  refine W_loop (fun m f w => ∃ (s : St) (x6 : Int), s.w = w ∧ Ext s0 s ∧ Le s4 s ∧ slices_Index_Llang_Deed_lang_Deed_l1 N a0 a1 m x6 = some o7 ∧ f 8 = Value.int .i64 x6 ∧ f 0 = w0 ∧ f 3 = p2 ∧ f 7 = Value.int .i64 ((a0.length : Int))) N ⟨s4, 0, rfl, hE5, (Le.refl _), ho8, rfl, rfl, rfl, rfl⟩ ?_
  rintro m9 f97 w98 ⟨s12, x6, rfl, hE14, l13, hr, g15_8, g15_0, g15_3, g15_7⟩
  cases m9 with
  | zero => exact absurd hr (by simp [slices_Index_Llang_Deed_lang_Deed_l1])
  | succ m9 =>
   rw [slices_Index_Llang_Deed_lang_Deed_l1.eq_2] at hr
   refine W_seq ?_
   refine W_region ?_
   refine L_lss g15_8 g15_7 (by decide) ?_
   refine L_nil ?_
   refine then_n ?_
   refine W_seq ?_
   refine W_cond _ (rfl : _ = Value.bool (decide (x6 < (a0.length : Int)))) (fun hb16 => ?_) (fun hb16 => ?_)
   ·have hr := ite_t hb16 hr
    refine W_skip ?_
    refine then_n ?_
    refine W_seq ?_
    refine W_block ?_
    refine W_seq ?_
    refine W_region ?_
    refine L_move g15_8 (by decide) ?_
    refine L_assign (rfl : _ = Value.int .i64 (x6)) (by decide) ?_
    refine L_nil ?_
    refine then_n ?_
    refine W_seq ?_
    obtain ⟨y19, hy20, hr⟩ := bind_some hr
    refine W_draws mixed (by kernel_rfl) [PV.data (a1 : Deed), PV.data (a0 : List Deed), PV.eq (Value.int .i64 (x6)), PV.ptr (y19 : Deed), PV.data (y19 : Deed), PV.eq (Value.bool (decide (a1 = y19)))] (Steps_cons ?_ (Steps_cons ?_ (Steps_cons ?_ (Steps_cons ?_ (Steps_cons ?_ (Steps_cons ?_ Steps_nil)))))) ?_
    ·intro f27 s25 e26 hA28 hB29 Q hk30
     have ha31 : f27 3 = p2 := (hB29 3 (by kernel_rfl)).trans g15_3
     refine L_load ty64 ha31 (hp3.mono (l13.trans e26.le)) (by decide) ?_
     intro v17 hv18
     exact L_nil (hk30 _ _ (Ext.refl s25) hv18)
    ·intro f34 s32 e33 hA35 hB36 Q hk37
     have ha38 : f34 0 = w0 := (hB36 0 (by kernel_rfl)).trans g15_0
     refine L_move ha38 (by decide) ?_
     exact L_nil (hk37 _ _ (Ext.refl s32) (h0.mono (e1.le.trans (l13.trans e33.le))))
    ·intro f41 s39 e40 hA42 hB43 Q hk44
     have ha45 : f41 5 = Value.int .i64 (x6) := (hB43 5 (by kernel_rfl)).trans rfl
     refine L_move ha45 (by decide) ?_
     exact L_nil (hk44 _ _ (Ext.refl s39) rfl)
    ·intro f48 s46 e47 hA49 hB50 Q hk51
     have ha52 : V _ (f48 12) (a0 : List Deed) := hA49 1 12 (by kernel_rfl) (by kernel_rfl)
     obtain ⟨v53, q54, hv55⟩ : ∃ v, _ = v ∧ V _ v _ := ⟨_, rfl, ha52⟩
     have ha56 : f48 13 = Value.int .i64 (x6) := hA49 2 13 (by kernel_rfl) (by kernel_rfl)
     refine L_index Try.underlying59 ty64.inf q54 hv55 ha56 hy20 (by decide) ?_
     intro p21 hp22
     exact L_nil (hk51 _ _ (Ext.refl s46) hp22)
    ·intro f59 s57 e58 hA60 hB61 Q hk62
     have ha63 : Ptr _ (f59 14) (y19 : Deed) := hA60 3 14 (by kernel_rfl) (by kernel_rfl)
     obtain ⟨v64, q65, hv66⟩ : ∃ v, _ = v ∧ Ptr _ v _ := ⟨_, rfl, ha63⟩
     refine L_load ty64 q65 hv66 (by decide) ?_
     intro v23 hv24
     exact L_nil (hk62 _ _ (Ext.refl s57) hv24)
    ·intro f69 s67 e68 hA70 hB71 Q hk72
     have ha73 : V _ (f69 11) (a1 : Deed) := hA70 0 11 (by kernel_rfl) (by kernel_rfl)
     obtain ⟨v74, q75, hv76⟩ : ∃ v, _ = v ∧ V _ v _ := ⟨_, rfl, ha73⟩
     have ha77 : V _ (f69 15) (y19 : Deed) := hA70 4 15 (by kernel_rfl) (by kernel_rfl)
     obtain ⟨v78, q79, hv80⟩ : ∃ v, _ = v ∧ V _ v _ := ⟨_, rfl, ha77⟩
     refine L_seq64 q75 hv76 q79 hv80 (by decide) ?_
     exact L_nil (hk72 _ _ (Ext.refl s67) rfl)
    ·intro f83 s81 e82 hA84 hB85
     have hE86 := Tch.ext hE14 e82
     have ha87 : f83 0 = w0 := (hB85 0 (by kernel_rfl)).trans g15_0
     have ha88 : f83 3 = p2 := (hB85 3 (by kernel_rfl)).trans g15_3
     have ha89 : f83 5 = Value.int .i64 (x6) := (hB85 5 (by kernel_rfl)).trans rfl
     have ha90 : f83 7 = Value.int .i64 ((a0.length : Int)) := (hB85 7 (by kernel_rfl)).trans g15_7
     have ha91 : f83 8 = Value.int .i64 (x6) := (hB85 8 (by kernel_rfl)).trans g15_8
     have ha92 : f83 16 = Value.bool (decide (a1 = y19)) := hA84 5 16 (by kernel_rfl)
     refine then_n ?_
     refine W_cond _ ha92 (fun hb93 => ?_) (fun hb93 => ?_)
     ·have hr := ite_t hb93 hr
      refine W_seq ?_
      refine W_region ?_
      refine L_move ha89 (by decide) ?_
      refine L_assign (rfl : _ = Value.int .i64 (x6)) (by decide) ?_
      refine L_nil ?_
      refine then_n ?_
      refine W_ret ?_
      refine block_r ?_
      refine then_r ?_
      refine then_r ?_
      refine block_r ?_
      obtain rfl := Option.some.inj hr
      have hr := hq10
      try dsimp only at hr
      refine then_r ?_
      refine then_r ?_
      obtain rfl := Option.some.inj hr
      exact done1 (Or.inl rfl) Try.results88 rfl ⟨_, _, rfl, rfl, hE86, Vint⟩
     ·have hr := ite_f hb93 hr
      refine W_skip ?_
      refine block_n ?_
      refine then_n ?_
      refine W_region ?_
      obtain ⟨hc94, hr⟩ := chk_some hr
      refine L_add ha91 (rfl : _ = Value.int .i64 (1)) hc94 (by decide) ?_
      refine L_move (rfl : _ = Value.int .i64 (x6 + 1)) (by decide) ?_
      refine L_nil ?_
      exact then_n ⟨m9, Nat.lt_succ_self _, ⟨s81, (x6 + 1), rfl, hE86, (l13.trans e82.le), hr, rfl, ha87, ha88, ha90⟩⟩
   ·have hr := ite_f hb16 hr
    refine W_exit ?_
    refine then_x ?_
    refine then_x ?_
    refine block_here ?_
    exact then_n ⟨s12, rfl, hE14, l13, Option.some.inj hr⟩
 ·rintro f95 w96 ⟨s99, rfl, hE101, l100, ho8⟩
  subst ho8
  have hr := hq10
  try dsimp only at hr
  refine then_n ?_
  refine W_seq ?_
  refine W_region ?_
  refine L_assign (rfl : _ = Value.int .i64 (-1)) (by decide) ?_
  refine L_nil ?_
  refine then_n ?_
  refine W_ret ?_
  obtain rfl := Option.some.inj hr
  exact done1 (Or.inl rfl) Try.results88 rfl ⟨_, _, rfl, rfl, hE101, Vint⟩

theorem slices_Contains_Llang_Deed_lang_Deed_ok (N : Nat) (s0 : St) (w0 : Value) (a0 : List Deed) (h0 : V s0 w0 a0) (w1 : Value) (a1 : Deed) (h1 : V s0 w1 a1) (r : Bool) (hr : slices_Contains_Llang_Deed_lang_Deed N a0 a1 = some r) :
  Calls Try.prog 80 #[w0, w1] s0.w (Ret s0 fun v s => V s v r) := by
 unfold slices_Contains_Llang_Deed_lang_Deed at hr
 have hE0 := Ext.refl s0
 refine Calls_of (n := 9) (args := [w0, w1]) Try.func80 rfl rfl (by simp) ?_
 refine W_seq ?_
 refine W_region ?_
 refine L_box (rfl : _ = w1) h1 (by decide) ?_
 intro s4 p2 e1 hp3
 have hE5 := Tch.ext hE0 e1
 refine L_assign (rfl : _ = Value.bool (false)) (by decide) ?_
 refine L_nil ?_
 refine then_n ?_
 refine W_seq ?_
 refine W_region ?_
 refine L_move (rfl : _ = w0) (by decide) ?_
 refine L_load ty64 (rfl : _ = p2) hp3 (by decide) ?_
 intro v6 hv7
 obtain ⟨y8, hy9, hr⟩ := bind_some hr
 refine L_calls cal88 (args2 (rfl : _ = w0) (rfl : _ = v6)) (slices_Index_Llang_Deed_lang_Deed_ok N _ _ _ (h0.mono e1.le) _ _ hv7 y8 hy9) (by decide) ?_
 intro v10 s13 e11 hv12
 have hE14 := Tch.ext hE5 e11
 obtain rfl := hv12.int
 refine L_geq (rfl : _ = Value.int .i64 (y8)) (rfl : _ = Value.int .i64 (0)) (by decide) ?_
 refine L_assign (rfl : _ = Value.bool (decide (0 ≤ y8))) (by decide) ?_
 refine L_nil ?_
 refine then_n ?_
 refine W_ret ?_
 obtain rfl := Option.some.inj hr
 exact done1 (Or.inl rfl) Try.results80 rfl ⟨_, _, rfl, rfl, hE14, Vbool⟩

set_option maxHeartbeats 2843000 in
theorem dead_formed_ok (N : Nat) (s0 : St) (w0 : Value) (a0 : Deed) (h0 : V s0 w0 a0) (w1 : Value) (a1 : List Deed) (h1 : V s0 w1 a1) (a2 : Int) (r : Bool) (hr : dead_formed N a0 a1 a2 = some r) :
  Calls Try.prog 58 #[w0, w1, .int .i64 a2] s0.w (Ret s0 fun v s => V s v r) := by
 unfold dead_formed at hr
 have hE0 := Ext.refl s0
 refine Calls_of (n := 109) (args := [w0, w1, .int .i64 a2]) Try.func58 rfl rfl (by simp) ?_
 refine W_seq ?_
 refine W_region ?_
 refine L_box (rfl : _ = w0) h0 (by decide) ?_
 intro s4 p2 e1 hp3
 have hE5 := Tch.ext hE0 e1
 refine L_assign (rfl : _ = Value.bool (false)) (by decide) ?_
 refine L_nil ?_
 refine then_n ?_
 obtain ⟨o7, ho8, hq9⟩ := bind_some hr
 refine W_seq_cut (fun f w => ∃ (s : St) (x6 : Bool), s.w = w ∧ Ext s0 s ∧ Le s4 s ∧ x6 = o7 ∧ f 7 = Value.bool x6 ∧ f 1 = w1 ∧ f 2 = Value.int .i64 (a2) ∧ f 3 = p2) ?_ ?_
 ·have hr := ho8
  refine W_region ?_
  refine L_fieldAddr fld64_2 Deed.of_Tag (rfl : _ = p2) hp3 (by decide) ?_
  intro p10 hp11
  refine L_load_int ty3 (rfl : _ = p10) hp11 (by decide) ?_
  refine L_geq (rfl : _ = Value.int .i64 (a0.Tag)) (rfl : _ = Value.int .i64 (0)) (by decide) ?_
  refine L_move (rfl : _ = Value.bool (decide (0 ≤ a0.Tag))) (by decide) ?_
  rcases Bool.eq_false_or_eq_true (decide (0 ≤ a0.Tag)) with hb12 | hb12
  ·have hr := ite_t hb12 hr
   refine L_gt (e := 14) (by rfl) (by decide) (rfl : _ = Value.bool (decide (0 ≤ a0.Tag))) hb12 ?_
   refine L_fieldAddr fld64_2 Deed.of_Tag (rfl : _ = p2) hp3 (by decide) ?_
   intro p13 hp14
   refine L_gt (e := 14) (by rfl) (by decide) (rfl : _ = Value.bool (decide (0 ≤ a0.Tag))) hb12 ?_
   refine L_load_int ty3 (rfl : _ = p13) hp14 (by decide) ?_
   refine L_gt (e := 14) (by rfl) (by decide) (rfl : _ = Value.bool (decide (0 ≤ a0.Tag))) hb12 ?_
   refine L_leq (rfl : _ = Value.int .i64 (a0.Tag)) (rfl : _ = Value.int .i64 (1048576)) (by decide) ?_
   refine L_pick_t (rfl : _ = Value.bool (decide (0 ≤ a0.Tag))) hb12 (rfl : _ = Value.bool (decide (a0.Tag ≤ 1048576))) (by decide) ?_
   refine L_assign (rfl : _ = Value.bool (decide (a0.Tag ≤ 1048576))) (by decide) ?_
   refine L_nil ?_
   exact then_n ⟨s4, (decide (a0.Tag ≤ 1048576)), rfl, hE5, (Le.refl _), Option.some.inj hr, rfl, rfl, rfl, rfl⟩
  ·have hr := ite_f hb12 hr
   refine L_gf (e := 14) (by rfl) (by decide) (rfl : _ = Value.bool (decide (0 ≤ a0.Tag))) hb12 (by decide) ?_
   refine L_gf (e := 14) (by rfl) (by decide) (rfl : _ = Value.bool (decide (0 ≤ a0.Tag))) hb12 (by decide) ?_
   refine L_gf (e := 14) (by rfl) (by decide) (rfl : _ = Value.bool (decide (0 ≤ a0.Tag))) hb12 (by decide) ?_
   refine L_pick_f (rfl : _ = Value.bool (decide (0 ≤ a0.Tag))) hb12 (rfl : _ = Value.bool (false)) (by decide) ?_
   refine L_assign (rfl : _ = Value.bool (false)) (by decide) ?_
   refine L_nil ?_
   exact then_n ⟨s4, false, rfl, hE5, (Le.refl _), Option.some.inj hr, rfl, rfl, rfl, rfl⟩
 ·rintro f3243 w3244 ⟨s15, x6, rfl, hE17, l16, ho8, g18_7, g18_1, g18_2, g18_3⟩
  subst ho8
  have hr := hq9
  try dsimp only at hr
  obtain ⟨o20, ho21, hq22⟩ := bind_some hr
  refine W_seq_cut (fun f w => ∃ (s : St) (x19 : Bool), s.w = w ∧ Ext s0 s ∧ Le s15 s ∧ x19 = o20 ∧ f 8 = Value.bool x19 ∧ f 1 = w1 ∧ f 3 = p2 ∧ f 7 = Value.bool (x6)) ?_ ?_
  ·have hr := ho21
   refine W_region ?_
   refine L_fieldAddr fld64_1 Deed.of_Peer g18_3 (hp3.mono l16) (by decide) ?_
   intro p23 hp24
   refine L_load_int ty3 (rfl : _ = p23) hp24 (by decide) ?_
   refine L_geq (rfl : _ = Value.int .i64 (a0.Peer)) (rfl : _ = Value.int .i64 (0)) (by decide) ?_
   refine L_move (rfl : _ = Value.bool (decide (0 ≤ a0.Peer))) (by decide) ?_
   rcases Bool.eq_false_or_eq_true (decide (0 ≤ a0.Peer)) with hb25 | hb25
   ·have hr := ite_t hb25 hr
    refine L_gt (e := 22) (by rfl) (by decide) (rfl : _ = Value.bool (decide (0 ≤ a0.Peer))) hb25 ?_
    refine L_fieldAddr fld64_1 Deed.of_Peer g18_3 (hp3.mono l16) (by decide) ?_
    intro p26 hp27
    refine L_gt (e := 22) (by rfl) (by decide) (rfl : _ = Value.bool (decide (0 ≤ a0.Peer))) hb25 ?_
    refine L_load_int ty3 (rfl : _ = p26) hp27 (by decide) ?_
    refine L_gt (e := 22) (by rfl) (by decide) (rfl : _ = Value.bool (decide (0 ≤ a0.Peer))) hb25 ?_
    refine L_move g18_2 (by decide) ?_
    refine L_gt (e := 22) (by rfl) (by decide) (rfl : _ = Value.bool (decide (0 ≤ a0.Peer))) hb25 ?_
    refine L_lss (rfl : _ = Value.int .i64 (a0.Peer)) (rfl : _ = Value.int .i64 (a2)) (by decide) ?_
    refine L_pick_t (rfl : _ = Value.bool (decide (0 ≤ a0.Peer))) hb25 (rfl : _ = Value.bool (decide (a0.Peer < a2))) (by decide) ?_
    refine L_assign (rfl : _ = Value.bool (decide (a0.Peer < a2))) (by decide) ?_
    refine L_nil ?_
    exact then_n ⟨s15, (decide (a0.Peer < a2)), rfl, hE17, (Le.refl _), Option.some.inj hr, rfl, g18_1, g18_3, g18_7⟩
   ·have hr := ite_f hb25 hr
    refine L_gf (e := 22) (by rfl) (by decide) (rfl : _ = Value.bool (decide (0 ≤ a0.Peer))) hb25 (by decide) ?_
    refine L_gf (e := 22) (by rfl) (by decide) (rfl : _ = Value.bool (decide (0 ≤ a0.Peer))) hb25 (by decide) ?_
    refine L_gf (e := 22) (by rfl) (by decide) (rfl : _ = Value.bool (decide (0 ≤ a0.Peer))) hb25 (by decide) ?_
    refine L_gf (e := 22) (by rfl) (by decide) (rfl : _ = Value.bool (decide (0 ≤ a0.Peer))) hb25 (by decide) ?_
    refine L_pick_f (rfl : _ = Value.bool (decide (0 ≤ a0.Peer))) hb25 (rfl : _ = Value.bool (false)) (by decide) ?_
    refine L_assign (rfl : _ = Value.bool (false)) (by decide) ?_
    refine L_nil ?_
    exact then_n ⟨s15, false, rfl, hE17, (Le.refl _), Option.some.inj hr, rfl, g18_1, g18_3, g18_7⟩
  ·rintro f3241 w3242 ⟨s28, x19, rfl, hE30, l29, ho21, g31_8, g31_1, g31_3, g31_7⟩
   subst ho21
   have hr := hq22
   try dsimp only at hr
   refine W_seq ?_
   refine W_region ?_
   refine L_move g31_1 (by decide) ?_
   obtain ⟨y32, hy33, hr⟩ := bind_some hr
   refine L_calls cal79 (args2 (rfl : _ = w1) (rfl : _ = Value.func (.func 75) #[] #[])) (dead_count_lang_Deed_ok N _ _ _ (h1.mono (e1.le.trans (l16.trans l29))) _ (fun x => dead_begins N x ) (Fn1.mk0 cal75 fun t vx x r hl hv hr => dead_begins_ok N t vx x hv  r hr) y32 hy33) (by decide) ?_
   intro v34 s37 e35 hv36
   have hE38 := Tch.ext hE30 e35
   obtain rfl := hv36.int
   refine L_assign (rfl : _ = Value.int .i64 (y32)) (by decide) ?_
   refine L_nil ?_
   refine then_n ?_
   refine W_seq ?_
   refine W_region ?_
   refine L_fieldAddr fld64_0 Deed.of_Kind g31_3 (hp3.mono (l16.trans (l29.trans e35.le))) (by decide) ?_
   intro p39 hp40
   refine L_load_int ty3 (rfl : _ = p39) hp40 (by decide) ?_
   refine L_bld64_0 (s := s37) (rfl : _ = Value.int .i64 (a0.Kind)) (Vint : V _ _ (a0.Kind : Int)) (by decide) ?_
   intro v41 h42
   refine L_alloc (α := Deed) (x := ⟨0, 0, 0, 0, false⟩) zero64 Deed.zero_rel (by decide) ?_
   intro s47 b44 e43 hb45 hv46
   have hE48 := Tch.ext hE38 e43
   refine L_store ty64 (rfl : _ = Value.pointer (some ⟨b44, 0, none⟩)) (rfl : _ = v41) (h42.mono e43.le) (hv46) ?_
   intro s51 e49 hv50
   have hE52 := Tch.trans hE48 e49 (fun k hk => Or.inr (by subst hk; exact (Nat.le_trans hE38.size hb45)))
   refine L_nil ?_
   refine then_n ?_
   refine W_seq ?_
   refine W_seq ?_
   refine W_region ?_
   refine L_fieldAddr fld64_0 Deed.of_Kind g31_3 (hp3.mono (l16.trans (l29.trans (e35.le.trans (e43.le.trans e49.le))))) (by decide) ?_
   intro p53 hp54
   refine L_load_int ty3 (rfl : _ = p53) hp54 (by decide) ?_
   refine L_nil ?_
   refine then_n ?_
   refine W_block ?_
   refine W_seq ?_
   refine W_region ?_
   refine L_eql (rfl : _ = Value.int .i64 (a0.Kind)) (rfl : _ = Value.int .i64 (1)) (by decide) ?_
   refine L_assign (rfl : _ = Value.bool (decide (a0.Kind = 1))) (by decide) ?_
   refine L_nil ?_
   refine then_n ?_
   refine W_cond _ (rfl : _ = Value.bool (decide (a0.Kind = 1))) (fun hb55 => ?_) (fun hb55 => ?_)
   ·have hr := ite_t hb55 hr
    refine W_region ?_
    refine L_fieldAddr fld64_4 Deed.of_Sync g31_3 (hp3.mono (l16.trans (l29.trans (e35.le.trans (e43.le.trans e49.le))))) (by decide) ?_
    intro p56 hp57
    refine L_load_bool ty4 (rfl : _ = p56) hp57 (by decide) ?_
    refine L_fieldAddr_var fld64_4 (rfl : _ = Value.pointer (some ⟨b44, 0, none⟩)) (by decide) ?_
    refine L_store_field ty4 Deed.set_Sync (rfl : _ = Value.pointer (some ⟨b44, 4, none⟩)) (rfl : _ = Value.bool (a0.Sync)) Vbool (hv50) ?_
    intro s60 e58 hv59
    have hE61 := Tch.trans hE52 e58 (fun k hk => Or.inr (by subst hk; exact (Nat.le_trans hE38.size hb45)))
    refine L_nil ?_
    refine block_n ?_
    refine then_n ?_
    refine W_seq ?_
    refine W_drawP mixed 8 [PX.ptr (a0.Peer : Int), PX.eq (Value.int .i64 (a0.Peer)), PX.ptr (a0.Tag : Int), PX.eq (Value.int .i64 (a0.Tag)), PX.eq (Value.pointer (some ⟨b44, 1, none⟩)), PX.var s0.w.heap.size 64 ((Deed.with_Peer (Deed.with_Sync (⟨a0.Kind, 0, 0, 0, false⟩ : Deed) a0.Sync) a0.Peer) : Deed), PX.eq (Value.pointer (some ⟨b44, 2, none⟩)), PX.var s0.w.heap.size 64 ((Deed.with_Tag (Deed.with_Peer (Deed.with_Sync (⟨a0.Kind, 0, 0, 0, false⟩ : Deed) a0.Sync) a0.Peer) a0.Tag) : Deed), PX.var s0.w.heap.size 64 ((Deed.with_Sync (⟨a0.Kind, 0, 0, 0, false⟩ : Deed) a0.Sync) : Deed)] [94, 95, 96, 97, 98, 10, 99, 10, 10] [[], [], [], [], [], [8], [], [5]] rfl (by kernel_rfl) (ent1 rfl ⟨b44, rfl, (Nat.le_trans hE38.size hb45), hv59⟩) (dis1 rfl) (StepsX_cons ?_ (StepsX_cons ?_ (StepsX_cons ?_ (StepsX_cons ?_ (StepsX_cons ?_ (StepsX_cons ?_ (StepsX_cons ?_ (StepsX_cons ?_ StepsX_nil)))))))) ?_
    ·intro f76 s74 hT75 hA77 hB78 Q hk79
     have ha80 : f76 3 = p2 := (hB78 3 (by kernel_rfl)).trans g31_3
     refine L_fieldAddr fld64_1 Deed.of_Peer ha80 (hp3.mono (l16.trans (l29.trans (e35.le.trans (e43.le.trans (e49.le.trans (e58.le.trans hT75.le))))))) (by decide) ?_
     intro p62 hp63
     exact L_nil (hk79 _ _ No (Ext.refl s74) (fun _ h => h.elim) hp63 (fun _ h => h.elim))
    ·intro f83 s81 hT82 hA84 hB85 Q hk86
     have ha87 : Ptr _ (f83 94) (a0.Peer : Int) := hA84 0 (by kernel_rfl) (by show _ < 9; decide)
     obtain ⟨v88, q89, hv90⟩ : ∃ v, _ = v ∧ Ptr _ v _ := ⟨_, rfl, ha87⟩
     refine L_load_int ty3 q89 hv90 (by decide) ?_
     exact L_nil (hk86 _ _ No (Ext.refl s81) (fun _ h => h.elim) rfl (fun _ h => h.elim))
    ·intro f93 s91 hT92 hA94 hB95 Q hk96
     have ha97 : f93 3 = p2 := (hB95 3 (by kernel_rfl)).trans g31_3
     refine L_fieldAddr fld64_2 Deed.of_Tag ha97 (hp3.mono (l16.trans (l29.trans (e35.le.trans (e43.le.trans (e49.le.trans (e58.le.trans hT92.le))))))) (by decide) ?_
     intro p64 hp65
     exact L_nil (hk96 _ _ No (Ext.refl s91) (fun _ h => h.elim) hp65 (fun _ h => h.elim))
    ·intro f100 s98 hT99 hA101 hB102 Q hk103
     have ha104 : Ptr _ (f100 96) (a0.Tag : Int) := hA101 2 (by kernel_rfl) (by show _ < 9; decide)
     obtain ⟨v105, q106, hv107⟩ : ∃ v, _ = v ∧ Ptr _ v _ := ⟨_, rfl, ha104⟩
     refine L_load_int ty3 q106 hv107 (by decide) ?_
     exact L_nil (hk103 _ _ No (Ext.refl s98) (fun _ h => h.elim) rfl (fun _ h => h.elim))
    ·intro f110 s108 hT109 hA111 hB112 Q hk113
     obtain ⟨b115, q116, hb117, hv118⟩ : ∃ b, f110 10 = Value.pointer (some ⟨b, 0, none⟩) ∧ s0.w.heap.size ≤ b ∧ Var s108 b 64 ((Deed.with_Sync (⟨a0.Kind, 0, 0, 0, false⟩ : Deed) a0.Sync) : Deed) := hA111 8 (by kernel_rfl) (by show _ < 9; decide)
     have ha119 : f110 10 = Value.pointer (some ⟨b44, 0, none⟩) := (hB112 10 (by kernel_rfl)).trans rfl
     have ha119e : b115 = b44 := by have h3 := q116.symm.trans ha119; cases h3; rfl
     rw [ha119e] at hb117 hv118
     refine L_fieldAddr_var fld64_1 ha119 (by decide) ?_
     exact L_nil (hk113 _ _ No (Ext.refl s108) (fun _ h => h.elim) rfl (fun _ h => h.elim))
    ·intro f122 s120 hT121 hA123 hB124 Q hk125
     obtain ⟨b127, q128, hb129, hv130⟩ : ∃ b, f122 10 = Value.pointer (some ⟨b, 0, none⟩) ∧ s0.w.heap.size ≤ b ∧ Var s120 b 64 ((Deed.with_Sync (⟨a0.Kind, 0, 0, 0, false⟩ : Deed) a0.Sync) : Deed) := hA123 8 (by kernel_rfl) (by show _ < 9; decide)
     have ha131 : f122 10 = Value.pointer (some ⟨b44, 0, none⟩) := (hB124 10 (by kernel_rfl)).trans rfl
     have ha131e : b127 = b44 := by have h3 := q128.symm.trans ha131; cases h3; rfl
     rw [ha131e] at hb129 hv130
     have ha132 : f122 95 = Value.int .i64 (a0.Peer) := hA123 1 (by kernel_rfl) (by show _ < 9; decide)
     have ha133 : f122 98 = Value.pointer (some ⟨b44, 1, none⟩) := hA123 4 (by kernel_rfl) (by show _ < 9; decide)
     refine L_store_field ty3 Deed.set_Peer ha133 ha132 Vint (hv130) ?_
     intro s68 e66 hv67
     exact L_nil (hk125 undef _ _ e66 (fun k h => ⟨8, (List.mem_singleton.2 rfl : (8 : Nat) ∈ [8]), (by show ownP (f122 10) k; rw [ha131]; exact congrArg (fun z => Value.pointer (some ⟨z, 0, none⟩)) h.symm)⟩) ⟨_, ha131, hb129, hv67⟩ (fun k h => Or.inl ⟨8, (List.mem_singleton.2 rfl : (8 : Nat) ∈ [8]), h⟩))
    ·intro f136 s134 hT135 hA137 hB138 Q hk139
     obtain ⟨b141, q142, hb143, hv144⟩ : ∃ b, f136 10 = Value.pointer (some ⟨b, 0, none⟩) ∧ s0.w.heap.size ≤ b ∧ Var s134 b 64 ((Deed.with_Peer (Deed.with_Sync (⟨a0.Kind, 0, 0, 0, false⟩ : Deed) a0.Sync) a0.Peer) : Deed) := hA137 5 (by kernel_rfl) (by show _ < 9; decide)
     have ha145 : f136 10 = Value.pointer (some ⟨b44, 0, none⟩) := (hB138 10 (by kernel_rfl)).trans rfl
     have ha145e : b141 = b44 := by have h3 := q142.symm.trans ha145; cases h3; rfl
     rw [ha145e] at hb143 hv144
     refine L_fieldAddr_var fld64_2 ha145 (by decide) ?_
     exact L_nil (hk139 _ _ No (Ext.refl s134) (fun _ h => h.elim) rfl (fun _ h => h.elim))
    ·intro f148 s146 hT147 hA149 hB150 Q hk151
     obtain ⟨b153, q154, hb155, hv156⟩ : ∃ b, f148 10 = Value.pointer (some ⟨b, 0, none⟩) ∧ s0.w.heap.size ≤ b ∧ Var s146 b 64 ((Deed.with_Peer (Deed.with_Sync (⟨a0.Kind, 0, 0, 0, false⟩ : Deed) a0.Sync) a0.Peer) : Deed) := hA149 5 (by kernel_rfl) (by show _ < 9; decide)
     have ha157 : f148 10 = Value.pointer (some ⟨b44, 0, none⟩) := (hB150 10 (by kernel_rfl)).trans rfl
     have ha157e : b153 = b44 := by have h3 := q154.symm.trans ha157; cases h3; rfl
     rw [ha157e] at hb155 hv156
     have ha158 : f148 97 = Value.int .i64 (a0.Tag) := hA149 3 (by kernel_rfl) (by show _ < 9; decide)
     have ha159 : f148 99 = Value.pointer (some ⟨b44, 2, none⟩) := hA149 6 (by kernel_rfl) (by show _ < 9; decide)
     refine L_store_field ty3 Deed.set_Tag ha159 ha158 Vint (hv156) ?_
     intro s72 e70 hv71
     exact L_nil (hk151 undef _ _ e70 (fun k h => ⟨5, (List.mem_singleton.2 rfl : (5 : Nat) ∈ [5]), (by show ownP (f148 10) k; rw [ha157]; exact congrArg (fun z => Value.pointer (some ⟨z, 0, none⟩)) h.symm)⟩) ⟨_, ha157, hb155, hv71⟩ (fun k h => Or.inl ⟨5, (List.mem_singleton.2 rfl : (5 : Nat) ∈ [5]), h⟩))
    ·intro f162 s160 hT161 hP163 hD164 hB165
     have hE166 := Tch.trans hE61 hT161 (fun k h => Or.inr (by have h2 := ent_is (k := 8) rfl rfl h; have h3 := Eq.mp (congrArg (fun v => ownP v k) (rfl : _ = Value.pointer (some ⟨b44, 0, none⟩))) h2; cases h3; exact (Nat.le_trans hE38.size hb45)))
     obtain ⟨b167, q168, hb169, hv170⟩ : ∃ b, f162 10 = Value.pointer (some ⟨b, 0, none⟩) ∧ s0.w.heap.size ≤ b ∧ Var s160 b 64 ((Deed.with_Tag (Deed.with_Peer (Deed.with_Sync (⟨a0.Kind, 0, 0, 0, false⟩ : Deed) a0.Sync) a0.Peer) a0.Tag) : Deed) := hP163 7 (by show _ < 9; decide) (by kernel_rfl)
     have ha171 : f162 10 = Value.pointer (some ⟨b44, 0, none⟩) := (hB165 10 (by kernel_rfl)).trans rfl
     have ha171e : b167 = b44 := by have h3 := q168.symm.trans ha171; cases h3; rfl
     rw [ha171e] at hb169 hv170
     have ha172 : f162 3 = p2 := (hB165 3 (by kernel_rfl)).trans g31_3
     have ha173 : f162 7 = Value.bool (x6) := (hB165 7 (by kernel_rfl)).trans g31_7
     have ha174 : f162 8 = Value.bool (x19) := (hB165 8 (by kernel_rfl)).trans g31_8
     refine then_n ?_
     refine W_seq ?_
     refine W_region ?_
     refine L_load ty64 ha172 (hp3.mono (l16.trans (l29.trans (e35.le.trans (e43.le.trans (e49.le.trans (e58.le.trans hT161.le))))))) (by decide) ?_
     intro v175 hv176
     refine L_load_var ty64 ha171 (hv170) (by decide) ?_
     intro v177 hv178
     refine L_seq64 (rfl : _ = v175) hv176 (rfl : _ = v177) hv178 (by decide) ?_
     refine L_move (rfl : _ = Value.bool (decide (a0 = (Deed.with_Tag (Deed.with_Peer (Deed.with_Sync (⟨a0.Kind, 0, 0, 0, false⟩ : Deed) a0.Sync) a0.Peer) a0.Tag)))) (by decide) ?_
     rcases Bool.eq_false_or_eq_true (decide (a0 = (Deed.with_Tag (Deed.with_Peer (Deed.with_Sync (⟨a0.Kind, 0, 0, 0, false⟩ : Deed) a0.Sync) a0.Peer) a0.Tag))) with hb179 | hb179
     ·have hr := ite_t hb179 hr
      refine L_gt (e := 103) (by rfl) (by decide) (rfl : _ = Value.bool (decide (a0 = (Deed.with_Tag (Deed.with_Peer (Deed.with_Sync (⟨a0.Kind, 0, 0, 0, false⟩ : Deed) a0.Sync) a0.Peer) a0.Tag)))) hb179 ?_
      refine L_move ha173 (by decide) ?_
      refine L_pick_t (rfl : _ = Value.bool (decide (a0 = (Deed.with_Tag (Deed.with_Peer (Deed.with_Sync (⟨a0.Kind, 0, 0, 0, false⟩ : Deed) a0.Sync) a0.Peer) a0.Tag)))) hb179 (rfl : _ = Value.bool (x6)) (by decide) ?_
      refine L_move (rfl : _ = Value.bool (x6)) (by decide) ?_
      rcases Bool.eq_false_or_eq_true (x6) with hb180 | hb180
      ·have hr := ite_t hb180 hr
       refine L_gt (e := 106) (by rfl) (by decide) (rfl : _ = Value.bool (x6)) hb180 ?_
       refine L_move ha174 (by decide) ?_
       refine L_pick_t (rfl : _ = Value.bool (x6)) hb180 (rfl : _ = Value.bool (x19)) (by decide) ?_
       refine L_assign (rfl : _ = Value.bool (x19)) (by decide) ?_
       refine L_nil ?_
       refine then_n ?_
       refine W_ret ?_
       obtain rfl := Option.some.inj hr
       exact done1 (Or.inl rfl) Try.results58 rfl ⟨_, _, rfl, rfl, hE166, Vbool⟩
      ·have hr := ite_f hb180 hr
       refine L_gf (e := 106) (by rfl) (by decide) (rfl : _ = Value.bool (x6)) hb180 (by decide) ?_
       refine L_pick_f (rfl : _ = Value.bool (x6)) hb180 (rfl : _ = Value.bool (false)) (by decide) ?_
       refine L_assign (rfl : _ = Value.bool (false)) (by decide) ?_
       refine L_nil ?_
       refine then_n ?_
       refine W_ret ?_
       obtain rfl := Option.some.inj hr
       exact done1 (Or.inl rfl) Try.results58 rfl ⟨_, _, rfl, rfl, hE166, Vbool⟩
     ·have hr := ite_f hb179 hr
      refine L_gf (e := 103) (by rfl) (by decide) (rfl : _ = Value.bool (decide (a0 = (Deed.with_Tag (Deed.with_Peer (Deed.with_Sync (⟨a0.Kind, 0, 0, 0, false⟩ : Deed) a0.Sync) a0.Peer) a0.Tag)))) hb179 (by decide) ?_
      refine L_pick_f (rfl : _ = Value.bool (decide (a0 = (Deed.with_Tag (Deed.with_Peer (Deed.with_Sync (⟨a0.Kind, 0, 0, 0, false⟩ : Deed) a0.Sync) a0.Peer) a0.Tag)))) hb179 (rfl : _ = Value.bool (false)) (by decide) ?_
      refine L_move (rfl : _ = Value.bool (false)) (by decide) ?_
      refine L_gf (e := 106) (by rfl) (by decide) (rfl : _ = Value.bool (false)) rfl (by decide) ?_
      refine L_pick_f (rfl : _ = Value.bool (false)) rfl (rfl : _ = Value.bool (false)) (by decide) ?_
      refine L_assign (rfl : _ = Value.bool (false)) (by decide) ?_
      refine L_nil ?_
      refine then_n ?_
      refine W_ret ?_
      obtain rfl := Option.some.inj hr
      exact done1 (Or.inl rfl) Try.results58 rfl ⟨_, _, rfl, rfl, hE166, Vbool⟩
   ·have hr := ite_f hb55 hr
    refine W_seq ?_
    refine W_region ?_
    refine L_eql (rfl : _ = Value.int .i64 (a0.Kind)) (rfl : _ = Value.int .i64 (3)) (by decide) ?_
    refine L_assign (rfl : _ = Value.bool (decide (a0.Kind = 3))) (by decide) ?_
    refine L_nil ?_
    refine then_n ?_
    refine W_cond _ (rfl : _ = Value.bool (decide (a0.Kind = 3))) (fun hb181 => ?_) (fun hb181 => ?_)
    ·have hr := ite_t hb181 hr
     refine W_region ?_
     refine L_move (rfl : _ = Value.int .i64 (y32)) (by decide) ?_
     refine L_fieldAddr_var fld64_3 (rfl : _ = Value.pointer (some ⟨b44, 0, none⟩)) (by decide) ?_
     refine L_store_field ty3 Deed.set_Req (rfl : _ = Value.pointer (some ⟨b44, 3, none⟩)) (rfl : _ = Value.int .i64 (y32)) Vint (hv50) ?_
     intro s184 e182 hv183
     have hE185 := Tch.trans hE52 e182 (fun k hk => Or.inr (by subst hk; exact (Nat.le_trans hE38.size hb45)))
     refine L_nil ?_
     refine block_n ?_
     refine then_n ?_
     refine W_seq ?_
     refine W_drawP mixed 8 [PX.ptr (a0.Peer : Int), PX.eq (Value.int .i64 (a0.Peer)), PX.ptr (a0.Tag : Int), PX.eq (Value.int .i64 (a0.Tag)), PX.eq (Value.pointer (some ⟨b44, 1, none⟩)), PX.var s0.w.heap.size 64 ((Deed.with_Peer (Deed.with_Req (⟨a0.Kind, 0, 0, 0, false⟩ : Deed) y32) a0.Peer) : Deed), PX.eq (Value.pointer (some ⟨b44, 2, none⟩)), PX.var s0.w.heap.size 64 ((Deed.with_Tag (Deed.with_Peer (Deed.with_Req (⟨a0.Kind, 0, 0, 0, false⟩ : Deed) y32) a0.Peer) a0.Tag) : Deed), PX.var s0.w.heap.size 64 ((Deed.with_Req (⟨a0.Kind, 0, 0, 0, false⟩ : Deed) y32) : Deed)] [94, 95, 96, 97, 98, 10, 99, 10, 10] [[], [], [], [], [], [8], [], [5]] rfl (by kernel_rfl) (ent1 rfl ⟨b44, rfl, (Nat.le_trans hE38.size hb45), hv183⟩) (dis1 rfl) (StepsX_cons ?_ (StepsX_cons ?_ (StepsX_cons ?_ (StepsX_cons ?_ (StepsX_cons ?_ (StepsX_cons ?_ (StepsX_cons ?_ (StepsX_cons ?_ StepsX_nil)))))))) ?_
     ·intro f200 s198 hT199 hA201 hB202 Q hk203
      have ha204 : f200 3 = p2 := (hB202 3 (by kernel_rfl)).trans g31_3
      refine L_fieldAddr fld64_1 Deed.of_Peer ha204 (hp3.mono (l16.trans (l29.trans (e35.le.trans (e43.le.trans (e49.le.trans (e182.le.trans hT199.le))))))) (by decide) ?_
      intro p186 hp187
      exact L_nil (hk203 _ _ No (Ext.refl s198) (fun _ h => h.elim) hp187 (fun _ h => h.elim))
     ·intro f207 s205 hT206 hA208 hB209 Q hk210
      have ha211 : Ptr _ (f207 94) (a0.Peer : Int) := hA208 0 (by kernel_rfl) (by show _ < 9; decide)
      obtain ⟨v212, q213, hv214⟩ : ∃ v, _ = v ∧ Ptr _ v _ := ⟨_, rfl, ha211⟩
      refine L_load_int ty3 q213 hv214 (by decide) ?_
      exact L_nil (hk210 _ _ No (Ext.refl s205) (fun _ h => h.elim) rfl (fun _ h => h.elim))
     ·intro f217 s215 hT216 hA218 hB219 Q hk220
      have ha221 : f217 3 = p2 := (hB219 3 (by kernel_rfl)).trans g31_3
      refine L_fieldAddr fld64_2 Deed.of_Tag ha221 (hp3.mono (l16.trans (l29.trans (e35.le.trans (e43.le.trans (e49.le.trans (e182.le.trans hT216.le))))))) (by decide) ?_
      intro p188 hp189
      exact L_nil (hk220 _ _ No (Ext.refl s215) (fun _ h => h.elim) hp189 (fun _ h => h.elim))
     ·intro f224 s222 hT223 hA225 hB226 Q hk227
      have ha228 : Ptr _ (f224 96) (a0.Tag : Int) := hA225 2 (by kernel_rfl) (by show _ < 9; decide)
      obtain ⟨v229, q230, hv231⟩ : ∃ v, _ = v ∧ Ptr _ v _ := ⟨_, rfl, ha228⟩
      refine L_load_int ty3 q230 hv231 (by decide) ?_
      exact L_nil (hk227 _ _ No (Ext.refl s222) (fun _ h => h.elim) rfl (fun _ h => h.elim))
     ·intro f234 s232 hT233 hA235 hB236 Q hk237
      obtain ⟨b239, q240, hb241, hv242⟩ : ∃ b, f234 10 = Value.pointer (some ⟨b, 0, none⟩) ∧ s0.w.heap.size ≤ b ∧ Var s232 b 64 ((Deed.with_Req (⟨a0.Kind, 0, 0, 0, false⟩ : Deed) y32) : Deed) := hA235 8 (by kernel_rfl) (by show _ < 9; decide)
      have ha243 : f234 10 = Value.pointer (some ⟨b44, 0, none⟩) := (hB236 10 (by kernel_rfl)).trans rfl
      have ha243e : b239 = b44 := by have h3 := q240.symm.trans ha243; cases h3; rfl
      rw [ha243e] at hb241 hv242
      refine L_fieldAddr_var fld64_1 ha243 (by decide) ?_
      exact L_nil (hk237 _ _ No (Ext.refl s232) (fun _ h => h.elim) rfl (fun _ h => h.elim))
     ·intro f246 s244 hT245 hA247 hB248 Q hk249
      obtain ⟨b251, q252, hb253, hv254⟩ : ∃ b, f246 10 = Value.pointer (some ⟨b, 0, none⟩) ∧ s0.w.heap.size ≤ b ∧ Var s244 b 64 ((Deed.with_Req (⟨a0.Kind, 0, 0, 0, false⟩ : Deed) y32) : Deed) := hA247 8 (by kernel_rfl) (by show _ < 9; decide)
      have ha255 : f246 10 = Value.pointer (some ⟨b44, 0, none⟩) := (hB248 10 (by kernel_rfl)).trans rfl
      have ha255e : b251 = b44 := by have h3 := q252.symm.trans ha255; cases h3; rfl
      rw [ha255e] at hb253 hv254
      have ha256 : f246 95 = Value.int .i64 (a0.Peer) := hA247 1 (by kernel_rfl) (by show _ < 9; decide)
      have ha257 : f246 98 = Value.pointer (some ⟨b44, 1, none⟩) := hA247 4 (by kernel_rfl) (by show _ < 9; decide)
      refine L_store_field ty3 Deed.set_Peer ha257 ha256 Vint (hv254) ?_
      intro s192 e190 hv191
      exact L_nil (hk249 undef _ _ e190 (fun k h => ⟨8, (List.mem_singleton.2 rfl : (8 : Nat) ∈ [8]), (by show ownP (f246 10) k; rw [ha255]; exact congrArg (fun z => Value.pointer (some ⟨z, 0, none⟩)) h.symm)⟩) ⟨_, ha255, hb253, hv191⟩ (fun k h => Or.inl ⟨8, (List.mem_singleton.2 rfl : (8 : Nat) ∈ [8]), h⟩))
     ·intro f260 s258 hT259 hA261 hB262 Q hk263
      obtain ⟨b265, q266, hb267, hv268⟩ : ∃ b, f260 10 = Value.pointer (some ⟨b, 0, none⟩) ∧ s0.w.heap.size ≤ b ∧ Var s258 b 64 ((Deed.with_Peer (Deed.with_Req (⟨a0.Kind, 0, 0, 0, false⟩ : Deed) y32) a0.Peer) : Deed) := hA261 5 (by kernel_rfl) (by show _ < 9; decide)
      have ha269 : f260 10 = Value.pointer (some ⟨b44, 0, none⟩) := (hB262 10 (by kernel_rfl)).trans rfl
      have ha269e : b265 = b44 := by have h3 := q266.symm.trans ha269; cases h3; rfl
      rw [ha269e] at hb267 hv268
      refine L_fieldAddr_var fld64_2 ha269 (by decide) ?_
      exact L_nil (hk263 _ _ No (Ext.refl s258) (fun _ h => h.elim) rfl (fun _ h => h.elim))
     ·intro f272 s270 hT271 hA273 hB274 Q hk275
      obtain ⟨b277, q278, hb279, hv280⟩ : ∃ b, f272 10 = Value.pointer (some ⟨b, 0, none⟩) ∧ s0.w.heap.size ≤ b ∧ Var s270 b 64 ((Deed.with_Peer (Deed.with_Req (⟨a0.Kind, 0, 0, 0, false⟩ : Deed) y32) a0.Peer) : Deed) := hA273 5 (by kernel_rfl) (by show _ < 9; decide)
      have ha281 : f272 10 = Value.pointer (some ⟨b44, 0, none⟩) := (hB274 10 (by kernel_rfl)).trans rfl
      have ha281e : b277 = b44 := by have h3 := q278.symm.trans ha281; cases h3; rfl
      rw [ha281e] at hb279 hv280
      have ha282 : f272 97 = Value.int .i64 (a0.Tag) := hA273 3 (by kernel_rfl) (by show _ < 9; decide)
      have ha283 : f272 99 = Value.pointer (some ⟨b44, 2, none⟩) := hA273 6 (by kernel_rfl) (by show _ < 9; decide)
      refine L_store_field ty3 Deed.set_Tag ha283 ha282 Vint (hv280) ?_
      intro s196 e194 hv195
      exact L_nil (hk275 undef _ _ e194 (fun k h => ⟨5, (List.mem_singleton.2 rfl : (5 : Nat) ∈ [5]), (by show ownP (f272 10) k; rw [ha281]; exact congrArg (fun z => Value.pointer (some ⟨z, 0, none⟩)) h.symm)⟩) ⟨_, ha281, hb279, hv195⟩ (fun k h => Or.inl ⟨5, (List.mem_singleton.2 rfl : (5 : Nat) ∈ [5]), h⟩))
     ·intro f286 s284 hT285 hP287 hD288 hB289
      have hE290 := Tch.trans hE185 hT285 (fun k h => Or.inr (by have h2 := ent_is (k := 8) rfl rfl h; have h3 := Eq.mp (congrArg (fun v => ownP v k) (rfl : _ = Value.pointer (some ⟨b44, 0, none⟩))) h2; cases h3; exact (Nat.le_trans hE38.size hb45)))
      obtain ⟨b291, q292, hb293, hv294⟩ : ∃ b, f286 10 = Value.pointer (some ⟨b, 0, none⟩) ∧ s0.w.heap.size ≤ b ∧ Var s284 b 64 ((Deed.with_Tag (Deed.with_Peer (Deed.with_Req (⟨a0.Kind, 0, 0, 0, false⟩ : Deed) y32) a0.Peer) a0.Tag) : Deed) := hP287 7 (by show _ < 9; decide) (by kernel_rfl)
      have ha295 : f286 10 = Value.pointer (some ⟨b44, 0, none⟩) := (hB289 10 (by kernel_rfl)).trans rfl
      have ha295e : b291 = b44 := by have h3 := q292.symm.trans ha295; cases h3; rfl
      rw [ha295e] at hb293 hv294
      have ha296 : f286 3 = p2 := (hB289 3 (by kernel_rfl)).trans g31_3
      have ha297 : f286 7 = Value.bool (x6) := (hB289 7 (by kernel_rfl)).trans g31_7
      have ha298 : f286 8 = Value.bool (x19) := (hB289 8 (by kernel_rfl)).trans g31_8
      refine then_n ?_
      refine W_seq ?_
      refine W_region ?_
      refine L_load ty64 ha296 (hp3.mono (l16.trans (l29.trans (e35.le.trans (e43.le.trans (e49.le.trans (e182.le.trans hT285.le))))))) (by decide) ?_
      intro v299 hv300
      refine L_load_var ty64 ha295 (hv294) (by decide) ?_
      intro v301 hv302
      refine L_seq64 (rfl : _ = v299) hv300 (rfl : _ = v301) hv302 (by decide) ?_
      refine L_move (rfl : _ = Value.bool (decide (a0 = (Deed.with_Tag (Deed.with_Peer (Deed.with_Req (⟨a0.Kind, 0, 0, 0, false⟩ : Deed) y32) a0.Peer) a0.Tag)))) (by decide) ?_
      rcases Bool.eq_false_or_eq_true (decide (a0 = (Deed.with_Tag (Deed.with_Peer (Deed.with_Req (⟨a0.Kind, 0, 0, 0, false⟩ : Deed) y32) a0.Peer) a0.Tag))) with hb303 | hb303
      ·have hr := ite_t hb303 hr
       refine L_gt (e := 103) (by rfl) (by decide) (rfl : _ = Value.bool (decide (a0 = (Deed.with_Tag (Deed.with_Peer (Deed.with_Req (⟨a0.Kind, 0, 0, 0, false⟩ : Deed) y32) a0.Peer) a0.Tag)))) hb303 ?_
       refine L_move ha297 (by decide) ?_
       refine L_pick_t (rfl : _ = Value.bool (decide (a0 = (Deed.with_Tag (Deed.with_Peer (Deed.with_Req (⟨a0.Kind, 0, 0, 0, false⟩ : Deed) y32) a0.Peer) a0.Tag)))) hb303 (rfl : _ = Value.bool (x6)) (by decide) ?_
       refine L_move (rfl : _ = Value.bool (x6)) (by decide) ?_
       rcases Bool.eq_false_or_eq_true (x6) with hb304 | hb304
       ·have hr := ite_t hb304 hr
        refine L_gt (e := 106) (by rfl) (by decide) (rfl : _ = Value.bool (x6)) hb304 ?_
        refine L_move ha298 (by decide) ?_
        refine L_pick_t (rfl : _ = Value.bool (x6)) hb304 (rfl : _ = Value.bool (x19)) (by decide) ?_
        refine L_assign (rfl : _ = Value.bool (x19)) (by decide) ?_
        refine L_nil ?_
        refine then_n ?_
        refine W_ret ?_
        obtain rfl := Option.some.inj hr
        exact done1 (Or.inl rfl) Try.results58 rfl ⟨_, _, rfl, rfl, hE290, Vbool⟩
       ·have hr := ite_f hb304 hr
        refine L_gf (e := 106) (by rfl) (by decide) (rfl : _ = Value.bool (x6)) hb304 (by decide) ?_
        refine L_pick_f (rfl : _ = Value.bool (x6)) hb304 (rfl : _ = Value.bool (false)) (by decide) ?_
        refine L_assign (rfl : _ = Value.bool (false)) (by decide) ?_
        refine L_nil ?_
        refine then_n ?_
        refine W_ret ?_
        obtain rfl := Option.some.inj hr
        exact done1 (Or.inl rfl) Try.results58 rfl ⟨_, _, rfl, rfl, hE290, Vbool⟩
      ·have hr := ite_f hb303 hr
       refine L_gf (e := 103) (by rfl) (by decide) (rfl : _ = Value.bool (decide (a0 = (Deed.with_Tag (Deed.with_Peer (Deed.with_Req (⟨a0.Kind, 0, 0, 0, false⟩ : Deed) y32) a0.Peer) a0.Tag)))) hb303 (by decide) ?_
       refine L_pick_f (rfl : _ = Value.bool (decide (a0 = (Deed.with_Tag (Deed.with_Peer (Deed.with_Req (⟨a0.Kind, 0, 0, 0, false⟩ : Deed) y32) a0.Peer) a0.Tag)))) hb303 (rfl : _ = Value.bool (false)) (by decide) ?_
       refine L_move (rfl : _ = Value.bool (false)) (by decide) ?_
       refine L_gf (e := 106) (by rfl) (by decide) (rfl : _ = Value.bool (false)) rfl (by decide) ?_
       refine L_pick_f (rfl : _ = Value.bool (false)) rfl (rfl : _ = Value.bool (false)) (by decide) ?_
       refine L_assign (rfl : _ = Value.bool (false)) (by decide) ?_
       refine L_nil ?_
       refine then_n ?_
       refine W_ret ?_
       obtain rfl := Option.some.inj hr
       exact done1 (Or.inl rfl) Try.results58 rfl ⟨_, _, rfl, rfl, hE290, Vbool⟩
    ·have hr := ite_f hb181 hr
     refine W_seq ?_
     refine W_seq ?_
     refine W_region ?_
     refine L_eql (rfl : _ = Value.int .i64 (a0.Kind)) (rfl : _ = Value.int .i64 (2)) (by decide) ?_
     refine L_assign (rfl : _ = Value.bool (decide (a0.Kind = 2))) (by decide) ?_
     refine L_nil ?_
     refine then_n ?_
     refine W_cond _ (rfl : _ = Value.bool (decide (a0.Kind = 2))) (fun hb305 => ?_) (fun hb305 => ?_)
     ·have hr := ite_t hb305 hr
      refine W_skip ?_
      refine then_n ?_
      refine W_cond _ (rfl : _ = Value.bool (decide (a0.Kind = 2))) (fun _ => ?_) (fun h => absurd (h.symm.trans hb305) (by decide))
      refine W_seq ?_
      refine W_seq ?_
      refine W_region ?_
      refine L_fieldAddr fld64_0 Deed.of_Kind g31_3 (hp3.mono (l16.trans (l29.trans (e35.le.trans (e43.le.trans e49.le))))) (by decide) ?_
      intro p307 hp308
      refine L_load_int ty3 (rfl : _ = p307) hp308 (by decide) ?_
      refine L_eql (rfl : _ = Value.int .i64 (a0.Kind)) (rfl : _ = Value.int .i64 (4)) (by decide) ?_
      refine L_nil ?_
      refine then_n ?_
      refine W_cond _ (rfl : _ = Value.bool (decide (a0.Kind = 4))) (fun hb309 => ?_) (fun hb309 => ?_)
      ·have hr := ite_t hb309 hr
       refine W_region ?_
       refine L_move (rfl : _ = Value.int .i64 (y32)) (by decide) ?_
       refine L_fieldAddr_var fld64_3 (rfl : _ = Value.pointer (some ⟨b44, 0, none⟩)) (by decide) ?_
       refine L_store_field ty3 Deed.set_Req (rfl : _ = Value.pointer (some ⟨b44, 3, none⟩)) (rfl : _ = Value.int .i64 (y32)) Vint (hv50) ?_
       intro s312 e310 hv311
       have hE313 := Tch.trans hE52 e310 (fun k hk => Or.inr (by subst hk; exact (Nat.le_trans hE38.size hb45)))
       refine L_nil ?_
       refine then_n ?_
       rcases Bool.eq_false_or_eq_true (x6) with hb314 | hb314
       ·have hr := ite_t hb314 hr
        rcases Bool.eq_false_or_eq_true (x19) with hb315 | hb315
        ·have hr := ite_t hb315 hr
         refine W_draws mixed (by kernel_rfl) [PV.eq (Value.bool (x6)), PV.eq (Value.bool (x6)), PV.eq (undef), PV.eq (undef), PV.eq (undef), PV.eq (Value.bool (true)), PV.eq (Value.bool (x19)), PV.eq (Value.bool (x19)), PV.eq (undef), PV.eq (undef), PV.eq (undef), PV.eq (Value.bool (true)), PV.eq (Value.bool (true)), PV.eq (Value.bool (true))] (Steps_cons ?_ (Steps_cons ?_ (Steps_cons ?_ (Steps_cons ?_ (Steps_cons ?_ (Steps_cons ?_ (Steps_cons ?_ (Steps_cons ?_ (Steps_cons ?_ (Steps_cons ?_ (Steps_cons ?_ (Steps_cons ?_ (Steps_cons ?_ (Steps_cons ?_ Steps_nil)))))))))))))) ?_
         ·intro f318 s316 e317 hA319 hB320 Q hk321
          have ha322 : f318 7 = Value.bool (x6) := (hB320 7 (by kernel_rfl)).trans g31_7
          refine L_move ha322 (by decide) ?_
          exact L_nil (hk321 _ _ (Ext.refl s316) rfl)
         ·intro f325 s323 e324 hA326 hB327 Q hk328
          have ha329 : f325 52 = Value.bool (x6) := hA326 0 52 (by kernel_rfl) (by kernel_rfl)
          refine L_move ha329 (by decide) ?_
          exact L_nil (hk328 _ _ (Ext.refl s323) rfl)
         ·intro f332 s330 e331 hA333 hB334 Q hk335
          have ha337 : f332 53 = Value.bool (x6) := hA333 1 53 (by kernel_rfl) (by kernel_rfl)
          refine L_gf (e := 53) (by rfl) (by decide) ha337 hb314 (by decide) ?_
          exact L_nil (hk335 _ _ (Ext.refl s330) rfl)
         ·intro f340 s338 e339 hA341 hB342 Q hk343
          have ha344 : f340 53 = Value.bool (x6) := hA341 1 53 (by kernel_rfl) (by kernel_rfl)
          refine L_gf (e := 53) (by rfl) (by decide) ha344 hb314 (by decide) ?_
          exact L_nil (hk343 _ _ (Ext.refl s338) rfl)
         ·intro f348 s346 e347 hA349 hB350 Q hk351
          have ha352 : f348 53 = Value.bool (x6) := hA349 1 53 (by kernel_rfl) (by kernel_rfl)
          refine L_gf (e := 53) (by rfl) (by decide) ha352 hb314 (by decide) ?_
          exact L_nil (hk351 _ _ (Ext.refl s346) rfl)
         ·intro f356 s354 e355 hA357 hB358 Q hk359
          have ha360 : f356 53 = Value.bool (x6) := hA357 1 53 (by kernel_rfl) (by kernel_rfl)
          refine L_pick_t ha360 hb314 (rfl : _ = Value.bool (true)) (by decide) ?_
          exact L_nil (hk359 _ _ (Ext.refl s354) rfl)
         ·intro f364 s362 e363 hA365 hB366 Q hk367
          have ha368 : f364 8 = Value.bool (x19) := (hB366 8 (by kernel_rfl)).trans g31_8
          refine L_move ha368 (by decide) ?_
          exact L_nil (hk367 _ _ (Ext.refl s362) rfl)
         ·intro f371 s369 e370 hA372 hB373 Q hk374
          have ha375 : f371 58 = Value.bool (x19) := hA372 6 58 (by kernel_rfl) (by kernel_rfl)
          refine L_move ha375 (by decide) ?_
          exact L_nil (hk374 _ _ (Ext.refl s369) rfl)
         ·intro f378 s376 e377 hA379 hB380 Q hk381
          have ha383 : f378 59 = Value.bool (x19) := hA379 7 59 (by kernel_rfl) (by kernel_rfl)
          refine L_gf (e := 59) (by rfl) (by decide) ha383 hb315 (by decide) ?_
          exact L_nil (hk381 _ _ (Ext.refl s376) rfl)
         ·intro f386 s384 e385 hA387 hB388 Q hk389
          have ha390 : f386 59 = Value.bool (x19) := hA387 7 59 (by kernel_rfl) (by kernel_rfl)
          refine L_gf (e := 59) (by rfl) (by decide) ha390 hb315 (by decide) ?_
          exact L_nil (hk389 _ _ (Ext.refl s384) rfl)
         ·intro f394 s392 e393 hA395 hB396 Q hk397
          have ha398 : f394 59 = Value.bool (x19) := hA395 7 59 (by kernel_rfl) (by kernel_rfl)
          refine L_gf (e := 59) (by rfl) (by decide) ha398 hb315 (by decide) ?_
          exact L_nil (hk397 _ _ (Ext.refl s392) rfl)
         ·intro f402 s400 e401 hA403 hB404 Q hk405
          have ha406 : f402 59 = Value.bool (x19) := hA403 7 59 (by kernel_rfl) (by kernel_rfl)
          refine L_pick_t ha406 hb315 (rfl : _ = Value.bool (true)) (by decide) ?_
          exact L_nil (hk405 _ _ (Ext.refl s400) rfl)
         ·intro f410 s408 e409 hA411 hB412 Q hk413
          have ha414 : f410 57 = Value.bool (true) := hA411 5 57 (by kernel_rfl) (by kernel_rfl)
          refine L_assign ha414 (by decide) ?_
          exact L_nil (hk413 _ _ (Ext.refl s408) rfl)
         ·intro f417 s415 e416 hA418 hB419 Q hk420
          have ha421 : f417 63 = Value.bool (true) := hA418 11 63 (by kernel_rfl) (by kernel_rfl)
          refine L_assign ha421 (by decide) ?_
          exact L_nil (hk420 _ _ (Ext.refl s415) rfl)
         ·intro f424 s422 e423 hA425 hB426
          have hE427 := Tch.ext hE313 e423
          have ha428 : f424 3 = p2 := (hB426 3 (by kernel_rfl)).trans g31_3
          have ha429 : f424 7 = Value.bool (true) := hA425 12 7 (by kernel_rfl)
          have ha430 : f424 8 = Value.bool (true) := hA425 13 8 (by kernel_rfl)
          have ha431 : f424 10 = Value.pointer (some ⟨b44, 0, none⟩) := (hB426 10 (by kernel_rfl)).trans rfl
          refine block_n ?_
          refine then_n ?_
          refine W_seq ?_
          refine W_drawP mixed 8 [PX.ptr (a0.Peer : Int), PX.eq (Value.int .i64 (a0.Peer)), PX.ptr (a0.Tag : Int), PX.eq (Value.int .i64 (a0.Tag)), PX.eq (Value.pointer (some ⟨b44, 1, none⟩)), PX.var s0.w.heap.size 64 ((Deed.with_Peer (Deed.with_Req (⟨a0.Kind, 0, 0, 0, false⟩ : Deed) y32) a0.Peer) : Deed), PX.eq (Value.pointer (some ⟨b44, 2, none⟩)), PX.var s0.w.heap.size 64 ((Deed.with_Tag (Deed.with_Peer (Deed.with_Req (⟨a0.Kind, 0, 0, 0, false⟩ : Deed) y32) a0.Peer) a0.Tag) : Deed), PX.var s0.w.heap.size 64 ((Deed.with_Req (⟨a0.Kind, 0, 0, 0, false⟩ : Deed) y32) : Deed)] [94, 95, 96, 97, 98, 10, 99, 10, 10] [[], [], [], [], [], [8], [], [5]] rfl (by kernel_rfl) (ent1 rfl ⟨b44, ha431, (Nat.le_trans hE38.size hb45), (hv311).ext e423⟩) (dis1 rfl) (StepsX_cons ?_ (StepsX_cons ?_ (StepsX_cons ?_ (StepsX_cons ?_ (StepsX_cons ?_ (StepsX_cons ?_ (StepsX_cons ?_ (StepsX_cons ?_ StepsX_nil)))))))) ?_
          ·intro f446 s444 hT445 hA447 hB448 Q hk449
           have ha450 : f446 3 = p2 := (hB448 3 (by kernel_rfl)).trans ha428
           refine L_fieldAddr fld64_1 Deed.of_Peer ha450 (hp3.mono (l16.trans (l29.trans (e35.le.trans (e43.le.trans (e49.le.trans (e310.le.trans (e423.le.trans hT445.le)))))))) (by decide) ?_
           intro p432 hp433
           exact L_nil (hk449 _ _ No (Ext.refl s444) (fun _ h => h.elim) hp433 (fun _ h => h.elim))
          ·intro f453 s451 hT452 hA454 hB455 Q hk456
           have ha457 : Ptr _ (f453 94) (a0.Peer : Int) := hA454 0 (by kernel_rfl) (by show _ < 9; decide)
           obtain ⟨v458, q459, hv460⟩ : ∃ v, _ = v ∧ Ptr _ v _ := ⟨_, rfl, ha457⟩
           refine L_load_int ty3 q459 hv460 (by decide) ?_
           exact L_nil (hk456 _ _ No (Ext.refl s451) (fun _ h => h.elim) rfl (fun _ h => h.elim))
          ·intro f463 s461 hT462 hA464 hB465 Q hk466
           have ha467 : f463 3 = p2 := (hB465 3 (by kernel_rfl)).trans ha428
           refine L_fieldAddr fld64_2 Deed.of_Tag ha467 (hp3.mono (l16.trans (l29.trans (e35.le.trans (e43.le.trans (e49.le.trans (e310.le.trans (e423.le.trans hT462.le)))))))) (by decide) ?_
           intro p434 hp435
           exact L_nil (hk466 _ _ No (Ext.refl s461) (fun _ h => h.elim) hp435 (fun _ h => h.elim))
          ·intro f470 s468 hT469 hA471 hB472 Q hk473
           have ha474 : Ptr _ (f470 96) (a0.Tag : Int) := hA471 2 (by kernel_rfl) (by show _ < 9; decide)
           obtain ⟨v475, q476, hv477⟩ : ∃ v, _ = v ∧ Ptr _ v _ := ⟨_, rfl, ha474⟩
           refine L_load_int ty3 q476 hv477 (by decide) ?_
           exact L_nil (hk473 _ _ No (Ext.refl s468) (fun _ h => h.elim) rfl (fun _ h => h.elim))
          ·intro f480 s478 hT479 hA481 hB482 Q hk483
           obtain ⟨b485, q486, hb487, hv488⟩ : ∃ b, f480 10 = Value.pointer (some ⟨b, 0, none⟩) ∧ s0.w.heap.size ≤ b ∧ Var s478 b 64 ((Deed.with_Req (⟨a0.Kind, 0, 0, 0, false⟩ : Deed) y32) : Deed) := hA481 8 (by kernel_rfl) (by show _ < 9; decide)
           have ha489 : f480 10 = Value.pointer (some ⟨b44, 0, none⟩) := (hB482 10 (by kernel_rfl)).trans ha431
           have ha489e : b485 = b44 := by have h3 := q486.symm.trans ha489; cases h3; rfl
           rw [ha489e] at hb487 hv488
           refine L_fieldAddr_var fld64_1 ha489 (by decide) ?_
           exact L_nil (hk483 _ _ No (Ext.refl s478) (fun _ h => h.elim) rfl (fun _ h => h.elim))
          ·intro f492 s490 hT491 hA493 hB494 Q hk495
           obtain ⟨b497, q498, hb499, hv500⟩ : ∃ b, f492 10 = Value.pointer (some ⟨b, 0, none⟩) ∧ s0.w.heap.size ≤ b ∧ Var s490 b 64 ((Deed.with_Req (⟨a0.Kind, 0, 0, 0, false⟩ : Deed) y32) : Deed) := hA493 8 (by kernel_rfl) (by show _ < 9; decide)
           have ha501 : f492 10 = Value.pointer (some ⟨b44, 0, none⟩) := (hB494 10 (by kernel_rfl)).trans ha431
           have ha501e : b497 = b44 := by have h3 := q498.symm.trans ha501; cases h3; rfl
           rw [ha501e] at hb499 hv500
           have ha502 : f492 95 = Value.int .i64 (a0.Peer) := hA493 1 (by kernel_rfl) (by show _ < 9; decide)
           have ha503 : f492 98 = Value.pointer (some ⟨b44, 1, none⟩) := hA493 4 (by kernel_rfl) (by show _ < 9; decide)
           refine L_store_field ty3 Deed.set_Peer ha503 ha502 Vint (hv500) ?_
           intro s438 e436 hv437
           exact L_nil (hk495 undef _ _ e436 (fun k h => ⟨8, (List.mem_singleton.2 rfl : (8 : Nat) ∈ [8]), (by show ownP (f492 10) k; rw [ha501]; exact congrArg (fun z => Value.pointer (some ⟨z, 0, none⟩)) h.symm)⟩) ⟨_, ha501, hb499, hv437⟩ (fun k h => Or.inl ⟨8, (List.mem_singleton.2 rfl : (8 : Nat) ∈ [8]), h⟩))
          ·intro f506 s504 hT505 hA507 hB508 Q hk509
           obtain ⟨b511, q512, hb513, hv514⟩ : ∃ b, f506 10 = Value.pointer (some ⟨b, 0, none⟩) ∧ s0.w.heap.size ≤ b ∧ Var s504 b 64 ((Deed.with_Peer (Deed.with_Req (⟨a0.Kind, 0, 0, 0, false⟩ : Deed) y32) a0.Peer) : Deed) := hA507 5 (by kernel_rfl) (by show _ < 9; decide)
           have ha515 : f506 10 = Value.pointer (some ⟨b44, 0, none⟩) := (hB508 10 (by kernel_rfl)).trans ha431
           have ha515e : b511 = b44 := by have h3 := q512.symm.trans ha515; cases h3; rfl
           rw [ha515e] at hb513 hv514
           refine L_fieldAddr_var fld64_2 ha515 (by decide) ?_
           exact L_nil (hk509 _ _ No (Ext.refl s504) (fun _ h => h.elim) rfl (fun _ h => h.elim))
          ·intro f518 s516 hT517 hA519 hB520 Q hk521
           obtain ⟨b523, q524, hb525, hv526⟩ : ∃ b, f518 10 = Value.pointer (some ⟨b, 0, none⟩) ∧ s0.w.heap.size ≤ b ∧ Var s516 b 64 ((Deed.with_Peer (Deed.with_Req (⟨a0.Kind, 0, 0, 0, false⟩ : Deed) y32) a0.Peer) : Deed) := hA519 5 (by kernel_rfl) (by show _ < 9; decide)
           have ha527 : f518 10 = Value.pointer (some ⟨b44, 0, none⟩) := (hB520 10 (by kernel_rfl)).trans ha431
           have ha527e : b523 = b44 := by have h3 := q524.symm.trans ha527; cases h3; rfl
           rw [ha527e] at hb525 hv526
           have ha528 : f518 97 = Value.int .i64 (a0.Tag) := hA519 3 (by kernel_rfl) (by show _ < 9; decide)
           have ha529 : f518 99 = Value.pointer (some ⟨b44, 2, none⟩) := hA519 6 (by kernel_rfl) (by show _ < 9; decide)
           refine L_store_field ty3 Deed.set_Tag ha529 ha528 Vint (hv526) ?_
           intro s442 e440 hv441
           exact L_nil (hk521 undef _ _ e440 (fun k h => ⟨5, (List.mem_singleton.2 rfl : (5 : Nat) ∈ [5]), (by show ownP (f518 10) k; rw [ha527]; exact congrArg (fun z => Value.pointer (some ⟨z, 0, none⟩)) h.symm)⟩) ⟨_, ha527, hb525, hv441⟩ (fun k h => Or.inl ⟨5, (List.mem_singleton.2 rfl : (5 : Nat) ∈ [5]), h⟩))
          ·intro f532 s530 hT531 hP533 hD534 hB535
           have hE536 := Tch.trans hE427 hT531 (fun k h => Or.inr (by have h2 := ent_is (k := 8) rfl rfl h; have h3 := Eq.mp (congrArg (fun v => ownP v k) (ha431 : _ = Value.pointer (some ⟨b44, 0, none⟩))) h2; cases h3; exact (Nat.le_trans hE38.size hb45)))
           obtain ⟨b537, q538, hb539, hv540⟩ : ∃ b, f532 10 = Value.pointer (some ⟨b, 0, none⟩) ∧ s0.w.heap.size ≤ b ∧ Var s530 b 64 ((Deed.with_Tag (Deed.with_Peer (Deed.with_Req (⟨a0.Kind, 0, 0, 0, false⟩ : Deed) y32) a0.Peer) a0.Tag) : Deed) := hP533 7 (by show _ < 9; decide) (by kernel_rfl)
           have ha541 : f532 10 = Value.pointer (some ⟨b44, 0, none⟩) := (hB535 10 (by kernel_rfl)).trans ha431
           have ha541e : b537 = b44 := by have h3 := q538.symm.trans ha541; cases h3; rfl
           rw [ha541e] at hb539 hv540
           have ha542 : f532 3 = p2 := (hB535 3 (by kernel_rfl)).trans ha428
           have ha543 : f532 7 = Value.bool (true) := (hB535 7 (by kernel_rfl)).trans ha429
           have ha544 : f532 8 = Value.bool (true) := (hB535 8 (by kernel_rfl)).trans ha430
           refine then_n ?_
           refine W_seq ?_
           refine W_region ?_
           refine L_load ty64 ha542 (hp3.mono (l16.trans (l29.trans (e35.le.trans (e43.le.trans (e49.le.trans (e310.le.trans (e423.le.trans hT531.le)))))))) (by decide) ?_
           intro v545 hv546
           refine L_load_var ty64 ha541 (hv540) (by decide) ?_
           intro v547 hv548
           refine L_seq64 (rfl : _ = v545) hv546 (rfl : _ = v547) hv548 (by decide) ?_
           refine L_move (rfl : _ = Value.bool (decide (a0 = (Deed.with_Tag (Deed.with_Peer (Deed.with_Req (⟨a0.Kind, 0, 0, 0, false⟩ : Deed) y32) a0.Peer) a0.Tag)))) (by decide) ?_
           rcases Bool.eq_false_or_eq_true (decide (a0 = (Deed.with_Tag (Deed.with_Peer (Deed.with_Req (⟨a0.Kind, 0, 0, 0, false⟩ : Deed) y32) a0.Peer) a0.Tag))) with hb549 | hb549
           ·have hr := ite_t hb549 hr
            refine L_gt (e := 103) (by rfl) (by decide) (rfl : _ = Value.bool (decide (a0 = (Deed.with_Tag (Deed.with_Peer (Deed.with_Req (⟨a0.Kind, 0, 0, 0, false⟩ : Deed) y32) a0.Peer) a0.Tag)))) hb549 ?_
            refine L_move ha543 (by decide) ?_
            refine L_pick_t (rfl : _ = Value.bool (decide (a0 = (Deed.with_Tag (Deed.with_Peer (Deed.with_Req (⟨a0.Kind, 0, 0, 0, false⟩ : Deed) y32) a0.Peer) a0.Tag)))) hb549 (rfl : _ = Value.bool (true)) (by decide) ?_
            refine L_move (rfl : _ = Value.bool (true)) (by decide) ?_
            refine L_gt (e := 106) (by rfl) (by decide) (rfl : _ = Value.bool (true)) rfl ?_
            refine L_move ha544 (by decide) ?_
            refine L_pick_t (rfl : _ = Value.bool (true)) rfl (rfl : _ = Value.bool (true)) (by decide) ?_
            refine L_assign (rfl : _ = Value.bool (true)) (by decide) ?_
            refine L_nil ?_
            refine then_n ?_
            refine W_ret ?_
            obtain rfl := Option.some.inj hr
            exact done1 (Or.inl rfl) Try.results58 rfl ⟨_, _, rfl, rfl, hE536, Vbool⟩
           ·have hr := ite_f hb549 hr
            refine L_gf (e := 103) (by rfl) (by decide) (rfl : _ = Value.bool (decide (a0 = (Deed.with_Tag (Deed.with_Peer (Deed.with_Req (⟨a0.Kind, 0, 0, 0, false⟩ : Deed) y32) a0.Peer) a0.Tag)))) hb549 (by decide) ?_
            refine L_pick_f (rfl : _ = Value.bool (decide (a0 = (Deed.with_Tag (Deed.with_Peer (Deed.with_Req (⟨a0.Kind, 0, 0, 0, false⟩ : Deed) y32) a0.Peer) a0.Tag)))) hb549 (rfl : _ = Value.bool (false)) (by decide) ?_
            refine L_move (rfl : _ = Value.bool (false)) (by decide) ?_
            refine L_gf (e := 106) (by rfl) (by decide) (rfl : _ = Value.bool (false)) rfl (by decide) ?_
            refine L_pick_f (rfl : _ = Value.bool (false)) rfl (rfl : _ = Value.bool (false)) (by decide) ?_
            refine L_assign (rfl : _ = Value.bool (false)) (by decide) ?_
            refine L_nil ?_
            refine then_n ?_
            refine W_ret ?_
            obtain rfl := Option.some.inj hr
            exact done1 (Or.inl rfl) Try.results58 rfl ⟨_, _, rfl, rfl, hE536, Vbool⟩
        ·have hr := ite_f hb315 hr
         refine W_draws mixed (by kernel_rfl) [PV.eq (Value.bool (x6)), PV.eq (Value.bool (x6)), PV.eq (undef), PV.eq (undef), PV.eq (undef), PV.eq (Value.bool (true)), PV.eq (Value.bool (x19)), PV.eq (Value.bool (x19)), PV.ptr (a0.Peer : Int), PV.eq (Value.int .i64 (a0.Peer)), PV.eq (Value.bool (decide (a0.Peer = (-1)))), PV.eq (Value.bool (decide (a0.Peer = (-1)))), PV.eq (Value.bool (true)), PV.eq (Value.bool (decide (a0.Peer = (-1))))] (Steps_cons ?_ (Steps_cons ?_ (Steps_cons ?_ (Steps_cons ?_ (Steps_cons ?_ (Steps_cons ?_ (Steps_cons ?_ (Steps_cons ?_ (Steps_cons ?_ (Steps_cons ?_ (Steps_cons ?_ (Steps_cons ?_ (Steps_cons ?_ (Steps_cons ?_ Steps_nil)))))))))))))) ?_
         ·intro f554 s552 e553 hA555 hB556 Q hk557
          have ha558 : f554 7 = Value.bool (x6) := (hB556 7 (by kernel_rfl)).trans g31_7
          refine L_move ha558 (by decide) ?_
          exact L_nil (hk557 _ _ (Ext.refl s552) rfl)
         ·intro f561 s559 e560 hA562 hB563 Q hk564
          have ha565 : f561 52 = Value.bool (x6) := hA562 0 52 (by kernel_rfl) (by kernel_rfl)
          refine L_move ha565 (by decide) ?_
          exact L_nil (hk564 _ _ (Ext.refl s559) rfl)
         ·intro f568 s566 e567 hA569 hB570 Q hk571
          have ha573 : f568 53 = Value.bool (x6) := hA569 1 53 (by kernel_rfl) (by kernel_rfl)
          refine L_gf (e := 53) (by rfl) (by decide) ha573 hb314 (by decide) ?_
          exact L_nil (hk571 _ _ (Ext.refl s566) rfl)
         ·intro f576 s574 e575 hA577 hB578 Q hk579
          have ha580 : f576 53 = Value.bool (x6) := hA577 1 53 (by kernel_rfl) (by kernel_rfl)
          refine L_gf (e := 53) (by rfl) (by decide) ha580 hb314 (by decide) ?_
          exact L_nil (hk579 _ _ (Ext.refl s574) rfl)
         ·intro f584 s582 e583 hA585 hB586 Q hk587
          have ha588 : f584 53 = Value.bool (x6) := hA585 1 53 (by kernel_rfl) (by kernel_rfl)
          refine L_gf (e := 53) (by rfl) (by decide) ha588 hb314 (by decide) ?_
          exact L_nil (hk587 _ _ (Ext.refl s582) rfl)
         ·intro f592 s590 e591 hA593 hB594 Q hk595
          have ha596 : f592 53 = Value.bool (x6) := hA593 1 53 (by kernel_rfl) (by kernel_rfl)
          refine L_pick_t ha596 hb314 (rfl : _ = Value.bool (true)) (by decide) ?_
          exact L_nil (hk595 _ _ (Ext.refl s590) rfl)
         ·intro f600 s598 e599 hA601 hB602 Q hk603
          have ha604 : f600 8 = Value.bool (x19) := (hB602 8 (by kernel_rfl)).trans g31_8
          refine L_move ha604 (by decide) ?_
          exact L_nil (hk603 _ _ (Ext.refl s598) rfl)
         ·intro f607 s605 e606 hA608 hB609 Q hk610
          have ha611 : f607 58 = Value.bool (x19) := hA608 6 58 (by kernel_rfl) (by kernel_rfl)
          refine L_move ha611 (by decide) ?_
          exact L_nil (hk610 _ _ (Ext.refl s605) rfl)
         ·intro f614 s612 e613 hA615 hB616 Q hk617
          have ha618 : f614 3 = p2 := (hB616 3 (by kernel_rfl)).trans g31_3
          have ha619 : f614 59 = Value.bool (x19) := hA615 7 59 (by kernel_rfl) (by kernel_rfl)
          refine L_gt (e := 59) (by rfl) (by decide) ha619 hb315 ?_
          refine L_fieldAddr fld64_1 Deed.of_Peer ha618 (hp3.mono (l16.trans (l29.trans (e35.le.trans (e43.le.trans (e49.le.trans (e310.le.trans e613.le))))))) (by decide) ?_
          intro p550 hp551
          exact L_nil (hk617 _ _ (Ext.refl s612) hp551)
         ·intro f622 s620 e621 hA623 hB624 Q hk625
          have ha626 : f622 59 = Value.bool (x19) := hA623 7 59 (by kernel_rfl) (by kernel_rfl)
          have ha627 : Ptr _ (f622 60) (a0.Peer : Int) := hA623 8 60 (by kernel_rfl) (by kernel_rfl)
          obtain ⟨v628, q629, hv630⟩ : ∃ v, _ = v ∧ Ptr _ v _ := ⟨_, rfl, ha627⟩
          refine L_gt (e := 59) (by rfl) (by decide) ha626 hb315 ?_
          refine L_load_int ty3 q629 hv630 (by decide) ?_
          exact L_nil (hk625 _ _ (Ext.refl s620) rfl)
         ·intro f633 s631 e632 hA634 hB635 Q hk636
          have ha637 : f633 59 = Value.bool (x19) := hA634 7 59 (by kernel_rfl) (by kernel_rfl)
          have ha638 : f633 61 = Value.int .i64 (a0.Peer) := hA634 9 61 (by kernel_rfl) (by kernel_rfl)
          refine L_gt (e := 59) (by rfl) (by decide) ha637 hb315 ?_
          refine L_eql ha638 (rfl : _ = Value.int .i64 (-1)) (by decide) ?_
          exact L_nil (hk636 _ _ (Ext.refl s631) rfl)
         ·intro f641 s639 e640 hA642 hB643 Q hk644
          have ha645 : f641 59 = Value.bool (x19) := hA642 7 59 (by kernel_rfl) (by kernel_rfl)
          have ha646 : f641 62 = Value.bool (decide (a0.Peer = (-1))) := hA642 10 62 (by kernel_rfl) (by kernel_rfl)
          refine L_pick_f ha645 hb315 ha646 (by decide) ?_
          exact L_nil (hk644 _ _ (Ext.refl s639) rfl)
         ·intro f649 s647 e648 hA650 hB651 Q hk652
          have ha653 : f649 57 = Value.bool (true) := hA650 5 57 (by kernel_rfl) (by kernel_rfl)
          refine L_assign ha653 (by decide) ?_
          exact L_nil (hk652 _ _ (Ext.refl s647) rfl)
         ·intro f656 s654 e655 hA657 hB658 Q hk659
          have ha660 : f656 63 = Value.bool (decide (a0.Peer = (-1))) := hA657 11 63 (by kernel_rfl) (by kernel_rfl)
          refine L_assign ha660 (by decide) ?_
          exact L_nil (hk659 _ _ (Ext.refl s654) rfl)
         ·intro f663 s661 e662 hA664 hB665
          have hE666 := Tch.ext hE313 e662
          have ha667 : f663 3 = p2 := (hB665 3 (by kernel_rfl)).trans g31_3
          have ha668 : f663 7 = Value.bool (true) := hA664 12 7 (by kernel_rfl)
          have ha669 : f663 8 = Value.bool (decide (a0.Peer = (-1))) := hA664 13 8 (by kernel_rfl)
          have ha670 : f663 10 = Value.pointer (some ⟨b44, 0, none⟩) := (hB665 10 (by kernel_rfl)).trans rfl
          refine block_n ?_
          refine then_n ?_
          refine W_seq ?_
          refine W_drawP mixed 8 [PX.ptr (a0.Peer : Int), PX.eq (Value.int .i64 (a0.Peer)), PX.ptr (a0.Tag : Int), PX.eq (Value.int .i64 (a0.Tag)), PX.eq (Value.pointer (some ⟨b44, 1, none⟩)), PX.var s0.w.heap.size 64 ((Deed.with_Peer (Deed.with_Req (⟨a0.Kind, 0, 0, 0, false⟩ : Deed) y32) a0.Peer) : Deed), PX.eq (Value.pointer (some ⟨b44, 2, none⟩)), PX.var s0.w.heap.size 64 ((Deed.with_Tag (Deed.with_Peer (Deed.with_Req (⟨a0.Kind, 0, 0, 0, false⟩ : Deed) y32) a0.Peer) a0.Tag) : Deed), PX.var s0.w.heap.size 64 ((Deed.with_Req (⟨a0.Kind, 0, 0, 0, false⟩ : Deed) y32) : Deed)] [94, 95, 96, 97, 98, 10, 99, 10, 10] [[], [], [], [], [], [8], [], [5]] rfl (by kernel_rfl) (ent1 rfl ⟨b44, ha670, (Nat.le_trans hE38.size hb45), (hv311).ext e662⟩) (dis1 rfl) (StepsX_cons ?_ (StepsX_cons ?_ (StepsX_cons ?_ (StepsX_cons ?_ (StepsX_cons ?_ (StepsX_cons ?_ (StepsX_cons ?_ (StepsX_cons ?_ StepsX_nil)))))))) ?_
          ·intro f685 s683 hT684 hA686 hB687 Q hk688
           have ha689 : f685 3 = p2 := (hB687 3 (by kernel_rfl)).trans ha667
           refine L_fieldAddr fld64_1 Deed.of_Peer ha689 (hp3.mono (l16.trans (l29.trans (e35.le.trans (e43.le.trans (e49.le.trans (e310.le.trans (e662.le.trans hT684.le)))))))) (by decide) ?_
           intro p671 hp672
           exact L_nil (hk688 _ _ No (Ext.refl s683) (fun _ h => h.elim) hp672 (fun _ h => h.elim))
          ·intro f692 s690 hT691 hA693 hB694 Q hk695
           have ha696 : Ptr _ (f692 94) (a0.Peer : Int) := hA693 0 (by kernel_rfl) (by show _ < 9; decide)
           obtain ⟨v697, q698, hv699⟩ : ∃ v, _ = v ∧ Ptr _ v _ := ⟨_, rfl, ha696⟩
           refine L_load_int ty3 q698 hv699 (by decide) ?_
           exact L_nil (hk695 _ _ No (Ext.refl s690) (fun _ h => h.elim) rfl (fun _ h => h.elim))
          ·intro f702 s700 hT701 hA703 hB704 Q hk705
           have ha706 : f702 3 = p2 := (hB704 3 (by kernel_rfl)).trans ha667
           refine L_fieldAddr fld64_2 Deed.of_Tag ha706 (hp3.mono (l16.trans (l29.trans (e35.le.trans (e43.le.trans (e49.le.trans (e310.le.trans (e662.le.trans hT701.le)))))))) (by decide) ?_
           intro p673 hp674
           exact L_nil (hk705 _ _ No (Ext.refl s700) (fun _ h => h.elim) hp674 (fun _ h => h.elim))
          ·intro f709 s707 hT708 hA710 hB711 Q hk712
           have ha713 : Ptr _ (f709 96) (a0.Tag : Int) := hA710 2 (by kernel_rfl) (by show _ < 9; decide)
           obtain ⟨v714, q715, hv716⟩ : ∃ v, _ = v ∧ Ptr _ v _ := ⟨_, rfl, ha713⟩
           refine L_load_int ty3 q715 hv716 (by decide) ?_
           exact L_nil (hk712 _ _ No (Ext.refl s707) (fun _ h => h.elim) rfl (fun _ h => h.elim))
          ·intro f719 s717 hT718 hA720 hB721 Q hk722
           obtain ⟨b724, q725, hb726, hv727⟩ : ∃ b, f719 10 = Value.pointer (some ⟨b, 0, none⟩) ∧ s0.w.heap.size ≤ b ∧ Var s717 b 64 ((Deed.with_Req (⟨a0.Kind, 0, 0, 0, false⟩ : Deed) y32) : Deed) := hA720 8 (by kernel_rfl) (by show _ < 9; decide)
           have ha728 : f719 10 = Value.pointer (some ⟨b44, 0, none⟩) := (hB721 10 (by kernel_rfl)).trans ha670
           have ha728e : b724 = b44 := by have h3 := q725.symm.trans ha728; cases h3; rfl
           rw [ha728e] at hb726 hv727
           refine L_fieldAddr_var fld64_1 ha728 (by decide) ?_
           exact L_nil (hk722 _ _ No (Ext.refl s717) (fun _ h => h.elim) rfl (fun _ h => h.elim))
          ·intro f731 s729 hT730 hA732 hB733 Q hk734
           obtain ⟨b736, q737, hb738, hv739⟩ : ∃ b, f731 10 = Value.pointer (some ⟨b, 0, none⟩) ∧ s0.w.heap.size ≤ b ∧ Var s729 b 64 ((Deed.with_Req (⟨a0.Kind, 0, 0, 0, false⟩ : Deed) y32) : Deed) := hA732 8 (by kernel_rfl) (by show _ < 9; decide)
           have ha740 : f731 10 = Value.pointer (some ⟨b44, 0, none⟩) := (hB733 10 (by kernel_rfl)).trans ha670
           have ha740e : b736 = b44 := by have h3 := q737.symm.trans ha740; cases h3; rfl
           rw [ha740e] at hb738 hv739
           have ha741 : f731 95 = Value.int .i64 (a0.Peer) := hA732 1 (by kernel_rfl) (by show _ < 9; decide)
           have ha742 : f731 98 = Value.pointer (some ⟨b44, 1, none⟩) := hA732 4 (by kernel_rfl) (by show _ < 9; decide)
           refine L_store_field ty3 Deed.set_Peer ha742 ha741 Vint (hv739) ?_
           intro s677 e675 hv676
           exact L_nil (hk734 undef _ _ e675 (fun k h => ⟨8, (List.mem_singleton.2 rfl : (8 : Nat) ∈ [8]), (by show ownP (f731 10) k; rw [ha740]; exact congrArg (fun z => Value.pointer (some ⟨z, 0, none⟩)) h.symm)⟩) ⟨_, ha740, hb738, hv676⟩ (fun k h => Or.inl ⟨8, (List.mem_singleton.2 rfl : (8 : Nat) ∈ [8]), h⟩))
          ·intro f745 s743 hT744 hA746 hB747 Q hk748
           obtain ⟨b750, q751, hb752, hv753⟩ : ∃ b, f745 10 = Value.pointer (some ⟨b, 0, none⟩) ∧ s0.w.heap.size ≤ b ∧ Var s743 b 64 ((Deed.with_Peer (Deed.with_Req (⟨a0.Kind, 0, 0, 0, false⟩ : Deed) y32) a0.Peer) : Deed) := hA746 5 (by kernel_rfl) (by show _ < 9; decide)
           have ha754 : f745 10 = Value.pointer (some ⟨b44, 0, none⟩) := (hB747 10 (by kernel_rfl)).trans ha670
           have ha754e : b750 = b44 := by have h3 := q751.symm.trans ha754; cases h3; rfl
           rw [ha754e] at hb752 hv753
           refine L_fieldAddr_var fld64_2 ha754 (by decide) ?_
           exact L_nil (hk748 _ _ No (Ext.refl s743) (fun _ h => h.elim) rfl (fun _ h => h.elim))
          ·intro f757 s755 hT756 hA758 hB759 Q hk760
           obtain ⟨b762, q763, hb764, hv765⟩ : ∃ b, f757 10 = Value.pointer (some ⟨b, 0, none⟩) ∧ s0.w.heap.size ≤ b ∧ Var s755 b 64 ((Deed.with_Peer (Deed.with_Req (⟨a0.Kind, 0, 0, 0, false⟩ : Deed) y32) a0.Peer) : Deed) := hA758 5 (by kernel_rfl) (by show _ < 9; decide)
           have ha766 : f757 10 = Value.pointer (some ⟨b44, 0, none⟩) := (hB759 10 (by kernel_rfl)).trans ha670
           have ha766e : b762 = b44 := by have h3 := q763.symm.trans ha766; cases h3; rfl
           rw [ha766e] at hb764 hv765
           have ha767 : f757 97 = Value.int .i64 (a0.Tag) := hA758 3 (by kernel_rfl) (by show _ < 9; decide)
           have ha768 : f757 99 = Value.pointer (some ⟨b44, 2, none⟩) := hA758 6 (by kernel_rfl) (by show _ < 9; decide)
           refine L_store_field ty3 Deed.set_Tag ha768 ha767 Vint (hv765) ?_
           intro s681 e679 hv680
           exact L_nil (hk760 undef _ _ e679 (fun k h => ⟨5, (List.mem_singleton.2 rfl : (5 : Nat) ∈ [5]), (by show ownP (f757 10) k; rw [ha766]; exact congrArg (fun z => Value.pointer (some ⟨z, 0, none⟩)) h.symm)⟩) ⟨_, ha766, hb764, hv680⟩ (fun k h => Or.inl ⟨5, (List.mem_singleton.2 rfl : (5 : Nat) ∈ [5]), h⟩))
          ·intro f771 s769 hT770 hP772 hD773 hB774
           have hE775 := Tch.trans hE666 hT770 (fun k h => Or.inr (by have h2 := ent_is (k := 8) rfl rfl h; have h3 := Eq.mp (congrArg (fun v => ownP v k) (ha670 : _ = Value.pointer (some ⟨b44, 0, none⟩))) h2; cases h3; exact (Nat.le_trans hE38.size hb45)))
           obtain ⟨b776, q777, hb778, hv779⟩ : ∃ b, f771 10 = Value.pointer (some ⟨b, 0, none⟩) ∧ s0.w.heap.size ≤ b ∧ Var s769 b 64 ((Deed.with_Tag (Deed.with_Peer (Deed.with_Req (⟨a0.Kind, 0, 0, 0, false⟩ : Deed) y32) a0.Peer) a0.Tag) : Deed) := hP772 7 (by show _ < 9; decide) (by kernel_rfl)
           have ha780 : f771 10 = Value.pointer (some ⟨b44, 0, none⟩) := (hB774 10 (by kernel_rfl)).trans ha670
           have ha780e : b776 = b44 := by have h3 := q777.symm.trans ha780; cases h3; rfl
           rw [ha780e] at hb778 hv779
           have ha781 : f771 3 = p2 := (hB774 3 (by kernel_rfl)).trans ha667
           have ha782 : f771 7 = Value.bool (true) := (hB774 7 (by kernel_rfl)).trans ha668
           have ha783 : f771 8 = Value.bool (decide (a0.Peer = (-1))) := (hB774 8 (by kernel_rfl)).trans ha669
           refine then_n ?_
           refine W_seq ?_
           refine W_region ?_
           refine L_load ty64 ha781 (hp3.mono (l16.trans (l29.trans (e35.le.trans (e43.le.trans (e49.le.trans (e310.le.trans (e662.le.trans hT770.le)))))))) (by decide) ?_
           intro v784 hv785
           refine L_load_var ty64 ha780 (hv779) (by decide) ?_
           intro v786 hv787
           refine L_seq64 (rfl : _ = v784) hv785 (rfl : _ = v786) hv787 (by decide) ?_
           refine L_move (rfl : _ = Value.bool (decide (a0 = (Deed.with_Tag (Deed.with_Peer (Deed.with_Req (⟨a0.Kind, 0, 0, 0, false⟩ : Deed) y32) a0.Peer) a0.Tag)))) (by decide) ?_
           rcases Bool.eq_false_or_eq_true (decide (a0 = (Deed.with_Tag (Deed.with_Peer (Deed.with_Req (⟨a0.Kind, 0, 0, 0, false⟩ : Deed) y32) a0.Peer) a0.Tag))) with hb788 | hb788
           ·have hr := ite_t hb788 hr
            refine L_gt (e := 103) (by rfl) (by decide) (rfl : _ = Value.bool (decide (a0 = (Deed.with_Tag (Deed.with_Peer (Deed.with_Req (⟨a0.Kind, 0, 0, 0, false⟩ : Deed) y32) a0.Peer) a0.Tag)))) hb788 ?_
            refine L_move ha782 (by decide) ?_
            refine L_pick_t (rfl : _ = Value.bool (decide (a0 = (Deed.with_Tag (Deed.with_Peer (Deed.with_Req (⟨a0.Kind, 0, 0, 0, false⟩ : Deed) y32) a0.Peer) a0.Tag)))) hb788 (rfl : _ = Value.bool (true)) (by decide) ?_
            refine L_move (rfl : _ = Value.bool (true)) (by decide) ?_
            refine L_gt (e := 106) (by rfl) (by decide) (rfl : _ = Value.bool (true)) rfl ?_
            refine L_move ha783 (by decide) ?_
            refine L_pick_t (rfl : _ = Value.bool (true)) rfl (rfl : _ = Value.bool (decide (a0.Peer = (-1)))) (by decide) ?_
            refine L_assign (rfl : _ = Value.bool (decide (a0.Peer = (-1)))) (by decide) ?_
            refine L_nil ?_
            refine then_n ?_
            refine W_ret ?_
            obtain rfl := Option.some.inj hr
            exact done1 (Or.inl rfl) Try.results58 rfl ⟨_, _, rfl, rfl, hE775, Vbool⟩
           ·have hr := ite_f hb788 hr
            refine L_gf (e := 103) (by rfl) (by decide) (rfl : _ = Value.bool (decide (a0 = (Deed.with_Tag (Deed.with_Peer (Deed.with_Req (⟨a0.Kind, 0, 0, 0, false⟩ : Deed) y32) a0.Peer) a0.Tag)))) hb788 (by decide) ?_
            refine L_pick_f (rfl : _ = Value.bool (decide (a0 = (Deed.with_Tag (Deed.with_Peer (Deed.with_Req (⟨a0.Kind, 0, 0, 0, false⟩ : Deed) y32) a0.Peer) a0.Tag)))) hb788 (rfl : _ = Value.bool (false)) (by decide) ?_
            refine L_move (rfl : _ = Value.bool (false)) (by decide) ?_
            refine L_gf (e := 106) (by rfl) (by decide) (rfl : _ = Value.bool (false)) rfl (by decide) ?_
            refine L_pick_f (rfl : _ = Value.bool (false)) rfl (rfl : _ = Value.bool (false)) (by decide) ?_
            refine L_assign (rfl : _ = Value.bool (false)) (by decide) ?_
            refine L_nil ?_
            refine then_n ?_
            refine W_ret ?_
            obtain rfl := Option.some.inj hr
            exact done1 (Or.inl rfl) Try.results58 rfl ⟨_, _, rfl, rfl, hE775, Vbool⟩
       ·have hr := ite_f hb314 hr
        rcases Bool.eq_false_or_eq_true (x19) with hb791 | hb791
        ·have hr := ite_t hb791 hr
         refine W_draws mixed (by kernel_rfl) [PV.eq (Value.bool (x6)), PV.eq (Value.bool (x6)), PV.ptr (a0.Tag : Int), PV.eq (Value.int .i64 (a0.Tag)), PV.eq (Value.bool (decide (a0.Tag = (-1)))), PV.eq (Value.bool (decide (a0.Tag = (-1)))), PV.eq (Value.bool (x19)), PV.eq (Value.bool (x19)), PV.eq (undef), PV.eq (undef), PV.eq (undef), PV.eq (Value.bool (true)), PV.eq (Value.bool (decide (a0.Tag = (-1)))), PV.eq (Value.bool (true))] (Steps_cons ?_ (Steps_cons ?_ (Steps_cons ?_ (Steps_cons ?_ (Steps_cons ?_ (Steps_cons ?_ (Steps_cons ?_ (Steps_cons ?_ (Steps_cons ?_ (Steps_cons ?_ (Steps_cons ?_ (Steps_cons ?_ (Steps_cons ?_ (Steps_cons ?_ Steps_nil)))))))))))))) ?_
         ·intro f794 s792 e793 hA795 hB796 Q hk797
          have ha798 : f794 7 = Value.bool (x6) := (hB796 7 (by kernel_rfl)).trans g31_7
          refine L_move ha798 (by decide) ?_
          exact L_nil (hk797 _ _ (Ext.refl s792) rfl)
         ·intro f801 s799 e800 hA802 hB803 Q hk804
          have ha805 : f801 52 = Value.bool (x6) := hA802 0 52 (by kernel_rfl) (by kernel_rfl)
          refine L_move ha805 (by decide) ?_
          exact L_nil (hk804 _ _ (Ext.refl s799) rfl)
         ·intro f808 s806 e807 hA809 hB810 Q hk811
          have ha812 : f808 3 = p2 := (hB810 3 (by kernel_rfl)).trans g31_3
          have ha813 : f808 53 = Value.bool (x6) := hA809 1 53 (by kernel_rfl) (by kernel_rfl)
          refine L_gt (e := 53) (by rfl) (by decide) ha813 hb314 ?_
          refine L_fieldAddr fld64_2 Deed.of_Tag ha812 (hp3.mono (l16.trans (l29.trans (e35.le.trans (e43.le.trans (e49.le.trans (e310.le.trans e807.le))))))) (by decide) ?_
          intro p789 hp790
          exact L_nil (hk811 _ _ (Ext.refl s806) hp790)
         ·intro f816 s814 e815 hA817 hB818 Q hk819
          have ha820 : f816 53 = Value.bool (x6) := hA817 1 53 (by kernel_rfl) (by kernel_rfl)
          have ha821 : Ptr _ (f816 54) (a0.Tag : Int) := hA817 2 54 (by kernel_rfl) (by kernel_rfl)
          obtain ⟨v822, q823, hv824⟩ : ∃ v, _ = v ∧ Ptr _ v _ := ⟨_, rfl, ha821⟩
          refine L_gt (e := 53) (by rfl) (by decide) ha820 hb314 ?_
          refine L_load_int ty3 q823 hv824 (by decide) ?_
          exact L_nil (hk819 _ _ (Ext.refl s814) rfl)
         ·intro f827 s825 e826 hA828 hB829 Q hk830
          have ha831 : f827 53 = Value.bool (x6) := hA828 1 53 (by kernel_rfl) (by kernel_rfl)
          have ha832 : f827 55 = Value.int .i64 (a0.Tag) := hA828 3 55 (by kernel_rfl) (by kernel_rfl)
          refine L_gt (e := 53) (by rfl) (by decide) ha831 hb314 ?_
          refine L_eql ha832 (rfl : _ = Value.int .i64 (-1)) (by decide) ?_
          exact L_nil (hk830 _ _ (Ext.refl s825) rfl)
         ·intro f835 s833 e834 hA836 hB837 Q hk838
          have ha839 : f835 53 = Value.bool (x6) := hA836 1 53 (by kernel_rfl) (by kernel_rfl)
          have ha840 : f835 56 = Value.bool (decide (a0.Tag = (-1))) := hA836 4 56 (by kernel_rfl) (by kernel_rfl)
          refine L_pick_f ha839 hb314 ha840 (by decide) ?_
          exact L_nil (hk838 _ _ (Ext.refl s833) rfl)
         ·intro f843 s841 e842 hA844 hB845 Q hk846
          have ha847 : f843 8 = Value.bool (x19) := (hB845 8 (by kernel_rfl)).trans g31_8
          refine L_move ha847 (by decide) ?_
          exact L_nil (hk846 _ _ (Ext.refl s841) rfl)
         ·intro f850 s848 e849 hA851 hB852 Q hk853
          have ha854 : f850 58 = Value.bool (x19) := hA851 6 58 (by kernel_rfl) (by kernel_rfl)
          refine L_move ha854 (by decide) ?_
          exact L_nil (hk853 _ _ (Ext.refl s848) rfl)
         ·intro f857 s855 e856 hA858 hB859 Q hk860
          have ha862 : f857 59 = Value.bool (x19) := hA858 7 59 (by kernel_rfl) (by kernel_rfl)
          refine L_gf (e := 59) (by rfl) (by decide) ha862 hb791 (by decide) ?_
          exact L_nil (hk860 _ _ (Ext.refl s855) rfl)
         ·intro f865 s863 e864 hA866 hB867 Q hk868
          have ha869 : f865 59 = Value.bool (x19) := hA866 7 59 (by kernel_rfl) (by kernel_rfl)
          refine L_gf (e := 59) (by rfl) (by decide) ha869 hb791 (by decide) ?_
          exact L_nil (hk868 _ _ (Ext.refl s863) rfl)
         ·intro f873 s871 e872 hA874 hB875 Q hk876
          have ha877 : f873 59 = Value.bool (x19) := hA874 7 59 (by kernel_rfl) (by kernel_rfl)
          refine L_gf (e := 59) (by rfl) (by decide) ha877 hb791 (by decide) ?_
          exact L_nil (hk876 _ _ (Ext.refl s871) rfl)
         ·intro f881 s879 e880 hA882 hB883 Q hk884
          have ha885 : f881 59 = Value.bool (x19) := hA882 7 59 (by kernel_rfl) (by kernel_rfl)
          refine L_pick_t ha885 hb791 (rfl : _ = Value.bool (true)) (by decide) ?_
          exact L_nil (hk884 _ _ (Ext.refl s879) rfl)
         ·intro f889 s887 e888 hA890 hB891 Q hk892
          have ha893 : f889 57 = Value.bool (decide (a0.Tag = (-1))) := hA890 5 57 (by kernel_rfl) (by kernel_rfl)
          refine L_assign ha893 (by decide) ?_
          exact L_nil (hk892 _ _ (Ext.refl s887) rfl)
         ·intro f896 s894 e895 hA897 hB898 Q hk899
          have ha900 : f896 63 = Value.bool (true) := hA897 11 63 (by kernel_rfl) (by kernel_rfl)
          refine L_assign ha900 (by decide) ?_
          exact L_nil (hk899 _ _ (Ext.refl s894) rfl)
         ·intro f903 s901 e902 hA904 hB905
          have hE906 := Tch.ext hE313 e902
          have ha907 : f903 3 = p2 := (hB905 3 (by kernel_rfl)).trans g31_3
          have ha908 : f903 7 = Value.bool (decide (a0.Tag = (-1))) := hA904 12 7 (by kernel_rfl)
          have ha909 : f903 8 = Value.bool (true) := hA904 13 8 (by kernel_rfl)
          have ha910 : f903 10 = Value.pointer (some ⟨b44, 0, none⟩) := (hB905 10 (by kernel_rfl)).trans rfl
          refine block_n ?_
          refine then_n ?_
          refine W_seq ?_
          refine W_drawP mixed 8 [PX.ptr (a0.Peer : Int), PX.eq (Value.int .i64 (a0.Peer)), PX.ptr (a0.Tag : Int), PX.eq (Value.int .i64 (a0.Tag)), PX.eq (Value.pointer (some ⟨b44, 1, none⟩)), PX.var s0.w.heap.size 64 ((Deed.with_Peer (Deed.with_Req (⟨a0.Kind, 0, 0, 0, false⟩ : Deed) y32) a0.Peer) : Deed), PX.eq (Value.pointer (some ⟨b44, 2, none⟩)), PX.var s0.w.heap.size 64 ((Deed.with_Tag (Deed.with_Peer (Deed.with_Req (⟨a0.Kind, 0, 0, 0, false⟩ : Deed) y32) a0.Peer) a0.Tag) : Deed), PX.var s0.w.heap.size 64 ((Deed.with_Req (⟨a0.Kind, 0, 0, 0, false⟩ : Deed) y32) : Deed)] [94, 95, 96, 97, 98, 10, 99, 10, 10] [[], [], [], [], [], [8], [], [5]] rfl (by kernel_rfl) (ent1 rfl ⟨b44, ha910, (Nat.le_trans hE38.size hb45), (hv311).ext e902⟩) (dis1 rfl) (StepsX_cons ?_ (StepsX_cons ?_ (StepsX_cons ?_ (StepsX_cons ?_ (StepsX_cons ?_ (StepsX_cons ?_ (StepsX_cons ?_ (StepsX_cons ?_ StepsX_nil)))))))) ?_
          ·intro f925 s923 hT924 hA926 hB927 Q hk928
           have ha929 : f925 3 = p2 := (hB927 3 (by kernel_rfl)).trans ha907
           refine L_fieldAddr fld64_1 Deed.of_Peer ha929 (hp3.mono (l16.trans (l29.trans (e35.le.trans (e43.le.trans (e49.le.trans (e310.le.trans (e902.le.trans hT924.le)))))))) (by decide) ?_
           intro p911 hp912
           exact L_nil (hk928 _ _ No (Ext.refl s923) (fun _ h => h.elim) hp912 (fun _ h => h.elim))
          ·intro f932 s930 hT931 hA933 hB934 Q hk935
           have ha936 : Ptr _ (f932 94) (a0.Peer : Int) := hA933 0 (by kernel_rfl) (by show _ < 9; decide)
           obtain ⟨v937, q938, hv939⟩ : ∃ v, _ = v ∧ Ptr _ v _ := ⟨_, rfl, ha936⟩
           refine L_load_int ty3 q938 hv939 (by decide) ?_
           exact L_nil (hk935 _ _ No (Ext.refl s930) (fun _ h => h.elim) rfl (fun _ h => h.elim))
          ·intro f942 s940 hT941 hA943 hB944 Q hk945
           have ha946 : f942 3 = p2 := (hB944 3 (by kernel_rfl)).trans ha907
           refine L_fieldAddr fld64_2 Deed.of_Tag ha946 (hp3.mono (l16.trans (l29.trans (e35.le.trans (e43.le.trans (e49.le.trans (e310.le.trans (e902.le.trans hT941.le)))))))) (by decide) ?_
           intro p913 hp914
           exact L_nil (hk945 _ _ No (Ext.refl s940) (fun _ h => h.elim) hp914 (fun _ h => h.elim))
          ·intro f949 s947 hT948 hA950 hB951 Q hk952
           have ha953 : Ptr _ (f949 96) (a0.Tag : Int) := hA950 2 (by kernel_rfl) (by show _ < 9; decide)
           obtain ⟨v954, q955, hv956⟩ : ∃ v, _ = v ∧ Ptr _ v _ := ⟨_, rfl, ha953⟩
           refine L_load_int ty3 q955 hv956 (by decide) ?_
           exact L_nil (hk952 _ _ No (Ext.refl s947) (fun _ h => h.elim) rfl (fun _ h => h.elim))
          ·intro f959 s957 hT958 hA960 hB961 Q hk962
           obtain ⟨b964, q965, hb966, hv967⟩ : ∃ b, f959 10 = Value.pointer (some ⟨b, 0, none⟩) ∧ s0.w.heap.size ≤ b ∧ Var s957 b 64 ((Deed.with_Req (⟨a0.Kind, 0, 0, 0, false⟩ : Deed) y32) : Deed) := hA960 8 (by kernel_rfl) (by show _ < 9; decide)
           have ha968 : f959 10 = Value.pointer (some ⟨b44, 0, none⟩) := (hB961 10 (by kernel_rfl)).trans ha910
           have ha968e : b964 = b44 := by have h3 := q965.symm.trans ha968; cases h3; rfl
           rw [ha968e] at hb966 hv967
           refine L_fieldAddr_var fld64_1 ha968 (by decide) ?_
           exact L_nil (hk962 _ _ No (Ext.refl s957) (fun _ h => h.elim) rfl (fun _ h => h.elim))
          ·intro f971 s969 hT970 hA972 hB973 Q hk974
           obtain ⟨b976, q977, hb978, hv979⟩ : ∃ b, f971 10 = Value.pointer (some ⟨b, 0, none⟩) ∧ s0.w.heap.size ≤ b ∧ Var s969 b 64 ((Deed.with_Req (⟨a0.Kind, 0, 0, 0, false⟩ : Deed) y32) : Deed) := hA972 8 (by kernel_rfl) (by show _ < 9; decide)
           have ha980 : f971 10 = Value.pointer (some ⟨b44, 0, none⟩) := (hB973 10 (by kernel_rfl)).trans ha910
           have ha980e : b976 = b44 := by have h3 := q977.symm.trans ha980; cases h3; rfl
           rw [ha980e] at hb978 hv979
           have ha981 : f971 95 = Value.int .i64 (a0.Peer) := hA972 1 (by kernel_rfl) (by show _ < 9; decide)
           have ha982 : f971 98 = Value.pointer (some ⟨b44, 1, none⟩) := hA972 4 (by kernel_rfl) (by show _ < 9; decide)
           refine L_store_field ty3 Deed.set_Peer ha982 ha981 Vint (hv979) ?_
           intro s917 e915 hv916
           exact L_nil (hk974 undef _ _ e915 (fun k h => ⟨8, (List.mem_singleton.2 rfl : (8 : Nat) ∈ [8]), (by show ownP (f971 10) k; rw [ha980]; exact congrArg (fun z => Value.pointer (some ⟨z, 0, none⟩)) h.symm)⟩) ⟨_, ha980, hb978, hv916⟩ (fun k h => Or.inl ⟨8, (List.mem_singleton.2 rfl : (8 : Nat) ∈ [8]), h⟩))
          ·intro f985 s983 hT984 hA986 hB987 Q hk988
           obtain ⟨b990, q991, hb992, hv993⟩ : ∃ b, f985 10 = Value.pointer (some ⟨b, 0, none⟩) ∧ s0.w.heap.size ≤ b ∧ Var s983 b 64 ((Deed.with_Peer (Deed.with_Req (⟨a0.Kind, 0, 0, 0, false⟩ : Deed) y32) a0.Peer) : Deed) := hA986 5 (by kernel_rfl) (by show _ < 9; decide)
           have ha994 : f985 10 = Value.pointer (some ⟨b44, 0, none⟩) := (hB987 10 (by kernel_rfl)).trans ha910
           have ha994e : b990 = b44 := by have h3 := q991.symm.trans ha994; cases h3; rfl
           rw [ha994e] at hb992 hv993
           refine L_fieldAddr_var fld64_2 ha994 (by decide) ?_
           exact L_nil (hk988 _ _ No (Ext.refl s983) (fun _ h => h.elim) rfl (fun _ h => h.elim))
          ·intro f997 s995 hT996 hA998 hB999 Q hk1000
           obtain ⟨b1002, q1003, hb1004, hv1005⟩ : ∃ b, f997 10 = Value.pointer (some ⟨b, 0, none⟩) ∧ s0.w.heap.size ≤ b ∧ Var s995 b 64 ((Deed.with_Peer (Deed.with_Req (⟨a0.Kind, 0, 0, 0, false⟩ : Deed) y32) a0.Peer) : Deed) := hA998 5 (by kernel_rfl) (by show _ < 9; decide)
           have ha1006 : f997 10 = Value.pointer (some ⟨b44, 0, none⟩) := (hB999 10 (by kernel_rfl)).trans ha910
           have ha1006e : b1002 = b44 := by have h3 := q1003.symm.trans ha1006; cases h3; rfl
           rw [ha1006e] at hb1004 hv1005
           have ha1007 : f997 97 = Value.int .i64 (a0.Tag) := hA998 3 (by kernel_rfl) (by show _ < 9; decide)
           have ha1008 : f997 99 = Value.pointer (some ⟨b44, 2, none⟩) := hA998 6 (by kernel_rfl) (by show _ < 9; decide)
           refine L_store_field ty3 Deed.set_Tag ha1008 ha1007 Vint (hv1005) ?_
           intro s921 e919 hv920
           exact L_nil (hk1000 undef _ _ e919 (fun k h => ⟨5, (List.mem_singleton.2 rfl : (5 : Nat) ∈ [5]), (by show ownP (f997 10) k; rw [ha1006]; exact congrArg (fun z => Value.pointer (some ⟨z, 0, none⟩)) h.symm)⟩) ⟨_, ha1006, hb1004, hv920⟩ (fun k h => Or.inl ⟨5, (List.mem_singleton.2 rfl : (5 : Nat) ∈ [5]), h⟩))
          ·intro f1011 s1009 hT1010 hP1012 hD1013 hB1014
           have hE1015 := Tch.trans hE906 hT1010 (fun k h => Or.inr (by have h2 := ent_is (k := 8) rfl rfl h; have h3 := Eq.mp (congrArg (fun v => ownP v k) (ha910 : _ = Value.pointer (some ⟨b44, 0, none⟩))) h2; cases h3; exact (Nat.le_trans hE38.size hb45)))
           obtain ⟨b1016, q1017, hb1018, hv1019⟩ : ∃ b, f1011 10 = Value.pointer (some ⟨b, 0, none⟩) ∧ s0.w.heap.size ≤ b ∧ Var s1009 b 64 ((Deed.with_Tag (Deed.with_Peer (Deed.with_Req (⟨a0.Kind, 0, 0, 0, false⟩ : Deed) y32) a0.Peer) a0.Tag) : Deed) := hP1012 7 (by show _ < 9; decide) (by kernel_rfl)
           have ha1020 : f1011 10 = Value.pointer (some ⟨b44, 0, none⟩) := (hB1014 10 (by kernel_rfl)).trans ha910
           have ha1020e : b1016 = b44 := by have h3 := q1017.symm.trans ha1020; cases h3; rfl
           rw [ha1020e] at hb1018 hv1019
           have ha1021 : f1011 3 = p2 := (hB1014 3 (by kernel_rfl)).trans ha907
           have ha1022 : f1011 7 = Value.bool (decide (a0.Tag = (-1))) := (hB1014 7 (by kernel_rfl)).trans ha908
           have ha1023 : f1011 8 = Value.bool (true) := (hB1014 8 (by kernel_rfl)).trans ha909
           refine then_n ?_
           refine W_seq ?_
           refine W_region ?_
           refine L_load ty64 ha1021 (hp3.mono (l16.trans (l29.trans (e35.le.trans (e43.le.trans (e49.le.trans (e310.le.trans (e902.le.trans hT1010.le)))))))) (by decide) ?_
           intro v1024 hv1025
           refine L_load_var ty64 ha1020 (hv1019) (by decide) ?_
           intro v1026 hv1027
           refine L_seq64 (rfl : _ = v1024) hv1025 (rfl : _ = v1026) hv1027 (by decide) ?_
           refine L_move (rfl : _ = Value.bool (decide (a0 = (Deed.with_Tag (Deed.with_Peer (Deed.with_Req (⟨a0.Kind, 0, 0, 0, false⟩ : Deed) y32) a0.Peer) a0.Tag)))) (by decide) ?_
           rcases Bool.eq_false_or_eq_true (decide (a0 = (Deed.with_Tag (Deed.with_Peer (Deed.with_Req (⟨a0.Kind, 0, 0, 0, false⟩ : Deed) y32) a0.Peer) a0.Tag))) with hb1028 | hb1028
           ·have hr := ite_t hb1028 hr
            refine L_gt (e := 103) (by rfl) (by decide) (rfl : _ = Value.bool (decide (a0 = (Deed.with_Tag (Deed.with_Peer (Deed.with_Req (⟨a0.Kind, 0, 0, 0, false⟩ : Deed) y32) a0.Peer) a0.Tag)))) hb1028 ?_
            refine L_move ha1022 (by decide) ?_
            refine L_pick_t (rfl : _ = Value.bool (decide (a0 = (Deed.with_Tag (Deed.with_Peer (Deed.with_Req (⟨a0.Kind, 0, 0, 0, false⟩ : Deed) y32) a0.Peer) a0.Tag)))) hb1028 (rfl : _ = Value.bool (decide (a0.Tag = (-1)))) (by decide) ?_
            refine L_move (rfl : _ = Value.bool (decide (a0.Tag = (-1)))) (by decide) ?_
            rcases Bool.eq_false_or_eq_true (decide (a0.Tag = (-1))) with hb1029 | hb1029
            ·have hr := ite_t hb1029 hr
             refine L_gt (e := 106) (by rfl) (by decide) (rfl : _ = Value.bool (decide (a0.Tag = (-1)))) hb1029 ?_
             refine L_move ha1023 (by decide) ?_
             refine L_pick_t (rfl : _ = Value.bool (decide (a0.Tag = (-1)))) hb1029 (rfl : _ = Value.bool (true)) (by decide) ?_
             refine L_assign (rfl : _ = Value.bool (true)) (by decide) ?_
             refine L_nil ?_
             refine then_n ?_
             refine W_ret ?_
             obtain rfl := Option.some.inj hr
             exact done1 (Or.inl rfl) Try.results58 rfl ⟨_, _, rfl, rfl, hE1015, Vbool⟩
            ·have hr := ite_f hb1029 hr
             refine L_gf (e := 106) (by rfl) (by decide) (rfl : _ = Value.bool (decide (a0.Tag = (-1)))) hb1029 (by decide) ?_
             refine L_pick_f (rfl : _ = Value.bool (decide (a0.Tag = (-1)))) hb1029 (rfl : _ = Value.bool (false)) (by decide) ?_
             refine L_assign (rfl : _ = Value.bool (false)) (by decide) ?_
             refine L_nil ?_
             refine then_n ?_
             refine W_ret ?_
             obtain rfl := Option.some.inj hr
             exact done1 (Or.inl rfl) Try.results58 rfl ⟨_, _, rfl, rfl, hE1015, Vbool⟩
           ·have hr := ite_f hb1028 hr
            refine L_gf (e := 103) (by rfl) (by decide) (rfl : _ = Value.bool (decide (a0 = (Deed.with_Tag (Deed.with_Peer (Deed.with_Req (⟨a0.Kind, 0, 0, 0, false⟩ : Deed) y32) a0.Peer) a0.Tag)))) hb1028 (by decide) ?_
            refine L_pick_f (rfl : _ = Value.bool (decide (a0 = (Deed.with_Tag (Deed.with_Peer (Deed.with_Req (⟨a0.Kind, 0, 0, 0, false⟩ : Deed) y32) a0.Peer) a0.Tag)))) hb1028 (rfl : _ = Value.bool (false)) (by decide) ?_
            refine L_move (rfl : _ = Value.bool (false)) (by decide) ?_
            refine L_gf (e := 106) (by rfl) (by decide) (rfl : _ = Value.bool (false)) rfl (by decide) ?_
            refine L_pick_f (rfl : _ = Value.bool (false)) rfl (rfl : _ = Value.bool (false)) (by decide) ?_
            refine L_assign (rfl : _ = Value.bool (false)) (by decide) ?_
            refine L_nil ?_
            refine then_n ?_
            refine W_ret ?_
            obtain rfl := Option.some.inj hr
            exact done1 (Or.inl rfl) Try.results58 rfl ⟨_, _, rfl, rfl, hE1015, Vbool⟩
        ·have hr := ite_f hb791 hr
         refine W_draws mixed (by kernel_rfl) [PV.eq (Value.bool (x6)), PV.eq (Value.bool (x6)), PV.ptr (a0.Tag : Int), PV.eq (Value.int .i64 (a0.Tag)), PV.eq (Value.bool (decide (a0.Tag = (-1)))), PV.eq (Value.bool (decide (a0.Tag = (-1)))), PV.eq (Value.bool (x19)), PV.eq (Value.bool (x19)), PV.ptr (a0.Peer : Int), PV.eq (Value.int .i64 (a0.Peer)), PV.eq (Value.bool (decide (a0.Peer = (-1)))), PV.eq (Value.bool (decide (a0.Peer = (-1)))), PV.eq (Value.bool (decide (a0.Tag = (-1)))), PV.eq (Value.bool (decide (a0.Peer = (-1))))] (Steps_cons ?_ (Steps_cons ?_ (Steps_cons ?_ (Steps_cons ?_ (Steps_cons ?_ (Steps_cons ?_ (Steps_cons ?_ (Steps_cons ?_ (Steps_cons ?_ (Steps_cons ?_ (Steps_cons ?_ (Steps_cons ?_ (Steps_cons ?_ (Steps_cons ?_ Steps_nil)))))))))))))) ?_
         ·intro f1034 s1032 e1033 hA1035 hB1036 Q hk1037
          have ha1038 : f1034 7 = Value.bool (x6) := (hB1036 7 (by kernel_rfl)).trans g31_7
          refine L_move ha1038 (by decide) ?_
          exact L_nil (hk1037 _ _ (Ext.refl s1032) rfl)
         ·intro f1041 s1039 e1040 hA1042 hB1043 Q hk1044
          have ha1045 : f1041 52 = Value.bool (x6) := hA1042 0 52 (by kernel_rfl) (by kernel_rfl)
          refine L_move ha1045 (by decide) ?_
          exact L_nil (hk1044 _ _ (Ext.refl s1039) rfl)
         ·intro f1048 s1046 e1047 hA1049 hB1050 Q hk1051
          have ha1052 : f1048 3 = p2 := (hB1050 3 (by kernel_rfl)).trans g31_3
          have ha1053 : f1048 53 = Value.bool (x6) := hA1049 1 53 (by kernel_rfl) (by kernel_rfl)
          refine L_gt (e := 53) (by rfl) (by decide) ha1053 hb314 ?_
          refine L_fieldAddr fld64_2 Deed.of_Tag ha1052 (hp3.mono (l16.trans (l29.trans (e35.le.trans (e43.le.trans (e49.le.trans (e310.le.trans e1047.le))))))) (by decide) ?_
          intro p789 hp790
          exact L_nil (hk1051 _ _ (Ext.refl s1046) hp790)
         ·intro f1056 s1054 e1055 hA1057 hB1058 Q hk1059
          have ha1060 : f1056 53 = Value.bool (x6) := hA1057 1 53 (by kernel_rfl) (by kernel_rfl)
          have ha1061 : Ptr _ (f1056 54) (a0.Tag : Int) := hA1057 2 54 (by kernel_rfl) (by kernel_rfl)
          obtain ⟨v1062, q1063, hv1064⟩ : ∃ v, _ = v ∧ Ptr _ v _ := ⟨_, rfl, ha1061⟩
          refine L_gt (e := 53) (by rfl) (by decide) ha1060 hb314 ?_
          refine L_load_int ty3 q1063 hv1064 (by decide) ?_
          exact L_nil (hk1059 _ _ (Ext.refl s1054) rfl)
         ·intro f1067 s1065 e1066 hA1068 hB1069 Q hk1070
          have ha1071 : f1067 53 = Value.bool (x6) := hA1068 1 53 (by kernel_rfl) (by kernel_rfl)
          have ha1072 : f1067 55 = Value.int .i64 (a0.Tag) := hA1068 3 55 (by kernel_rfl) (by kernel_rfl)
          refine L_gt (e := 53) (by rfl) (by decide) ha1071 hb314 ?_
          refine L_eql ha1072 (rfl : _ = Value.int .i64 (-1)) (by decide) ?_
          exact L_nil (hk1070 _ _ (Ext.refl s1065) rfl)
         ·intro f1075 s1073 e1074 hA1076 hB1077 Q hk1078
          have ha1079 : f1075 53 = Value.bool (x6) := hA1076 1 53 (by kernel_rfl) (by kernel_rfl)
          have ha1080 : f1075 56 = Value.bool (decide (a0.Tag = (-1))) := hA1076 4 56 (by kernel_rfl) (by kernel_rfl)
          refine L_pick_f ha1079 hb314 ha1080 (by decide) ?_
          exact L_nil (hk1078 _ _ (Ext.refl s1073) rfl)
         ·intro f1083 s1081 e1082 hA1084 hB1085 Q hk1086
          have ha1087 : f1083 8 = Value.bool (x19) := (hB1085 8 (by kernel_rfl)).trans g31_8
          refine L_move ha1087 (by decide) ?_
          exact L_nil (hk1086 _ _ (Ext.refl s1081) rfl)
         ·intro f1090 s1088 e1089 hA1091 hB1092 Q hk1093
          have ha1094 : f1090 58 = Value.bool (x19) := hA1091 6 58 (by kernel_rfl) (by kernel_rfl)
          refine L_move ha1094 (by decide) ?_
          exact L_nil (hk1093 _ _ (Ext.refl s1088) rfl)
         ·intro f1097 s1095 e1096 hA1098 hB1099 Q hk1100
          have ha1101 : f1097 3 = p2 := (hB1099 3 (by kernel_rfl)).trans g31_3
          have ha1102 : f1097 59 = Value.bool (x19) := hA1098 7 59 (by kernel_rfl) (by kernel_rfl)
          refine L_gt (e := 59) (by rfl) (by decide) ha1102 hb791 ?_
          refine L_fieldAddr fld64_1 Deed.of_Peer ha1101 (hp3.mono (l16.trans (l29.trans (e35.le.trans (e43.le.trans (e49.le.trans (e310.le.trans e1096.le))))))) (by decide) ?_
          intro p1030 hp1031
          exact L_nil (hk1100 _ _ (Ext.refl s1095) hp1031)
         ·intro f1105 s1103 e1104 hA1106 hB1107 Q hk1108
          have ha1109 : f1105 59 = Value.bool (x19) := hA1106 7 59 (by kernel_rfl) (by kernel_rfl)
          have ha1110 : Ptr _ (f1105 60) (a0.Peer : Int) := hA1106 8 60 (by kernel_rfl) (by kernel_rfl)
          obtain ⟨v1111, q1112, hv1113⟩ : ∃ v, _ = v ∧ Ptr _ v _ := ⟨_, rfl, ha1110⟩
          refine L_gt (e := 59) (by rfl) (by decide) ha1109 hb791 ?_
          refine L_load_int ty3 q1112 hv1113 (by decide) ?_
          exact L_nil (hk1108 _ _ (Ext.refl s1103) rfl)
         ·intro f1116 s1114 e1115 hA1117 hB1118 Q hk1119
          have ha1120 : f1116 59 = Value.bool (x19) := hA1117 7 59 (by kernel_rfl) (by kernel_rfl)
          have ha1121 : f1116 61 = Value.int .i64 (a0.Peer) := hA1117 9 61 (by kernel_rfl) (by kernel_rfl)
          refine L_gt (e := 59) (by rfl) (by decide) ha1120 hb791 ?_
          refine L_eql ha1121 (rfl : _ = Value.int .i64 (-1)) (by decide) ?_
          exact L_nil (hk1119 _ _ (Ext.refl s1114) rfl)
         ·intro f1124 s1122 e1123 hA1125 hB1126 Q hk1127
          have ha1128 : f1124 59 = Value.bool (x19) := hA1125 7 59 (by kernel_rfl) (by kernel_rfl)
          have ha1129 : f1124 62 = Value.bool (decide (a0.Peer = (-1))) := hA1125 10 62 (by kernel_rfl) (by kernel_rfl)
          refine L_pick_f ha1128 hb791 ha1129 (by decide) ?_
          exact L_nil (hk1127 _ _ (Ext.refl s1122) rfl)
         ·intro f1132 s1130 e1131 hA1133 hB1134 Q hk1135
          have ha1136 : f1132 57 = Value.bool (decide (a0.Tag = (-1))) := hA1133 5 57 (by kernel_rfl) (by kernel_rfl)
          refine L_assign ha1136 (by decide) ?_
          exact L_nil (hk1135 _ _ (Ext.refl s1130) rfl)
         ·intro f1139 s1137 e1138 hA1140 hB1141 Q hk1142
          have ha1143 : f1139 63 = Value.bool (decide (a0.Peer = (-1))) := hA1140 11 63 (by kernel_rfl) (by kernel_rfl)
          refine L_assign ha1143 (by decide) ?_
          exact L_nil (hk1142 _ _ (Ext.refl s1137) rfl)
         ·intro f1146 s1144 e1145 hA1147 hB1148
          have hE1149 := Tch.ext hE313 e1145
          have ha1150 : f1146 3 = p2 := (hB1148 3 (by kernel_rfl)).trans g31_3
          have ha1151 : f1146 7 = Value.bool (decide (a0.Tag = (-1))) := hA1147 12 7 (by kernel_rfl)
          have ha1152 : f1146 8 = Value.bool (decide (a0.Peer = (-1))) := hA1147 13 8 (by kernel_rfl)
          have ha1153 : f1146 10 = Value.pointer (some ⟨b44, 0, none⟩) := (hB1148 10 (by kernel_rfl)).trans rfl
          refine block_n ?_
          refine then_n ?_
          refine W_seq ?_
          refine W_drawP mixed 8 [PX.ptr (a0.Peer : Int), PX.eq (Value.int .i64 (a0.Peer)), PX.ptr (a0.Tag : Int), PX.eq (Value.int .i64 (a0.Tag)), PX.eq (Value.pointer (some ⟨b44, 1, none⟩)), PX.var s0.w.heap.size 64 ((Deed.with_Peer (Deed.with_Req (⟨a0.Kind, 0, 0, 0, false⟩ : Deed) y32) a0.Peer) : Deed), PX.eq (Value.pointer (some ⟨b44, 2, none⟩)), PX.var s0.w.heap.size 64 ((Deed.with_Tag (Deed.with_Peer (Deed.with_Req (⟨a0.Kind, 0, 0, 0, false⟩ : Deed) y32) a0.Peer) a0.Tag) : Deed), PX.var s0.w.heap.size 64 ((Deed.with_Req (⟨a0.Kind, 0, 0, 0, false⟩ : Deed) y32) : Deed)] [94, 95, 96, 97, 98, 10, 99, 10, 10] [[], [], [], [], [], [8], [], [5]] rfl (by kernel_rfl) (ent1 rfl ⟨b44, ha1153, (Nat.le_trans hE38.size hb45), (hv311).ext e1145⟩) (dis1 rfl) (StepsX_cons ?_ (StepsX_cons ?_ (StepsX_cons ?_ (StepsX_cons ?_ (StepsX_cons ?_ (StepsX_cons ?_ (StepsX_cons ?_ (StepsX_cons ?_ StepsX_nil)))))))) ?_
          ·intro f1168 s1166 hT1167 hA1169 hB1170 Q hk1171
           have ha1172 : f1168 3 = p2 := (hB1170 3 (by kernel_rfl)).trans ha1150
           refine L_fieldAddr fld64_1 Deed.of_Peer ha1172 (hp3.mono (l16.trans (l29.trans (e35.le.trans (e43.le.trans (e49.le.trans (e310.le.trans (e1145.le.trans hT1167.le)))))))) (by decide) ?_
           intro p1154 hp1155
           exact L_nil (hk1171 _ _ No (Ext.refl s1166) (fun _ h => h.elim) hp1155 (fun _ h => h.elim))
          ·intro f1175 s1173 hT1174 hA1176 hB1177 Q hk1178
           have ha1179 : Ptr _ (f1175 94) (a0.Peer : Int) := hA1176 0 (by kernel_rfl) (by show _ < 9; decide)
           obtain ⟨v1180, q1181, hv1182⟩ : ∃ v, _ = v ∧ Ptr _ v _ := ⟨_, rfl, ha1179⟩
           refine L_load_int ty3 q1181 hv1182 (by decide) ?_
           exact L_nil (hk1178 _ _ No (Ext.refl s1173) (fun _ h => h.elim) rfl (fun _ h => h.elim))
          ·intro f1185 s1183 hT1184 hA1186 hB1187 Q hk1188
           have ha1189 : f1185 3 = p2 := (hB1187 3 (by kernel_rfl)).trans ha1150
           refine L_fieldAddr fld64_2 Deed.of_Tag ha1189 (hp3.mono (l16.trans (l29.trans (e35.le.trans (e43.le.trans (e49.le.trans (e310.le.trans (e1145.le.trans hT1184.le)))))))) (by decide) ?_
           intro p1156 hp1157
           exact L_nil (hk1188 _ _ No (Ext.refl s1183) (fun _ h => h.elim) hp1157 (fun _ h => h.elim))
          ·intro f1192 s1190 hT1191 hA1193 hB1194 Q hk1195
           have ha1196 : Ptr _ (f1192 96) (a0.Tag : Int) := hA1193 2 (by kernel_rfl) (by show _ < 9; decide)
           obtain ⟨v1197, q1198, hv1199⟩ : ∃ v, _ = v ∧ Ptr _ v _ := ⟨_, rfl, ha1196⟩
           refine L_load_int ty3 q1198 hv1199 (by decide) ?_
           exact L_nil (hk1195 _ _ No (Ext.refl s1190) (fun _ h => h.elim) rfl (fun _ h => h.elim))
          ·intro f1202 s1200 hT1201 hA1203 hB1204 Q hk1205
           obtain ⟨b1207, q1208, hb1209, hv1210⟩ : ∃ b, f1202 10 = Value.pointer (some ⟨b, 0, none⟩) ∧ s0.w.heap.size ≤ b ∧ Var s1200 b 64 ((Deed.with_Req (⟨a0.Kind, 0, 0, 0, false⟩ : Deed) y32) : Deed) := hA1203 8 (by kernel_rfl) (by show _ < 9; decide)
           have ha1211 : f1202 10 = Value.pointer (some ⟨b44, 0, none⟩) := (hB1204 10 (by kernel_rfl)).trans ha1153
           have ha1211e : b1207 = b44 := by have h3 := q1208.symm.trans ha1211; cases h3; rfl
           rw [ha1211e] at hb1209 hv1210
           refine L_fieldAddr_var fld64_1 ha1211 (by decide) ?_
           exact L_nil (hk1205 _ _ No (Ext.refl s1200) (fun _ h => h.elim) rfl (fun _ h => h.elim))
          ·intro f1214 s1212 hT1213 hA1215 hB1216 Q hk1217
           obtain ⟨b1219, q1220, hb1221, hv1222⟩ : ∃ b, f1214 10 = Value.pointer (some ⟨b, 0, none⟩) ∧ s0.w.heap.size ≤ b ∧ Var s1212 b 64 ((Deed.with_Req (⟨a0.Kind, 0, 0, 0, false⟩ : Deed) y32) : Deed) := hA1215 8 (by kernel_rfl) (by show _ < 9; decide)
           have ha1223 : f1214 10 = Value.pointer (some ⟨b44, 0, none⟩) := (hB1216 10 (by kernel_rfl)).trans ha1153
           have ha1223e : b1219 = b44 := by have h3 := q1220.symm.trans ha1223; cases h3; rfl
           rw [ha1223e] at hb1221 hv1222
           have ha1224 : f1214 95 = Value.int .i64 (a0.Peer) := hA1215 1 (by kernel_rfl) (by show _ < 9; decide)
           have ha1225 : f1214 98 = Value.pointer (some ⟨b44, 1, none⟩) := hA1215 4 (by kernel_rfl) (by show _ < 9; decide)
           refine L_store_field ty3 Deed.set_Peer ha1225 ha1224 Vint (hv1222) ?_
           intro s1160 e1158 hv1159
           exact L_nil (hk1217 undef _ _ e1158 (fun k h => ⟨8, (List.mem_singleton.2 rfl : (8 : Nat) ∈ [8]), (by show ownP (f1214 10) k; rw [ha1223]; exact congrArg (fun z => Value.pointer (some ⟨z, 0, none⟩)) h.symm)⟩) ⟨_, ha1223, hb1221, hv1159⟩ (fun k h => Or.inl ⟨8, (List.mem_singleton.2 rfl : (8 : Nat) ∈ [8]), h⟩))
          ·intro f1228 s1226 hT1227 hA1229 hB1230 Q hk1231
           obtain ⟨b1233, q1234, hb1235, hv1236⟩ : ∃ b, f1228 10 = Value.pointer (some ⟨b, 0, none⟩) ∧ s0.w.heap.size ≤ b ∧ Var s1226 b 64 ((Deed.with_Peer (Deed.with_Req (⟨a0.Kind, 0, 0, 0, false⟩ : Deed) y32) a0.Peer) : Deed) := hA1229 5 (by kernel_rfl) (by show _ < 9; decide)
           have ha1237 : f1228 10 = Value.pointer (some ⟨b44, 0, none⟩) := (hB1230 10 (by kernel_rfl)).trans ha1153
           have ha1237e : b1233 = b44 := by have h3 := q1234.symm.trans ha1237; cases h3; rfl
           rw [ha1237e] at hb1235 hv1236
           refine L_fieldAddr_var fld64_2 ha1237 (by decide) ?_
           exact L_nil (hk1231 _ _ No (Ext.refl s1226) (fun _ h => h.elim) rfl (fun _ h => h.elim))
          ·intro f1240 s1238 hT1239 hA1241 hB1242 Q hk1243
           obtain ⟨b1245, q1246, hb1247, hv1248⟩ : ∃ b, f1240 10 = Value.pointer (some ⟨b, 0, none⟩) ∧ s0.w.heap.size ≤ b ∧ Var s1238 b 64 ((Deed.with_Peer (Deed.with_Req (⟨a0.Kind, 0, 0, 0, false⟩ : Deed) y32) a0.Peer) : Deed) := hA1241 5 (by kernel_rfl) (by show _ < 9; decide)
           have ha1249 : f1240 10 = Value.pointer (some ⟨b44, 0, none⟩) := (hB1242 10 (by kernel_rfl)).trans ha1153
           have ha1249e : b1245 = b44 := by have h3 := q1246.symm.trans ha1249; cases h3; rfl
           rw [ha1249e] at hb1247 hv1248
           have ha1250 : f1240 97 = Value.int .i64 (a0.Tag) := hA1241 3 (by kernel_rfl) (by show _ < 9; decide)
           have ha1251 : f1240 99 = Value.pointer (some ⟨b44, 2, none⟩) := hA1241 6 (by kernel_rfl) (by show _ < 9; decide)
           refine L_store_field ty3 Deed.set_Tag ha1251 ha1250 Vint (hv1248) ?_
           intro s1164 e1162 hv1163
           exact L_nil (hk1243 undef _ _ e1162 (fun k h => ⟨5, (List.mem_singleton.2 rfl : (5 : Nat) ∈ [5]), (by show ownP (f1240 10) k; rw [ha1249]; exact congrArg (fun z => Value.pointer (some ⟨z, 0, none⟩)) h.symm)⟩) ⟨_, ha1249, hb1247, hv1163⟩ (fun k h => Or.inl ⟨5, (List.mem_singleton.2 rfl : (5 : Nat) ∈ [5]), h⟩))
          ·intro f1254 s1252 hT1253 hP1255 hD1256 hB1257
           have hE1258 := Tch.trans hE1149 hT1253 (fun k h => Or.inr (by have h2 := ent_is (k := 8) rfl rfl h; have h3 := Eq.mp (congrArg (fun v => ownP v k) (ha1153 : _ = Value.pointer (some ⟨b44, 0, none⟩))) h2; cases h3; exact (Nat.le_trans hE38.size hb45)))
           obtain ⟨b1259, q1260, hb1261, hv1262⟩ : ∃ b, f1254 10 = Value.pointer (some ⟨b, 0, none⟩) ∧ s0.w.heap.size ≤ b ∧ Var s1252 b 64 ((Deed.with_Tag (Deed.with_Peer (Deed.with_Req (⟨a0.Kind, 0, 0, 0, false⟩ : Deed) y32) a0.Peer) a0.Tag) : Deed) := hP1255 7 (by show _ < 9; decide) (by kernel_rfl)
           have ha1263 : f1254 10 = Value.pointer (some ⟨b44, 0, none⟩) := (hB1257 10 (by kernel_rfl)).trans ha1153
           have ha1263e : b1259 = b44 := by have h3 := q1260.symm.trans ha1263; cases h3; rfl
           rw [ha1263e] at hb1261 hv1262
           have ha1264 : f1254 3 = p2 := (hB1257 3 (by kernel_rfl)).trans ha1150
           have ha1265 : f1254 7 = Value.bool (decide (a0.Tag = (-1))) := (hB1257 7 (by kernel_rfl)).trans ha1151
           have ha1266 : f1254 8 = Value.bool (decide (a0.Peer = (-1))) := (hB1257 8 (by kernel_rfl)).trans ha1152
           refine then_n ?_
           refine W_seq ?_
           refine W_region ?_
           refine L_load ty64 ha1264 (hp3.mono (l16.trans (l29.trans (e35.le.trans (e43.le.trans (e49.le.trans (e310.le.trans (e1145.le.trans hT1253.le)))))))) (by decide) ?_
           intro v1267 hv1268
           refine L_load_var ty64 ha1263 (hv1262) (by decide) ?_
           intro v1269 hv1270
           refine L_seq64 (rfl : _ = v1267) hv1268 (rfl : _ = v1269) hv1270 (by decide) ?_
           refine L_move (rfl : _ = Value.bool (decide (a0 = (Deed.with_Tag (Deed.with_Peer (Deed.with_Req (⟨a0.Kind, 0, 0, 0, false⟩ : Deed) y32) a0.Peer) a0.Tag)))) (by decide) ?_
           rcases Bool.eq_false_or_eq_true (decide (a0 = (Deed.with_Tag (Deed.with_Peer (Deed.with_Req (⟨a0.Kind, 0, 0, 0, false⟩ : Deed) y32) a0.Peer) a0.Tag))) with hb1271 | hb1271
           ·have hr := ite_t hb1271 hr
            refine L_gt (e := 103) (by rfl) (by decide) (rfl : _ = Value.bool (decide (a0 = (Deed.with_Tag (Deed.with_Peer (Deed.with_Req (⟨a0.Kind, 0, 0, 0, false⟩ : Deed) y32) a0.Peer) a0.Tag)))) hb1271 ?_
            refine L_move ha1265 (by decide) ?_
            refine L_pick_t (rfl : _ = Value.bool (decide (a0 = (Deed.with_Tag (Deed.with_Peer (Deed.with_Req (⟨a0.Kind, 0, 0, 0, false⟩ : Deed) y32) a0.Peer) a0.Tag)))) hb1271 (rfl : _ = Value.bool (decide (a0.Tag = (-1)))) (by decide) ?_
            refine L_move (rfl : _ = Value.bool (decide (a0.Tag = (-1)))) (by decide) ?_
            rcases Bool.eq_false_or_eq_true (decide (a0.Tag = (-1))) with hb1272 | hb1272
            ·have hr := ite_t hb1272 hr
             refine L_gt (e := 106) (by rfl) (by decide) (rfl : _ = Value.bool (decide (a0.Tag = (-1)))) hb1272 ?_
             refine L_move ha1266 (by decide) ?_
             refine L_pick_t (rfl : _ = Value.bool (decide (a0.Tag = (-1)))) hb1272 (rfl : _ = Value.bool (decide (a0.Peer = (-1)))) (by decide) ?_
             refine L_assign (rfl : _ = Value.bool (decide (a0.Peer = (-1)))) (by decide) ?_
             refine L_nil ?_
             refine then_n ?_
             refine W_ret ?_
             obtain rfl := Option.some.inj hr
             exact done1 (Or.inl rfl) Try.results58 rfl ⟨_, _, rfl, rfl, hE1258, Vbool⟩
            ·have hr := ite_f hb1272 hr
             refine L_gf (e := 106) (by rfl) (by decide) (rfl : _ = Value.bool (decide (a0.Tag = (-1)))) hb1272 (by decide) ?_
             refine L_pick_f (rfl : _ = Value.bool (decide (a0.Tag = (-1)))) hb1272 (rfl : _ = Value.bool (false)) (by decide) ?_
             refine L_assign (rfl : _ = Value.bool (false)) (by decide) ?_
             refine L_nil ?_
             refine then_n ?_
             refine W_ret ?_
             obtain rfl := Option.some.inj hr
             exact done1 (Or.inl rfl) Try.results58 rfl ⟨_, _, rfl, rfl, hE1258, Vbool⟩
           ·have hr := ite_f hb1271 hr
            refine L_gf (e := 103) (by rfl) (by decide) (rfl : _ = Value.bool (decide (a0 = (Deed.with_Tag (Deed.with_Peer (Deed.with_Req (⟨a0.Kind, 0, 0, 0, false⟩ : Deed) y32) a0.Peer) a0.Tag)))) hb1271 (by decide) ?_
            refine L_pick_f (rfl : _ = Value.bool (decide (a0 = (Deed.with_Tag (Deed.with_Peer (Deed.with_Req (⟨a0.Kind, 0, 0, 0, false⟩ : Deed) y32) a0.Peer) a0.Tag)))) hb1271 (rfl : _ = Value.bool (false)) (by decide) ?_
            refine L_move (rfl : _ = Value.bool (false)) (by decide) ?_
            refine L_gf (e := 106) (by rfl) (by decide) (rfl : _ = Value.bool (false)) rfl (by decide) ?_
            refine L_pick_f (rfl : _ = Value.bool (false)) rfl (rfl : _ = Value.bool (false)) (by decide) ?_
            refine L_assign (rfl : _ = Value.bool (false)) (by decide) ?_
            refine L_nil ?_
            refine then_n ?_
            refine W_ret ?_
            obtain rfl := Option.some.inj hr
            exact done1 (Or.inl rfl) Try.results58 rfl ⟨_, _, rfl, rfl, hE1258, Vbool⟩
      ·have hr := ite_f hb309 hr
       refine W_skip ?_
       refine then_n ?_
       rcases Bool.eq_false_or_eq_true (x6) with hb1273 | hb1273
       ·have hr := ite_t hb1273 hr
        rcases Bool.eq_false_or_eq_true (x19) with hb1274 | hb1274
        ·have hr := ite_t hb1274 hr
         refine W_draws mixed (by kernel_rfl) [PV.eq (Value.bool (x6)), PV.eq (Value.bool (x6)), PV.eq (undef), PV.eq (undef), PV.eq (undef), PV.eq (Value.bool (true)), PV.eq (Value.bool (x19)), PV.eq (Value.bool (x19)), PV.eq (undef), PV.eq (undef), PV.eq (undef), PV.eq (Value.bool (true)), PV.eq (Value.bool (true)), PV.eq (Value.bool (true))] (Steps_cons ?_ (Steps_cons ?_ (Steps_cons ?_ (Steps_cons ?_ (Steps_cons ?_ (Steps_cons ?_ (Steps_cons ?_ (Steps_cons ?_ (Steps_cons ?_ (Steps_cons ?_ (Steps_cons ?_ (Steps_cons ?_ (Steps_cons ?_ (Steps_cons ?_ Steps_nil)))))))))))))) ?_
         ·intro f1277 s1275 e1276 hA1278 hB1279 Q hk1280
          have ha1281 : f1277 7 = Value.bool (x6) := (hB1279 7 (by kernel_rfl)).trans g31_7
          refine L_move ha1281 (by decide) ?_
          exact L_nil (hk1280 _ _ (Ext.refl s1275) rfl)
         ·intro f1284 s1282 e1283 hA1285 hB1286 Q hk1287
          have ha1288 : f1284 52 = Value.bool (x6) := hA1285 0 52 (by kernel_rfl) (by kernel_rfl)
          refine L_move ha1288 (by decide) ?_
          exact L_nil (hk1287 _ _ (Ext.refl s1282) rfl)
         ·intro f1291 s1289 e1290 hA1292 hB1293 Q hk1294
          have ha1296 : f1291 53 = Value.bool (x6) := hA1292 1 53 (by kernel_rfl) (by kernel_rfl)
          refine L_gf (e := 53) (by rfl) (by decide) ha1296 hb1273 (by decide) ?_
          exact L_nil (hk1294 _ _ (Ext.refl s1289) rfl)
         ·intro f1299 s1297 e1298 hA1300 hB1301 Q hk1302
          have ha1303 : f1299 53 = Value.bool (x6) := hA1300 1 53 (by kernel_rfl) (by kernel_rfl)
          refine L_gf (e := 53) (by rfl) (by decide) ha1303 hb1273 (by decide) ?_
          exact L_nil (hk1302 _ _ (Ext.refl s1297) rfl)
         ·intro f1307 s1305 e1306 hA1308 hB1309 Q hk1310
          have ha1311 : f1307 53 = Value.bool (x6) := hA1308 1 53 (by kernel_rfl) (by kernel_rfl)
          refine L_gf (e := 53) (by rfl) (by decide) ha1311 hb1273 (by decide) ?_
          exact L_nil (hk1310 _ _ (Ext.refl s1305) rfl)
         ·intro f1315 s1313 e1314 hA1316 hB1317 Q hk1318
          have ha1319 : f1315 53 = Value.bool (x6) := hA1316 1 53 (by kernel_rfl) (by kernel_rfl)
          refine L_pick_t ha1319 hb1273 (rfl : _ = Value.bool (true)) (by decide) ?_
          exact L_nil (hk1318 _ _ (Ext.refl s1313) rfl)
         ·intro f1323 s1321 e1322 hA1324 hB1325 Q hk1326
          have ha1327 : f1323 8 = Value.bool (x19) := (hB1325 8 (by kernel_rfl)).trans g31_8
          refine L_move ha1327 (by decide) ?_
          exact L_nil (hk1326 _ _ (Ext.refl s1321) rfl)
         ·intro f1330 s1328 e1329 hA1331 hB1332 Q hk1333
          have ha1334 : f1330 58 = Value.bool (x19) := hA1331 6 58 (by kernel_rfl) (by kernel_rfl)
          refine L_move ha1334 (by decide) ?_
          exact L_nil (hk1333 _ _ (Ext.refl s1328) rfl)
         ·intro f1337 s1335 e1336 hA1338 hB1339 Q hk1340
          have ha1342 : f1337 59 = Value.bool (x19) := hA1338 7 59 (by kernel_rfl) (by kernel_rfl)
          refine L_gf (e := 59) (by rfl) (by decide) ha1342 hb1274 (by decide) ?_
          exact L_nil (hk1340 _ _ (Ext.refl s1335) rfl)
         ·intro f1345 s1343 e1344 hA1346 hB1347 Q hk1348
          have ha1349 : f1345 59 = Value.bool (x19) := hA1346 7 59 (by kernel_rfl) (by kernel_rfl)
          refine L_gf (e := 59) (by rfl) (by decide) ha1349 hb1274 (by decide) ?_
          exact L_nil (hk1348 _ _ (Ext.refl s1343) rfl)
         ·intro f1353 s1351 e1352 hA1354 hB1355 Q hk1356
          have ha1357 : f1353 59 = Value.bool (x19) := hA1354 7 59 (by kernel_rfl) (by kernel_rfl)
          refine L_gf (e := 59) (by rfl) (by decide) ha1357 hb1274 (by decide) ?_
          exact L_nil (hk1356 _ _ (Ext.refl s1351) rfl)
         ·intro f1361 s1359 e1360 hA1362 hB1363 Q hk1364
          have ha1365 : f1361 59 = Value.bool (x19) := hA1362 7 59 (by kernel_rfl) (by kernel_rfl)
          refine L_pick_t ha1365 hb1274 (rfl : _ = Value.bool (true)) (by decide) ?_
          exact L_nil (hk1364 _ _ (Ext.refl s1359) rfl)
         ·intro f1369 s1367 e1368 hA1370 hB1371 Q hk1372
          have ha1373 : f1369 57 = Value.bool (true) := hA1370 5 57 (by kernel_rfl) (by kernel_rfl)
          refine L_assign ha1373 (by decide) ?_
          exact L_nil (hk1372 _ _ (Ext.refl s1367) rfl)
         ·intro f1376 s1374 e1375 hA1377 hB1378 Q hk1379
          have ha1380 : f1376 63 = Value.bool (true) := hA1377 11 63 (by kernel_rfl) (by kernel_rfl)
          refine L_assign ha1380 (by decide) ?_
          exact L_nil (hk1379 _ _ (Ext.refl s1374) rfl)
         ·intro f1383 s1381 e1382 hA1384 hB1385
          have hE1386 := Tch.ext hE52 e1382
          have ha1387 : f1383 3 = p2 := (hB1385 3 (by kernel_rfl)).trans g31_3
          have ha1388 : f1383 7 = Value.bool (true) := hA1384 12 7 (by kernel_rfl)
          have ha1389 : f1383 8 = Value.bool (true) := hA1384 13 8 (by kernel_rfl)
          have ha1390 : f1383 10 = Value.pointer (some ⟨b44, 0, none⟩) := (hB1385 10 (by kernel_rfl)).trans rfl
          refine block_n ?_
          refine then_n ?_
          refine W_seq ?_
          refine W_drawP mixed 8 [PX.ptr (a0.Peer : Int), PX.eq (Value.int .i64 (a0.Peer)), PX.ptr (a0.Tag : Int), PX.eq (Value.int .i64 (a0.Tag)), PX.eq (Value.pointer (some ⟨b44, 1, none⟩)), PX.var s0.w.heap.size 64 ((Deed.with_Peer (⟨a0.Kind, 0, 0, 0, false⟩ : Deed) a0.Peer) : Deed), PX.eq (Value.pointer (some ⟨b44, 2, none⟩)), PX.var s0.w.heap.size 64 ((Deed.with_Tag (Deed.with_Peer (⟨a0.Kind, 0, 0, 0, false⟩ : Deed) a0.Peer) a0.Tag) : Deed), PX.var s0.w.heap.size 64 ((⟨a0.Kind, 0, 0, 0, false⟩ : Deed) : Deed)] [94, 95, 96, 97, 98, 10, 99, 10, 10] [[], [], [], [], [], [8], [], [5]] rfl (by kernel_rfl) (ent1 rfl ⟨b44, ha1390, (Nat.le_trans hE38.size hb45), (hv50).ext e1382⟩) (dis1 rfl) (StepsX_cons ?_ (StepsX_cons ?_ (StepsX_cons ?_ (StepsX_cons ?_ (StepsX_cons ?_ (StepsX_cons ?_ (StepsX_cons ?_ (StepsX_cons ?_ StepsX_nil)))))))) ?_
          ·intro f1405 s1403 hT1404 hA1406 hB1407 Q hk1408
           have ha1409 : f1405 3 = p2 := (hB1407 3 (by kernel_rfl)).trans ha1387
           refine L_fieldAddr fld64_1 Deed.of_Peer ha1409 (hp3.mono (l16.trans (l29.trans (e35.le.trans (e43.le.trans (e49.le.trans (e1382.le.trans hT1404.le))))))) (by decide) ?_
           intro p1391 hp1392
           exact L_nil (hk1408 _ _ No (Ext.refl s1403) (fun _ h => h.elim) hp1392 (fun _ h => h.elim))
          ·intro f1412 s1410 hT1411 hA1413 hB1414 Q hk1415
           have ha1416 : Ptr _ (f1412 94) (a0.Peer : Int) := hA1413 0 (by kernel_rfl) (by show _ < 9; decide)
           obtain ⟨v1417, q1418, hv1419⟩ : ∃ v, _ = v ∧ Ptr _ v _ := ⟨_, rfl, ha1416⟩
           refine L_load_int ty3 q1418 hv1419 (by decide) ?_
           exact L_nil (hk1415 _ _ No (Ext.refl s1410) (fun _ h => h.elim) rfl (fun _ h => h.elim))
          ·intro f1422 s1420 hT1421 hA1423 hB1424 Q hk1425
           have ha1426 : f1422 3 = p2 := (hB1424 3 (by kernel_rfl)).trans ha1387
           refine L_fieldAddr fld64_2 Deed.of_Tag ha1426 (hp3.mono (l16.trans (l29.trans (e35.le.trans (e43.le.trans (e49.le.trans (e1382.le.trans hT1421.le))))))) (by decide) ?_
           intro p1393 hp1394
           exact L_nil (hk1425 _ _ No (Ext.refl s1420) (fun _ h => h.elim) hp1394 (fun _ h => h.elim))
          ·intro f1429 s1427 hT1428 hA1430 hB1431 Q hk1432
           have ha1433 : Ptr _ (f1429 96) (a0.Tag : Int) := hA1430 2 (by kernel_rfl) (by show _ < 9; decide)
           obtain ⟨v1434, q1435, hv1436⟩ : ∃ v, _ = v ∧ Ptr _ v _ := ⟨_, rfl, ha1433⟩
           refine L_load_int ty3 q1435 hv1436 (by decide) ?_
           exact L_nil (hk1432 _ _ No (Ext.refl s1427) (fun _ h => h.elim) rfl (fun _ h => h.elim))
          ·intro f1439 s1437 hT1438 hA1440 hB1441 Q hk1442
           obtain ⟨b1444, q1445, hb1446, hv1447⟩ : ∃ b, f1439 10 = Value.pointer (some ⟨b, 0, none⟩) ∧ s0.w.heap.size ≤ b ∧ Var s1437 b 64 ((⟨a0.Kind, 0, 0, 0, false⟩ : Deed) : Deed) := hA1440 8 (by kernel_rfl) (by show _ < 9; decide)
           have ha1448 : f1439 10 = Value.pointer (some ⟨b44, 0, none⟩) := (hB1441 10 (by kernel_rfl)).trans ha1390
           have ha1448e : b1444 = b44 := by have h3 := q1445.symm.trans ha1448; cases h3; rfl
           rw [ha1448e] at hb1446 hv1447
           refine L_fieldAddr_var fld64_1 ha1448 (by decide) ?_
           exact L_nil (hk1442 _ _ No (Ext.refl s1437) (fun _ h => h.elim) rfl (fun _ h => h.elim))
          ·intro f1451 s1449 hT1450 hA1452 hB1453 Q hk1454
           obtain ⟨b1456, q1457, hb1458, hv1459⟩ : ∃ b, f1451 10 = Value.pointer (some ⟨b, 0, none⟩) ∧ s0.w.heap.size ≤ b ∧ Var s1449 b 64 ((⟨a0.Kind, 0, 0, 0, false⟩ : Deed) : Deed) := hA1452 8 (by kernel_rfl) (by show _ < 9; decide)
           have ha1460 : f1451 10 = Value.pointer (some ⟨b44, 0, none⟩) := (hB1453 10 (by kernel_rfl)).trans ha1390
           have ha1460e : b1456 = b44 := by have h3 := q1457.symm.trans ha1460; cases h3; rfl
           rw [ha1460e] at hb1458 hv1459
           have ha1461 : f1451 95 = Value.int .i64 (a0.Peer) := hA1452 1 (by kernel_rfl) (by show _ < 9; decide)
           have ha1462 : f1451 98 = Value.pointer (some ⟨b44, 1, none⟩) := hA1452 4 (by kernel_rfl) (by show _ < 9; decide)
           refine L_store_field ty3 Deed.set_Peer ha1462 ha1461 Vint (hv1459) ?_
           intro s1397 e1395 hv1396
           exact L_nil (hk1454 undef _ _ e1395 (fun k h => ⟨8, (List.mem_singleton.2 rfl : (8 : Nat) ∈ [8]), (by show ownP (f1451 10) k; rw [ha1460]; exact congrArg (fun z => Value.pointer (some ⟨z, 0, none⟩)) h.symm)⟩) ⟨_, ha1460, hb1458, hv1396⟩ (fun k h => Or.inl ⟨8, (List.mem_singleton.2 rfl : (8 : Nat) ∈ [8]), h⟩))
          ·intro f1465 s1463 hT1464 hA1466 hB1467 Q hk1468
           obtain ⟨b1470, q1471, hb1472, hv1473⟩ : ∃ b, f1465 10 = Value.pointer (some ⟨b, 0, none⟩) ∧ s0.w.heap.size ≤ b ∧ Var s1463 b 64 ((Deed.with_Peer (⟨a0.Kind, 0, 0, 0, false⟩ : Deed) a0.Peer) : Deed) := hA1466 5 (by kernel_rfl) (by show _ < 9; decide)
           have ha1474 : f1465 10 = Value.pointer (some ⟨b44, 0, none⟩) := (hB1467 10 (by kernel_rfl)).trans ha1390
           have ha1474e : b1470 = b44 := by have h3 := q1471.symm.trans ha1474; cases h3; rfl
           rw [ha1474e] at hb1472 hv1473
           refine L_fieldAddr_var fld64_2 ha1474 (by decide) ?_
           exact L_nil (hk1468 _ _ No (Ext.refl s1463) (fun _ h => h.elim) rfl (fun _ h => h.elim))
          ·intro f1477 s1475 hT1476 hA1478 hB1479 Q hk1480
           obtain ⟨b1482, q1483, hb1484, hv1485⟩ : ∃ b, f1477 10 = Value.pointer (some ⟨b, 0, none⟩) ∧ s0.w.heap.size ≤ b ∧ Var s1475 b 64 ((Deed.with_Peer (⟨a0.Kind, 0, 0, 0, false⟩ : Deed) a0.Peer) : Deed) := hA1478 5 (by kernel_rfl) (by show _ < 9; decide)
           have ha1486 : f1477 10 = Value.pointer (some ⟨b44, 0, none⟩) := (hB1479 10 (by kernel_rfl)).trans ha1390
           have ha1486e : b1482 = b44 := by have h3 := q1483.symm.trans ha1486; cases h3; rfl
           rw [ha1486e] at hb1484 hv1485
           have ha1487 : f1477 97 = Value.int .i64 (a0.Tag) := hA1478 3 (by kernel_rfl) (by show _ < 9; decide)
           have ha1488 : f1477 99 = Value.pointer (some ⟨b44, 2, none⟩) := hA1478 6 (by kernel_rfl) (by show _ < 9; decide)
           refine L_store_field ty3 Deed.set_Tag ha1488 ha1487 Vint (hv1485) ?_
           intro s1401 e1399 hv1400
           exact L_nil (hk1480 undef _ _ e1399 (fun k h => ⟨5, (List.mem_singleton.2 rfl : (5 : Nat) ∈ [5]), (by show ownP (f1477 10) k; rw [ha1486]; exact congrArg (fun z => Value.pointer (some ⟨z, 0, none⟩)) h.symm)⟩) ⟨_, ha1486, hb1484, hv1400⟩ (fun k h => Or.inl ⟨5, (List.mem_singleton.2 rfl : (5 : Nat) ∈ [5]), h⟩))
          ·intro f1491 s1489 hT1490 hP1492 hD1493 hB1494
           have hE1495 := Tch.trans hE1386 hT1490 (fun k h => Or.inr (by have h2 := ent_is (k := 8) rfl rfl h; have h3 := Eq.mp (congrArg (fun v => ownP v k) (ha1390 : _ = Value.pointer (some ⟨b44, 0, none⟩))) h2; cases h3; exact (Nat.le_trans hE38.size hb45)))
           obtain ⟨b1496, q1497, hb1498, hv1499⟩ : ∃ b, f1491 10 = Value.pointer (some ⟨b, 0, none⟩) ∧ s0.w.heap.size ≤ b ∧ Var s1489 b 64 ((Deed.with_Tag (Deed.with_Peer (⟨a0.Kind, 0, 0, 0, false⟩ : Deed) a0.Peer) a0.Tag) : Deed) := hP1492 7 (by show _ < 9; decide) (by kernel_rfl)
           have ha1500 : f1491 10 = Value.pointer (some ⟨b44, 0, none⟩) := (hB1494 10 (by kernel_rfl)).trans ha1390
           have ha1500e : b1496 = b44 := by have h3 := q1497.symm.trans ha1500; cases h3; rfl
           rw [ha1500e] at hb1498 hv1499
           have ha1501 : f1491 3 = p2 := (hB1494 3 (by kernel_rfl)).trans ha1387
           have ha1502 : f1491 7 = Value.bool (true) := (hB1494 7 (by kernel_rfl)).trans ha1388
           have ha1503 : f1491 8 = Value.bool (true) := (hB1494 8 (by kernel_rfl)).trans ha1389
           refine then_n ?_
           refine W_seq ?_
           refine W_region ?_
           refine L_load ty64 ha1501 (hp3.mono (l16.trans (l29.trans (e35.le.trans (e43.le.trans (e49.le.trans (e1382.le.trans hT1490.le))))))) (by decide) ?_
           intro v1504 hv1505
           refine L_load_var ty64 ha1500 (hv1499) (by decide) ?_
           intro v1506 hv1507
           refine L_seq64 (rfl : _ = v1504) hv1505 (rfl : _ = v1506) hv1507 (by decide) ?_
           refine L_move (rfl : _ = Value.bool (decide (a0 = (Deed.with_Tag (Deed.with_Peer (⟨a0.Kind, 0, 0, 0, false⟩ : Deed) a0.Peer) a0.Tag)))) (by decide) ?_
           rcases Bool.eq_false_or_eq_true (decide (a0 = (Deed.with_Tag (Deed.with_Peer (⟨a0.Kind, 0, 0, 0, false⟩ : Deed) a0.Peer) a0.Tag))) with hb1508 | hb1508
           ·have hr := ite_t hb1508 hr
            refine L_gt (e := 103) (by rfl) (by decide) (rfl : _ = Value.bool (decide (a0 = (Deed.with_Tag (Deed.with_Peer (⟨a0.Kind, 0, 0, 0, false⟩ : Deed) a0.Peer) a0.Tag)))) hb1508 ?_
            refine L_move ha1502 (by decide) ?_
            refine L_pick_t (rfl : _ = Value.bool (decide (a0 = (Deed.with_Tag (Deed.with_Peer (⟨a0.Kind, 0, 0, 0, false⟩ : Deed) a0.Peer) a0.Tag)))) hb1508 (rfl : _ = Value.bool (true)) (by decide) ?_
            refine L_move (rfl : _ = Value.bool (true)) (by decide) ?_
            refine L_gt (e := 106) (by rfl) (by decide) (rfl : _ = Value.bool (true)) rfl ?_
            refine L_move ha1503 (by decide) ?_
            refine L_pick_t (rfl : _ = Value.bool (true)) rfl (rfl : _ = Value.bool (true)) (by decide) ?_
            refine L_assign (rfl : _ = Value.bool (true)) (by decide) ?_
            refine L_nil ?_
            refine then_n ?_
            refine W_ret ?_
            obtain rfl := Option.some.inj hr
            exact done1 (Or.inl rfl) Try.results58 rfl ⟨_, _, rfl, rfl, hE1495, Vbool⟩
           ·have hr := ite_f hb1508 hr
            refine L_gf (e := 103) (by rfl) (by decide) (rfl : _ = Value.bool (decide (a0 = (Deed.with_Tag (Deed.with_Peer (⟨a0.Kind, 0, 0, 0, false⟩ : Deed) a0.Peer) a0.Tag)))) hb1508 (by decide) ?_
            refine L_pick_f (rfl : _ = Value.bool (decide (a0 = (Deed.with_Tag (Deed.with_Peer (⟨a0.Kind, 0, 0, 0, false⟩ : Deed) a0.Peer) a0.Tag)))) hb1508 (rfl : _ = Value.bool (false)) (by decide) ?_
            refine L_move (rfl : _ = Value.bool (false)) (by decide) ?_
            refine L_gf (e := 106) (by rfl) (by decide) (rfl : _ = Value.bool (false)) rfl (by decide) ?_
            refine L_pick_f (rfl : _ = Value.bool (false)) rfl (rfl : _ = Value.bool (false)) (by decide) ?_
            refine L_assign (rfl : _ = Value.bool (false)) (by decide) ?_
            refine L_nil ?_
            refine then_n ?_
            refine W_ret ?_
            obtain rfl := Option.some.inj hr
            exact done1 (Or.inl rfl) Try.results58 rfl ⟨_, _, rfl, rfl, hE1495, Vbool⟩
        ·have hr := ite_f hb1274 hr
         refine W_draws mixed (by kernel_rfl) [PV.eq (Value.bool (x6)), PV.eq (Value.bool (x6)), PV.eq (undef), PV.eq (undef), PV.eq (undef), PV.eq (Value.bool (true)), PV.eq (Value.bool (x19)), PV.eq (Value.bool (x19)), PV.ptr (a0.Peer : Int), PV.eq (Value.int .i64 (a0.Peer)), PV.eq (Value.bool (decide (a0.Peer = (-1)))), PV.eq (Value.bool (decide (a0.Peer = (-1)))), PV.eq (Value.bool (true)), PV.eq (Value.bool (decide (a0.Peer = (-1))))] (Steps_cons ?_ (Steps_cons ?_ (Steps_cons ?_ (Steps_cons ?_ (Steps_cons ?_ (Steps_cons ?_ (Steps_cons ?_ (Steps_cons ?_ (Steps_cons ?_ (Steps_cons ?_ (Steps_cons ?_ (Steps_cons ?_ (Steps_cons ?_ (Steps_cons ?_ Steps_nil)))))))))))))) ?_
         ·intro f1513 s1511 e1512 hA1514 hB1515 Q hk1516
          have ha1517 : f1513 7 = Value.bool (x6) := (hB1515 7 (by kernel_rfl)).trans g31_7
          refine L_move ha1517 (by decide) ?_
          exact L_nil (hk1516 _ _ (Ext.refl s1511) rfl)
         ·intro f1520 s1518 e1519 hA1521 hB1522 Q hk1523
          have ha1524 : f1520 52 = Value.bool (x6) := hA1521 0 52 (by kernel_rfl) (by kernel_rfl)
          refine L_move ha1524 (by decide) ?_
          exact L_nil (hk1523 _ _ (Ext.refl s1518) rfl)
         ·intro f1527 s1525 e1526 hA1528 hB1529 Q hk1530
          have ha1532 : f1527 53 = Value.bool (x6) := hA1528 1 53 (by kernel_rfl) (by kernel_rfl)
          refine L_gf (e := 53) (by rfl) (by decide) ha1532 hb1273 (by decide) ?_
          exact L_nil (hk1530 _ _ (Ext.refl s1525) rfl)
         ·intro f1535 s1533 e1534 hA1536 hB1537 Q hk1538
          have ha1539 : f1535 53 = Value.bool (x6) := hA1536 1 53 (by kernel_rfl) (by kernel_rfl)
          refine L_gf (e := 53) (by rfl) (by decide) ha1539 hb1273 (by decide) ?_
          exact L_nil (hk1538 _ _ (Ext.refl s1533) rfl)
         ·intro f1543 s1541 e1542 hA1544 hB1545 Q hk1546
          have ha1547 : f1543 53 = Value.bool (x6) := hA1544 1 53 (by kernel_rfl) (by kernel_rfl)
          refine L_gf (e := 53) (by rfl) (by decide) ha1547 hb1273 (by decide) ?_
          exact L_nil (hk1546 _ _ (Ext.refl s1541) rfl)
         ·intro f1551 s1549 e1550 hA1552 hB1553 Q hk1554
          have ha1555 : f1551 53 = Value.bool (x6) := hA1552 1 53 (by kernel_rfl) (by kernel_rfl)
          refine L_pick_t ha1555 hb1273 (rfl : _ = Value.bool (true)) (by decide) ?_
          exact L_nil (hk1554 _ _ (Ext.refl s1549) rfl)
         ·intro f1559 s1557 e1558 hA1560 hB1561 Q hk1562
          have ha1563 : f1559 8 = Value.bool (x19) := (hB1561 8 (by kernel_rfl)).trans g31_8
          refine L_move ha1563 (by decide) ?_
          exact L_nil (hk1562 _ _ (Ext.refl s1557) rfl)
         ·intro f1566 s1564 e1565 hA1567 hB1568 Q hk1569
          have ha1570 : f1566 58 = Value.bool (x19) := hA1567 6 58 (by kernel_rfl) (by kernel_rfl)
          refine L_move ha1570 (by decide) ?_
          exact L_nil (hk1569 _ _ (Ext.refl s1564) rfl)
         ·intro f1573 s1571 e1572 hA1574 hB1575 Q hk1576
          have ha1577 : f1573 3 = p2 := (hB1575 3 (by kernel_rfl)).trans g31_3
          have ha1578 : f1573 59 = Value.bool (x19) := hA1574 7 59 (by kernel_rfl) (by kernel_rfl)
          refine L_gt (e := 59) (by rfl) (by decide) ha1578 hb1274 ?_
          refine L_fieldAddr fld64_1 Deed.of_Peer ha1577 (hp3.mono (l16.trans (l29.trans (e35.le.trans (e43.le.trans (e49.le.trans e1572.le)))))) (by decide) ?_
          intro p1509 hp1510
          exact L_nil (hk1576 _ _ (Ext.refl s1571) hp1510)
         ·intro f1581 s1579 e1580 hA1582 hB1583 Q hk1584
          have ha1585 : f1581 59 = Value.bool (x19) := hA1582 7 59 (by kernel_rfl) (by kernel_rfl)
          have ha1586 : Ptr _ (f1581 60) (a0.Peer : Int) := hA1582 8 60 (by kernel_rfl) (by kernel_rfl)
          obtain ⟨v1587, q1588, hv1589⟩ : ∃ v, _ = v ∧ Ptr _ v _ := ⟨_, rfl, ha1586⟩
          refine L_gt (e := 59) (by rfl) (by decide) ha1585 hb1274 ?_
          refine L_load_int ty3 q1588 hv1589 (by decide) ?_
          exact L_nil (hk1584 _ _ (Ext.refl s1579) rfl)
         ·intro f1592 s1590 e1591 hA1593 hB1594 Q hk1595
          have ha1596 : f1592 59 = Value.bool (x19) := hA1593 7 59 (by kernel_rfl) (by kernel_rfl)
          have ha1597 : f1592 61 = Value.int .i64 (a0.Peer) := hA1593 9 61 (by kernel_rfl) (by kernel_rfl)
          refine L_gt (e := 59) (by rfl) (by decide) ha1596 hb1274 ?_
          refine L_eql ha1597 (rfl : _ = Value.int .i64 (-1)) (by decide) ?_
          exact L_nil (hk1595 _ _ (Ext.refl s1590) rfl)
         ·intro f1600 s1598 e1599 hA1601 hB1602 Q hk1603
          have ha1604 : f1600 59 = Value.bool (x19) := hA1601 7 59 (by kernel_rfl) (by kernel_rfl)
          have ha1605 : f1600 62 = Value.bool (decide (a0.Peer = (-1))) := hA1601 10 62 (by kernel_rfl) (by kernel_rfl)
          refine L_pick_f ha1604 hb1274 ha1605 (by decide) ?_
          exact L_nil (hk1603 _ _ (Ext.refl s1598) rfl)
         ·intro f1608 s1606 e1607 hA1609 hB1610 Q hk1611
          have ha1612 : f1608 57 = Value.bool (true) := hA1609 5 57 (by kernel_rfl) (by kernel_rfl)
          refine L_assign ha1612 (by decide) ?_
          exact L_nil (hk1611 _ _ (Ext.refl s1606) rfl)
         ·intro f1615 s1613 e1614 hA1616 hB1617 Q hk1618
          have ha1619 : f1615 63 = Value.bool (decide (a0.Peer = (-1))) := hA1616 11 63 (by kernel_rfl) (by kernel_rfl)
          refine L_assign ha1619 (by decide) ?_
          exact L_nil (hk1618 _ _ (Ext.refl s1613) rfl)
         ·intro f1622 s1620 e1621 hA1623 hB1624
          have hE1625 := Tch.ext hE52 e1621
          have ha1626 : f1622 3 = p2 := (hB1624 3 (by kernel_rfl)).trans g31_3
          have ha1627 : f1622 7 = Value.bool (true) := hA1623 12 7 (by kernel_rfl)
          have ha1628 : f1622 8 = Value.bool (decide (a0.Peer = (-1))) := hA1623 13 8 (by kernel_rfl)
          have ha1629 : f1622 10 = Value.pointer (some ⟨b44, 0, none⟩) := (hB1624 10 (by kernel_rfl)).trans rfl
          refine block_n ?_
          refine then_n ?_
          refine W_seq ?_
          refine W_drawP mixed 8 [PX.ptr (a0.Peer : Int), PX.eq (Value.int .i64 (a0.Peer)), PX.ptr (a0.Tag : Int), PX.eq (Value.int .i64 (a0.Tag)), PX.eq (Value.pointer (some ⟨b44, 1, none⟩)), PX.var s0.w.heap.size 64 ((Deed.with_Peer (⟨a0.Kind, 0, 0, 0, false⟩ : Deed) a0.Peer) : Deed), PX.eq (Value.pointer (some ⟨b44, 2, none⟩)), PX.var s0.w.heap.size 64 ((Deed.with_Tag (Deed.with_Peer (⟨a0.Kind, 0, 0, 0, false⟩ : Deed) a0.Peer) a0.Tag) : Deed), PX.var s0.w.heap.size 64 ((⟨a0.Kind, 0, 0, 0, false⟩ : Deed) : Deed)] [94, 95, 96, 97, 98, 10, 99, 10, 10] [[], [], [], [], [], [8], [], [5]] rfl (by kernel_rfl) (ent1 rfl ⟨b44, ha1629, (Nat.le_trans hE38.size hb45), (hv50).ext e1621⟩) (dis1 rfl) (StepsX_cons ?_ (StepsX_cons ?_ (StepsX_cons ?_ (StepsX_cons ?_ (StepsX_cons ?_ (StepsX_cons ?_ (StepsX_cons ?_ (StepsX_cons ?_ StepsX_nil)))))))) ?_
          ·intro f1644 s1642 hT1643 hA1645 hB1646 Q hk1647
           have ha1648 : f1644 3 = p2 := (hB1646 3 (by kernel_rfl)).trans ha1626
           refine L_fieldAddr fld64_1 Deed.of_Peer ha1648 (hp3.mono (l16.trans (l29.trans (e35.le.trans (e43.le.trans (e49.le.trans (e1621.le.trans hT1643.le))))))) (by decide) ?_
           intro p1630 hp1631
           exact L_nil (hk1647 _ _ No (Ext.refl s1642) (fun _ h => h.elim) hp1631 (fun _ h => h.elim))
          ·intro f1651 s1649 hT1650 hA1652 hB1653 Q hk1654
           have ha1655 : Ptr _ (f1651 94) (a0.Peer : Int) := hA1652 0 (by kernel_rfl) (by show _ < 9; decide)
           obtain ⟨v1656, q1657, hv1658⟩ : ∃ v, _ = v ∧ Ptr _ v _ := ⟨_, rfl, ha1655⟩
           refine L_load_int ty3 q1657 hv1658 (by decide) ?_
           exact L_nil (hk1654 _ _ No (Ext.refl s1649) (fun _ h => h.elim) rfl (fun _ h => h.elim))
          ·intro f1661 s1659 hT1660 hA1662 hB1663 Q hk1664
           have ha1665 : f1661 3 = p2 := (hB1663 3 (by kernel_rfl)).trans ha1626
           refine L_fieldAddr fld64_2 Deed.of_Tag ha1665 (hp3.mono (l16.trans (l29.trans (e35.le.trans (e43.le.trans (e49.le.trans (e1621.le.trans hT1660.le))))))) (by decide) ?_
           intro p1632 hp1633
           exact L_nil (hk1664 _ _ No (Ext.refl s1659) (fun _ h => h.elim) hp1633 (fun _ h => h.elim))
          ·intro f1668 s1666 hT1667 hA1669 hB1670 Q hk1671
           have ha1672 : Ptr _ (f1668 96) (a0.Tag : Int) := hA1669 2 (by kernel_rfl) (by show _ < 9; decide)
           obtain ⟨v1673, q1674, hv1675⟩ : ∃ v, _ = v ∧ Ptr _ v _ := ⟨_, rfl, ha1672⟩
           refine L_load_int ty3 q1674 hv1675 (by decide) ?_
           exact L_nil (hk1671 _ _ No (Ext.refl s1666) (fun _ h => h.elim) rfl (fun _ h => h.elim))
          ·intro f1678 s1676 hT1677 hA1679 hB1680 Q hk1681
           obtain ⟨b1683, q1684, hb1685, hv1686⟩ : ∃ b, f1678 10 = Value.pointer (some ⟨b, 0, none⟩) ∧ s0.w.heap.size ≤ b ∧ Var s1676 b 64 ((⟨a0.Kind, 0, 0, 0, false⟩ : Deed) : Deed) := hA1679 8 (by kernel_rfl) (by show _ < 9; decide)
           have ha1687 : f1678 10 = Value.pointer (some ⟨b44, 0, none⟩) := (hB1680 10 (by kernel_rfl)).trans ha1629
           have ha1687e : b1683 = b44 := by have h3 := q1684.symm.trans ha1687; cases h3; rfl
           rw [ha1687e] at hb1685 hv1686
           refine L_fieldAddr_var fld64_1 ha1687 (by decide) ?_
           exact L_nil (hk1681 _ _ No (Ext.refl s1676) (fun _ h => h.elim) rfl (fun _ h => h.elim))
          ·intro f1690 s1688 hT1689 hA1691 hB1692 Q hk1693
           obtain ⟨b1695, q1696, hb1697, hv1698⟩ : ∃ b, f1690 10 = Value.pointer (some ⟨b, 0, none⟩) ∧ s0.w.heap.size ≤ b ∧ Var s1688 b 64 ((⟨a0.Kind, 0, 0, 0, false⟩ : Deed) : Deed) := hA1691 8 (by kernel_rfl) (by show _ < 9; decide)
           have ha1699 : f1690 10 = Value.pointer (some ⟨b44, 0, none⟩) := (hB1692 10 (by kernel_rfl)).trans ha1629
           have ha1699e : b1695 = b44 := by have h3 := q1696.symm.trans ha1699; cases h3; rfl
           rw [ha1699e] at hb1697 hv1698
           have ha1700 : f1690 95 = Value.int .i64 (a0.Peer) := hA1691 1 (by kernel_rfl) (by show _ < 9; decide)
           have ha1701 : f1690 98 = Value.pointer (some ⟨b44, 1, none⟩) := hA1691 4 (by kernel_rfl) (by show _ < 9; decide)
           refine L_store_field ty3 Deed.set_Peer ha1701 ha1700 Vint (hv1698) ?_
           intro s1636 e1634 hv1635
           exact L_nil (hk1693 undef _ _ e1634 (fun k h => ⟨8, (List.mem_singleton.2 rfl : (8 : Nat) ∈ [8]), (by show ownP (f1690 10) k; rw [ha1699]; exact congrArg (fun z => Value.pointer (some ⟨z, 0, none⟩)) h.symm)⟩) ⟨_, ha1699, hb1697, hv1635⟩ (fun k h => Or.inl ⟨8, (List.mem_singleton.2 rfl : (8 : Nat) ∈ [8]), h⟩))
          ·intro f1704 s1702 hT1703 hA1705 hB1706 Q hk1707
           obtain ⟨b1709, q1710, hb1711, hv1712⟩ : ∃ b, f1704 10 = Value.pointer (some ⟨b, 0, none⟩) ∧ s0.w.heap.size ≤ b ∧ Var s1702 b 64 ((Deed.with_Peer (⟨a0.Kind, 0, 0, 0, false⟩ : Deed) a0.Peer) : Deed) := hA1705 5 (by kernel_rfl) (by show _ < 9; decide)
           have ha1713 : f1704 10 = Value.pointer (some ⟨b44, 0, none⟩) := (hB1706 10 (by kernel_rfl)).trans ha1629
           have ha1713e : b1709 = b44 := by have h3 := q1710.symm.trans ha1713; cases h3; rfl
           rw [ha1713e] at hb1711 hv1712
           refine L_fieldAddr_var fld64_2 ha1713 (by decide) ?_
           exact L_nil (hk1707 _ _ No (Ext.refl s1702) (fun _ h => h.elim) rfl (fun _ h => h.elim))
          ·intro f1716 s1714 hT1715 hA1717 hB1718 Q hk1719
           obtain ⟨b1721, q1722, hb1723, hv1724⟩ : ∃ b, f1716 10 = Value.pointer (some ⟨b, 0, none⟩) ∧ s0.w.heap.size ≤ b ∧ Var s1714 b 64 ((Deed.with_Peer (⟨a0.Kind, 0, 0, 0, false⟩ : Deed) a0.Peer) : Deed) := hA1717 5 (by kernel_rfl) (by show _ < 9; decide)
           have ha1725 : f1716 10 = Value.pointer (some ⟨b44, 0, none⟩) := (hB1718 10 (by kernel_rfl)).trans ha1629
           have ha1725e : b1721 = b44 := by have h3 := q1722.symm.trans ha1725; cases h3; rfl
           rw [ha1725e] at hb1723 hv1724
           have ha1726 : f1716 97 = Value.int .i64 (a0.Tag) := hA1717 3 (by kernel_rfl) (by show _ < 9; decide)
           have ha1727 : f1716 99 = Value.pointer (some ⟨b44, 2, none⟩) := hA1717 6 (by kernel_rfl) (by show _ < 9; decide)
           refine L_store_field ty3 Deed.set_Tag ha1727 ha1726 Vint (hv1724) ?_
           intro s1640 e1638 hv1639
           exact L_nil (hk1719 undef _ _ e1638 (fun k h => ⟨5, (List.mem_singleton.2 rfl : (5 : Nat) ∈ [5]), (by show ownP (f1716 10) k; rw [ha1725]; exact congrArg (fun z => Value.pointer (some ⟨z, 0, none⟩)) h.symm)⟩) ⟨_, ha1725, hb1723, hv1639⟩ (fun k h => Or.inl ⟨5, (List.mem_singleton.2 rfl : (5 : Nat) ∈ [5]), h⟩))
          ·intro f1730 s1728 hT1729 hP1731 hD1732 hB1733
           have hE1734 := Tch.trans hE1625 hT1729 (fun k h => Or.inr (by have h2 := ent_is (k := 8) rfl rfl h; have h3 := Eq.mp (congrArg (fun v => ownP v k) (ha1629 : _ = Value.pointer (some ⟨b44, 0, none⟩))) h2; cases h3; exact (Nat.le_trans hE38.size hb45)))
           obtain ⟨b1735, q1736, hb1737, hv1738⟩ : ∃ b, f1730 10 = Value.pointer (some ⟨b, 0, none⟩) ∧ s0.w.heap.size ≤ b ∧ Var s1728 b 64 ((Deed.with_Tag (Deed.with_Peer (⟨a0.Kind, 0, 0, 0, false⟩ : Deed) a0.Peer) a0.Tag) : Deed) := hP1731 7 (by show _ < 9; decide) (by kernel_rfl)
           have ha1739 : f1730 10 = Value.pointer (some ⟨b44, 0, none⟩) := (hB1733 10 (by kernel_rfl)).trans ha1629
           have ha1739e : b1735 = b44 := by have h3 := q1736.symm.trans ha1739; cases h3; rfl
           rw [ha1739e] at hb1737 hv1738
           have ha1740 : f1730 3 = p2 := (hB1733 3 (by kernel_rfl)).trans ha1626
           have ha1741 : f1730 7 = Value.bool (true) := (hB1733 7 (by kernel_rfl)).trans ha1627
           have ha1742 : f1730 8 = Value.bool (decide (a0.Peer = (-1))) := (hB1733 8 (by kernel_rfl)).trans ha1628
           refine then_n ?_
           refine W_seq ?_
           refine W_region ?_
           refine L_load ty64 ha1740 (hp3.mono (l16.trans (l29.trans (e35.le.trans (e43.le.trans (e49.le.trans (e1621.le.trans hT1729.le))))))) (by decide) ?_
           intro v1743 hv1744
           refine L_load_var ty64 ha1739 (hv1738) (by decide) ?_
           intro v1745 hv1746
           refine L_seq64 (rfl : _ = v1743) hv1744 (rfl : _ = v1745) hv1746 (by decide) ?_
           refine L_move (rfl : _ = Value.bool (decide (a0 = (Deed.with_Tag (Deed.with_Peer (⟨a0.Kind, 0, 0, 0, false⟩ : Deed) a0.Peer) a0.Tag)))) (by decide) ?_
           rcases Bool.eq_false_or_eq_true (decide (a0 = (Deed.with_Tag (Deed.with_Peer (⟨a0.Kind, 0, 0, 0, false⟩ : Deed) a0.Peer) a0.Tag))) with hb1747 | hb1747
           ·have hr := ite_t hb1747 hr
            refine L_gt (e := 103) (by rfl) (by decide) (rfl : _ = Value.bool (decide (a0 = (Deed.with_Tag (Deed.with_Peer (⟨a0.Kind, 0, 0, 0, false⟩ : Deed) a0.Peer) a0.Tag)))) hb1747 ?_
            refine L_move ha1741 (by decide) ?_
            refine L_pick_t (rfl : _ = Value.bool (decide (a0 = (Deed.with_Tag (Deed.with_Peer (⟨a0.Kind, 0, 0, 0, false⟩ : Deed) a0.Peer) a0.Tag)))) hb1747 (rfl : _ = Value.bool (true)) (by decide) ?_
            refine L_move (rfl : _ = Value.bool (true)) (by decide) ?_
            refine L_gt (e := 106) (by rfl) (by decide) (rfl : _ = Value.bool (true)) rfl ?_
            refine L_move ha1742 (by decide) ?_
            refine L_pick_t (rfl : _ = Value.bool (true)) rfl (rfl : _ = Value.bool (decide (a0.Peer = (-1)))) (by decide) ?_
            refine L_assign (rfl : _ = Value.bool (decide (a0.Peer = (-1)))) (by decide) ?_
            refine L_nil ?_
            refine then_n ?_
            refine W_ret ?_
            obtain rfl := Option.some.inj hr
            exact done1 (Or.inl rfl) Try.results58 rfl ⟨_, _, rfl, rfl, hE1734, Vbool⟩
           ·have hr := ite_f hb1747 hr
            refine L_gf (e := 103) (by rfl) (by decide) (rfl : _ = Value.bool (decide (a0 = (Deed.with_Tag (Deed.with_Peer (⟨a0.Kind, 0, 0, 0, false⟩ : Deed) a0.Peer) a0.Tag)))) hb1747 (by decide) ?_
            refine L_pick_f (rfl : _ = Value.bool (decide (a0 = (Deed.with_Tag (Deed.with_Peer (⟨a0.Kind, 0, 0, 0, false⟩ : Deed) a0.Peer) a0.Tag)))) hb1747 (rfl : _ = Value.bool (false)) (by decide) ?_
            refine L_move (rfl : _ = Value.bool (false)) (by decide) ?_
            refine L_gf (e := 106) (by rfl) (by decide) (rfl : _ = Value.bool (false)) rfl (by decide) ?_
            refine L_pick_f (rfl : _ = Value.bool (false)) rfl (rfl : _ = Value.bool (false)) (by decide) ?_
            refine L_assign (rfl : _ = Value.bool (false)) (by decide) ?_
            refine L_nil ?_
            refine then_n ?_
            refine W_ret ?_
            obtain rfl := Option.some.inj hr
            exact done1 (Or.inl rfl) Try.results58 rfl ⟨_, _, rfl, rfl, hE1734, Vbool⟩
       ·have hr := ite_f hb1273 hr
        rcases Bool.eq_false_or_eq_true (x19) with hb1750 | hb1750
        ·have hr := ite_t hb1750 hr
         refine W_draws mixed (by kernel_rfl) [PV.eq (Value.bool (x6)), PV.eq (Value.bool (x6)), PV.ptr (a0.Tag : Int), PV.eq (Value.int .i64 (a0.Tag)), PV.eq (Value.bool (decide (a0.Tag = (-1)))), PV.eq (Value.bool (decide (a0.Tag = (-1)))), PV.eq (Value.bool (x19)), PV.eq (Value.bool (x19)), PV.eq (undef), PV.eq (undef), PV.eq (undef), PV.eq (Value.bool (true)), PV.eq (Value.bool (decide (a0.Tag = (-1)))), PV.eq (Value.bool (true))] (Steps_cons ?_ (Steps_cons ?_ (Steps_cons ?_ (Steps_cons ?_ (Steps_cons ?_ (Steps_cons ?_ (Steps_cons ?_ (Steps_cons ?_ (Steps_cons ?_ (Steps_cons ?_ (Steps_cons ?_ (Steps_cons ?_ (Steps_cons ?_ (Steps_cons ?_ Steps_nil)))))))))))))) ?_
         ·intro f1753 s1751 e1752 hA1754 hB1755 Q hk1756
          have ha1757 : f1753 7 = Value.bool (x6) := (hB1755 7 (by kernel_rfl)).trans g31_7
          refine L_move ha1757 (by decide) ?_
          exact L_nil (hk1756 _ _ (Ext.refl s1751) rfl)
         ·intro f1760 s1758 e1759 hA1761 hB1762 Q hk1763
          have ha1764 : f1760 52 = Value.bool (x6) := hA1761 0 52 (by kernel_rfl) (by kernel_rfl)
          refine L_move ha1764 (by decide) ?_
          exact L_nil (hk1763 _ _ (Ext.refl s1758) rfl)
         ·intro f1767 s1765 e1766 hA1768 hB1769 Q hk1770
          have ha1771 : f1767 3 = p2 := (hB1769 3 (by kernel_rfl)).trans g31_3
          have ha1772 : f1767 53 = Value.bool (x6) := hA1768 1 53 (by kernel_rfl) (by kernel_rfl)
          refine L_gt (e := 53) (by rfl) (by decide) ha1772 hb1273 ?_
          refine L_fieldAddr fld64_2 Deed.of_Tag ha1771 (hp3.mono (l16.trans (l29.trans (e35.le.trans (e43.le.trans (e49.le.trans e1766.le)))))) (by decide) ?_
          intro p1748 hp1749
          exact L_nil (hk1770 _ _ (Ext.refl s1765) hp1749)
         ·intro f1775 s1773 e1774 hA1776 hB1777 Q hk1778
          have ha1779 : f1775 53 = Value.bool (x6) := hA1776 1 53 (by kernel_rfl) (by kernel_rfl)
          have ha1780 : Ptr _ (f1775 54) (a0.Tag : Int) := hA1776 2 54 (by kernel_rfl) (by kernel_rfl)
          obtain ⟨v1781, q1782, hv1783⟩ : ∃ v, _ = v ∧ Ptr _ v _ := ⟨_, rfl, ha1780⟩
          refine L_gt (e := 53) (by rfl) (by decide) ha1779 hb1273 ?_
          refine L_load_int ty3 q1782 hv1783 (by decide) ?_
          exact L_nil (hk1778 _ _ (Ext.refl s1773) rfl)
         ·intro f1786 s1784 e1785 hA1787 hB1788 Q hk1789
          have ha1790 : f1786 53 = Value.bool (x6) := hA1787 1 53 (by kernel_rfl) (by kernel_rfl)
          have ha1791 : f1786 55 = Value.int .i64 (a0.Tag) := hA1787 3 55 (by kernel_rfl) (by kernel_rfl)
          refine L_gt (e := 53) (by rfl) (by decide) ha1790 hb1273 ?_
          refine L_eql ha1791 (rfl : _ = Value.int .i64 (-1)) (by decide) ?_
          exact L_nil (hk1789 _ _ (Ext.refl s1784) rfl)
         ·intro f1794 s1792 e1793 hA1795 hB1796 Q hk1797
          have ha1798 : f1794 53 = Value.bool (x6) := hA1795 1 53 (by kernel_rfl) (by kernel_rfl)
          have ha1799 : f1794 56 = Value.bool (decide (a0.Tag = (-1))) := hA1795 4 56 (by kernel_rfl) (by kernel_rfl)
          refine L_pick_f ha1798 hb1273 ha1799 (by decide) ?_
          exact L_nil (hk1797 _ _ (Ext.refl s1792) rfl)
         ·intro f1802 s1800 e1801 hA1803 hB1804 Q hk1805
          have ha1806 : f1802 8 = Value.bool (x19) := (hB1804 8 (by kernel_rfl)).trans g31_8
          refine L_move ha1806 (by decide) ?_
          exact L_nil (hk1805 _ _ (Ext.refl s1800) rfl)
         ·intro f1809 s1807 e1808 hA1810 hB1811 Q hk1812
          have ha1813 : f1809 58 = Value.bool (x19) := hA1810 6 58 (by kernel_rfl) (by kernel_rfl)
          refine L_move ha1813 (by decide) ?_
          exact L_nil (hk1812 _ _ (Ext.refl s1807) rfl)
         ·intro f1816 s1814 e1815 hA1817 hB1818 Q hk1819
          have ha1821 : f1816 59 = Value.bool (x19) := hA1817 7 59 (by kernel_rfl) (by kernel_rfl)
          refine L_gf (e := 59) (by rfl) (by decide) ha1821 hb1750 (by decide) ?_
          exact L_nil (hk1819 _ _ (Ext.refl s1814) rfl)
         ·intro f1824 s1822 e1823 hA1825 hB1826 Q hk1827
          have ha1828 : f1824 59 = Value.bool (x19) := hA1825 7 59 (by kernel_rfl) (by kernel_rfl)
          refine L_gf (e := 59) (by rfl) (by decide) ha1828 hb1750 (by decide) ?_
          exact L_nil (hk1827 _ _ (Ext.refl s1822) rfl)
         ·intro f1832 s1830 e1831 hA1833 hB1834 Q hk1835
          have ha1836 : f1832 59 = Value.bool (x19) := hA1833 7 59 (by kernel_rfl) (by kernel_rfl)
          refine L_gf (e := 59) (by rfl) (by decide) ha1836 hb1750 (by decide) ?_
          exact L_nil (hk1835 _ _ (Ext.refl s1830) rfl)
         ·intro f1840 s1838 e1839 hA1841 hB1842 Q hk1843
          have ha1844 : f1840 59 = Value.bool (x19) := hA1841 7 59 (by kernel_rfl) (by kernel_rfl)
          refine L_pick_t ha1844 hb1750 (rfl : _ = Value.bool (true)) (by decide) ?_
          exact L_nil (hk1843 _ _ (Ext.refl s1838) rfl)
         ·intro f1848 s1846 e1847 hA1849 hB1850 Q hk1851
          have ha1852 : f1848 57 = Value.bool (decide (a0.Tag = (-1))) := hA1849 5 57 (by kernel_rfl) (by kernel_rfl)
          refine L_assign ha1852 (by decide) ?_
          exact L_nil (hk1851 _ _ (Ext.refl s1846) rfl)
         ·intro f1855 s1853 e1854 hA1856 hB1857 Q hk1858
          have ha1859 : f1855 63 = Value.bool (true) := hA1856 11 63 (by kernel_rfl) (by kernel_rfl)
          refine L_assign ha1859 (by decide) ?_
          exact L_nil (hk1858 _ _ (Ext.refl s1853) rfl)
         ·intro f1862 s1860 e1861 hA1863 hB1864
          have hE1865 := Tch.ext hE52 e1861
          have ha1866 : f1862 3 = p2 := (hB1864 3 (by kernel_rfl)).trans g31_3
          have ha1867 : f1862 7 = Value.bool (decide (a0.Tag = (-1))) := hA1863 12 7 (by kernel_rfl)
          have ha1868 : f1862 8 = Value.bool (true) := hA1863 13 8 (by kernel_rfl)
          have ha1869 : f1862 10 = Value.pointer (some ⟨b44, 0, none⟩) := (hB1864 10 (by kernel_rfl)).trans rfl
          refine block_n ?_
          refine then_n ?_
          refine W_seq ?_
          refine W_drawP mixed 8 [PX.ptr (a0.Peer : Int), PX.eq (Value.int .i64 (a0.Peer)), PX.ptr (a0.Tag : Int), PX.eq (Value.int .i64 (a0.Tag)), PX.eq (Value.pointer (some ⟨b44, 1, none⟩)), PX.var s0.w.heap.size 64 ((Deed.with_Peer (⟨a0.Kind, 0, 0, 0, false⟩ : Deed) a0.Peer) : Deed), PX.eq (Value.pointer (some ⟨b44, 2, none⟩)), PX.var s0.w.heap.size 64 ((Deed.with_Tag (Deed.with_Peer (⟨a0.Kind, 0, 0, 0, false⟩ : Deed) a0.Peer) a0.Tag) : Deed), PX.var s0.w.heap.size 64 ((⟨a0.Kind, 0, 0, 0, false⟩ : Deed) : Deed)] [94, 95, 96, 97, 98, 10, 99, 10, 10] [[], [], [], [], [], [8], [], [5]] rfl (by kernel_rfl) (ent1 rfl ⟨b44, ha1869, (Nat.le_trans hE38.size hb45), (hv50).ext e1861⟩) (dis1 rfl) (StepsX_cons ?_ (StepsX_cons ?_ (StepsX_cons ?_ (StepsX_cons ?_ (StepsX_cons ?_ (StepsX_cons ?_ (StepsX_cons ?_ (StepsX_cons ?_ StepsX_nil)))))))) ?_
          ·intro f1884 s1882 hT1883 hA1885 hB1886 Q hk1887
           have ha1888 : f1884 3 = p2 := (hB1886 3 (by kernel_rfl)).trans ha1866
           refine L_fieldAddr fld64_1 Deed.of_Peer ha1888 (hp3.mono (l16.trans (l29.trans (e35.le.trans (e43.le.trans (e49.le.trans (e1861.le.trans hT1883.le))))))) (by decide) ?_
           intro p1870 hp1871
           exact L_nil (hk1887 _ _ No (Ext.refl s1882) (fun _ h => h.elim) hp1871 (fun _ h => h.elim))
          ·intro f1891 s1889 hT1890 hA1892 hB1893 Q hk1894
           have ha1895 : Ptr _ (f1891 94) (a0.Peer : Int) := hA1892 0 (by kernel_rfl) (by show _ < 9; decide)
           obtain ⟨v1896, q1897, hv1898⟩ : ∃ v, _ = v ∧ Ptr _ v _ := ⟨_, rfl, ha1895⟩
           refine L_load_int ty3 q1897 hv1898 (by decide) ?_
           exact L_nil (hk1894 _ _ No (Ext.refl s1889) (fun _ h => h.elim) rfl (fun _ h => h.elim))
          ·intro f1901 s1899 hT1900 hA1902 hB1903 Q hk1904
           have ha1905 : f1901 3 = p2 := (hB1903 3 (by kernel_rfl)).trans ha1866
           refine L_fieldAddr fld64_2 Deed.of_Tag ha1905 (hp3.mono (l16.trans (l29.trans (e35.le.trans (e43.le.trans (e49.le.trans (e1861.le.trans hT1900.le))))))) (by decide) ?_
           intro p1872 hp1873
           exact L_nil (hk1904 _ _ No (Ext.refl s1899) (fun _ h => h.elim) hp1873 (fun _ h => h.elim))
          ·intro f1908 s1906 hT1907 hA1909 hB1910 Q hk1911
           have ha1912 : Ptr _ (f1908 96) (a0.Tag : Int) := hA1909 2 (by kernel_rfl) (by show _ < 9; decide)
           obtain ⟨v1913, q1914, hv1915⟩ : ∃ v, _ = v ∧ Ptr _ v _ := ⟨_, rfl, ha1912⟩
           refine L_load_int ty3 q1914 hv1915 (by decide) ?_
           exact L_nil (hk1911 _ _ No (Ext.refl s1906) (fun _ h => h.elim) rfl (fun _ h => h.elim))
          ·intro f1918 s1916 hT1917 hA1919 hB1920 Q hk1921
           obtain ⟨b1923, q1924, hb1925, hv1926⟩ : ∃ b, f1918 10 = Value.pointer (some ⟨b, 0, none⟩) ∧ s0.w.heap.size ≤ b ∧ Var s1916 b 64 ((⟨a0.Kind, 0, 0, 0, false⟩ : Deed) : Deed) := hA1919 8 (by kernel_rfl) (by show _ < 9; decide)
           have ha1927 : f1918 10 = Value.pointer (some ⟨b44, 0, none⟩) := (hB1920 10 (by kernel_rfl)).trans ha1869
           have ha1927e : b1923 = b44 := by have h3 := q1924.symm.trans ha1927; cases h3; rfl
           rw [ha1927e] at hb1925 hv1926
           refine L_fieldAddr_var fld64_1 ha1927 (by decide) ?_
           exact L_nil (hk1921 _ _ No (Ext.refl s1916) (fun _ h => h.elim) rfl (fun _ h => h.elim))
          ·intro f1930 s1928 hT1929 hA1931 hB1932 Q hk1933
           obtain ⟨b1935, q1936, hb1937, hv1938⟩ : ∃ b, f1930 10 = Value.pointer (some ⟨b, 0, none⟩) ∧ s0.w.heap.size ≤ b ∧ Var s1928 b 64 ((⟨a0.Kind, 0, 0, 0, false⟩ : Deed) : Deed) := hA1931 8 (by kernel_rfl) (by show _ < 9; decide)
           have ha1939 : f1930 10 = Value.pointer (some ⟨b44, 0, none⟩) := (hB1932 10 (by kernel_rfl)).trans ha1869
           have ha1939e : b1935 = b44 := by have h3 := q1936.symm.trans ha1939; cases h3; rfl
           rw [ha1939e] at hb1937 hv1938
           have ha1940 : f1930 95 = Value.int .i64 (a0.Peer) := hA1931 1 (by kernel_rfl) (by show _ < 9; decide)
           have ha1941 : f1930 98 = Value.pointer (some ⟨b44, 1, none⟩) := hA1931 4 (by kernel_rfl) (by show _ < 9; decide)
           refine L_store_field ty3 Deed.set_Peer ha1941 ha1940 Vint (hv1938) ?_
           intro s1876 e1874 hv1875
           exact L_nil (hk1933 undef _ _ e1874 (fun k h => ⟨8, (List.mem_singleton.2 rfl : (8 : Nat) ∈ [8]), (by show ownP (f1930 10) k; rw [ha1939]; exact congrArg (fun z => Value.pointer (some ⟨z, 0, none⟩)) h.symm)⟩) ⟨_, ha1939, hb1937, hv1875⟩ (fun k h => Or.inl ⟨8, (List.mem_singleton.2 rfl : (8 : Nat) ∈ [8]), h⟩))
          ·intro f1944 s1942 hT1943 hA1945 hB1946 Q hk1947
           obtain ⟨b1949, q1950, hb1951, hv1952⟩ : ∃ b, f1944 10 = Value.pointer (some ⟨b, 0, none⟩) ∧ s0.w.heap.size ≤ b ∧ Var s1942 b 64 ((Deed.with_Peer (⟨a0.Kind, 0, 0, 0, false⟩ : Deed) a0.Peer) : Deed) := hA1945 5 (by kernel_rfl) (by show _ < 9; decide)
           have ha1953 : f1944 10 = Value.pointer (some ⟨b44, 0, none⟩) := (hB1946 10 (by kernel_rfl)).trans ha1869
           have ha1953e : b1949 = b44 := by have h3 := q1950.symm.trans ha1953; cases h3; rfl
           rw [ha1953e] at hb1951 hv1952
           refine L_fieldAddr_var fld64_2 ha1953 (by decide) ?_
           exact L_nil (hk1947 _ _ No (Ext.refl s1942) (fun _ h => h.elim) rfl (fun _ h => h.elim))
          ·intro f1956 s1954 hT1955 hA1957 hB1958 Q hk1959
           obtain ⟨b1961, q1962, hb1963, hv1964⟩ : ∃ b, f1956 10 = Value.pointer (some ⟨b, 0, none⟩) ∧ s0.w.heap.size ≤ b ∧ Var s1954 b 64 ((Deed.with_Peer (⟨a0.Kind, 0, 0, 0, false⟩ : Deed) a0.Peer) : Deed) := hA1957 5 (by kernel_rfl) (by show _ < 9; decide)
           have ha1965 : f1956 10 = Value.pointer (some ⟨b44, 0, none⟩) := (hB1958 10 (by kernel_rfl)).trans ha1869
           have ha1965e : b1961 = b44 := by have h3 := q1962.symm.trans ha1965; cases h3; rfl
           rw [ha1965e] at hb1963 hv1964
           have ha1966 : f1956 97 = Value.int .i64 (a0.Tag) := hA1957 3 (by kernel_rfl) (by show _ < 9; decide)
           have ha1967 : f1956 99 = Value.pointer (some ⟨b44, 2, none⟩) := hA1957 6 (by kernel_rfl) (by show _ < 9; decide)
           refine L_store_field ty3 Deed.set_Tag ha1967 ha1966 Vint (hv1964) ?_
           intro s1880 e1878 hv1879
           exact L_nil (hk1959 undef _ _ e1878 (fun k h => ⟨5, (List.mem_singleton.2 rfl : (5 : Nat) ∈ [5]), (by show ownP (f1956 10) k; rw [ha1965]; exact congrArg (fun z => Value.pointer (some ⟨z, 0, none⟩)) h.symm)⟩) ⟨_, ha1965, hb1963, hv1879⟩ (fun k h => Or.inl ⟨5, (List.mem_singleton.2 rfl : (5 : Nat) ∈ [5]), h⟩))
          ·intro f1970 s1968 hT1969 hP1971 hD1972 hB1973
           have hE1974 := Tch.trans hE1865 hT1969 (fun k h => Or.inr (by have h2 := ent_is (k := 8) rfl rfl h; have h3 := Eq.mp (congrArg (fun v => ownP v k) (ha1869 : _ = Value.pointer (some ⟨b44, 0, none⟩))) h2; cases h3; exact (Nat.le_trans hE38.size hb45)))
           obtain ⟨b1975, q1976, hb1977, hv1978⟩ : ∃ b, f1970 10 = Value.pointer (some ⟨b, 0, none⟩) ∧ s0.w.heap.size ≤ b ∧ Var s1968 b 64 ((Deed.with_Tag (Deed.with_Peer (⟨a0.Kind, 0, 0, 0, false⟩ : Deed) a0.Peer) a0.Tag) : Deed) := hP1971 7 (by show _ < 9; decide) (by kernel_rfl)
           have ha1979 : f1970 10 = Value.pointer (some ⟨b44, 0, none⟩) := (hB1973 10 (by kernel_rfl)).trans ha1869
           have ha1979e : b1975 = b44 := by have h3 := q1976.symm.trans ha1979; cases h3; rfl
           rw [ha1979e] at hb1977 hv1978
           have ha1980 : f1970 3 = p2 := (hB1973 3 (by kernel_rfl)).trans ha1866
           have ha1981 : f1970 7 = Value.bool (decide (a0.Tag = (-1))) := (hB1973 7 (by kernel_rfl)).trans ha1867
           have ha1982 : f1970 8 = Value.bool (true) := (hB1973 8 (by kernel_rfl)).trans ha1868
           refine then_n ?_
           refine W_seq ?_
           refine W_region ?_
           refine L_load ty64 ha1980 (hp3.mono (l16.trans (l29.trans (e35.le.trans (e43.le.trans (e49.le.trans (e1861.le.trans hT1969.le))))))) (by decide) ?_
           intro v1983 hv1984
           refine L_load_var ty64 ha1979 (hv1978) (by decide) ?_
           intro v1985 hv1986
           refine L_seq64 (rfl : _ = v1983) hv1984 (rfl : _ = v1985) hv1986 (by decide) ?_
           refine L_move (rfl : _ = Value.bool (decide (a0 = (Deed.with_Tag (Deed.with_Peer (⟨a0.Kind, 0, 0, 0, false⟩ : Deed) a0.Peer) a0.Tag)))) (by decide) ?_
           rcases Bool.eq_false_or_eq_true (decide (a0 = (Deed.with_Tag (Deed.with_Peer (⟨a0.Kind, 0, 0, 0, false⟩ : Deed) a0.Peer) a0.Tag))) with hb1987 | hb1987
           ·have hr := ite_t hb1987 hr
            refine L_gt (e := 103) (by rfl) (by decide) (rfl : _ = Value.bool (decide (a0 = (Deed.with_Tag (Deed.with_Peer (⟨a0.Kind, 0, 0, 0, false⟩ : Deed) a0.Peer) a0.Tag)))) hb1987 ?_
            refine L_move ha1981 (by decide) ?_
            refine L_pick_t (rfl : _ = Value.bool (decide (a0 = (Deed.with_Tag (Deed.with_Peer (⟨a0.Kind, 0, 0, 0, false⟩ : Deed) a0.Peer) a0.Tag)))) hb1987 (rfl : _ = Value.bool (decide (a0.Tag = (-1)))) (by decide) ?_
            refine L_move (rfl : _ = Value.bool (decide (a0.Tag = (-1)))) (by decide) ?_
            rcases Bool.eq_false_or_eq_true (decide (a0.Tag = (-1))) with hb1988 | hb1988
            ·have hr := ite_t hb1988 hr
             refine L_gt (e := 106) (by rfl) (by decide) (rfl : _ = Value.bool (decide (a0.Tag = (-1)))) hb1988 ?_
             refine L_move ha1982 (by decide) ?_
             refine L_pick_t (rfl : _ = Value.bool (decide (a0.Tag = (-1)))) hb1988 (rfl : _ = Value.bool (true)) (by decide) ?_
             refine L_assign (rfl : _ = Value.bool (true)) (by decide) ?_
             refine L_nil ?_
             refine then_n ?_
             refine W_ret ?_
             obtain rfl := Option.some.inj hr
             exact done1 (Or.inl rfl) Try.results58 rfl ⟨_, _, rfl, rfl, hE1974, Vbool⟩
            ·have hr := ite_f hb1988 hr
             refine L_gf (e := 106) (by rfl) (by decide) (rfl : _ = Value.bool (decide (a0.Tag = (-1)))) hb1988 (by decide) ?_
             refine L_pick_f (rfl : _ = Value.bool (decide (a0.Tag = (-1)))) hb1988 (rfl : _ = Value.bool (false)) (by decide) ?_
             refine L_assign (rfl : _ = Value.bool (false)) (by decide) ?_
             refine L_nil ?_
             refine then_n ?_
             refine W_ret ?_
             obtain rfl := Option.some.inj hr
             exact done1 (Or.inl rfl) Try.results58 rfl ⟨_, _, rfl, rfl, hE1974, Vbool⟩
           ·have hr := ite_f hb1987 hr
            refine L_gf (e := 103) (by rfl) (by decide) (rfl : _ = Value.bool (decide (a0 = (Deed.with_Tag (Deed.with_Peer (⟨a0.Kind, 0, 0, 0, false⟩ : Deed) a0.Peer) a0.Tag)))) hb1987 (by decide) ?_
            refine L_pick_f (rfl : _ = Value.bool (decide (a0 = (Deed.with_Tag (Deed.with_Peer (⟨a0.Kind, 0, 0, 0, false⟩ : Deed) a0.Peer) a0.Tag)))) hb1987 (rfl : _ = Value.bool (false)) (by decide) ?_
            refine L_move (rfl : _ = Value.bool (false)) (by decide) ?_
            refine L_gf (e := 106) (by rfl) (by decide) (rfl : _ = Value.bool (false)) rfl (by decide) ?_
            refine L_pick_f (rfl : _ = Value.bool (false)) rfl (rfl : _ = Value.bool (false)) (by decide) ?_
            refine L_assign (rfl : _ = Value.bool (false)) (by decide) ?_
            refine L_nil ?_
            refine then_n ?_
            refine W_ret ?_
            obtain rfl := Option.some.inj hr
            exact done1 (Or.inl rfl) Try.results58 rfl ⟨_, _, rfl, rfl, hE1974, Vbool⟩
        ·have hr := ite_f hb1750 hr
         refine W_draws mixed (by kernel_rfl) [PV.eq (Value.bool (x6)), PV.eq (Value.bool (x6)), PV.ptr (a0.Tag : Int), PV.eq (Value.int .i64 (a0.Tag)), PV.eq (Value.bool (decide (a0.Tag = (-1)))), PV.eq (Value.bool (decide (a0.Tag = (-1)))), PV.eq (Value.bool (x19)), PV.eq (Value.bool (x19)), PV.ptr (a0.Peer : Int), PV.eq (Value.int .i64 (a0.Peer)), PV.eq (Value.bool (decide (a0.Peer = (-1)))), PV.eq (Value.bool (decide (a0.Peer = (-1)))), PV.eq (Value.bool (decide (a0.Tag = (-1)))), PV.eq (Value.bool (decide (a0.Peer = (-1))))] (Steps_cons ?_ (Steps_cons ?_ (Steps_cons ?_ (Steps_cons ?_ (Steps_cons ?_ (Steps_cons ?_ (Steps_cons ?_ (Steps_cons ?_ (Steps_cons ?_ (Steps_cons ?_ (Steps_cons ?_ (Steps_cons ?_ (Steps_cons ?_ (Steps_cons ?_ Steps_nil)))))))))))))) ?_
         ·intro f1993 s1991 e1992 hA1994 hB1995 Q hk1996
          have ha1997 : f1993 7 = Value.bool (x6) := (hB1995 7 (by kernel_rfl)).trans g31_7
          refine L_move ha1997 (by decide) ?_
          exact L_nil (hk1996 _ _ (Ext.refl s1991) rfl)
         ·intro f2000 s1998 e1999 hA2001 hB2002 Q hk2003
          have ha2004 : f2000 52 = Value.bool (x6) := hA2001 0 52 (by kernel_rfl) (by kernel_rfl)
          refine L_move ha2004 (by decide) ?_
          exact L_nil (hk2003 _ _ (Ext.refl s1998) rfl)
         ·intro f2007 s2005 e2006 hA2008 hB2009 Q hk2010
          have ha2011 : f2007 3 = p2 := (hB2009 3 (by kernel_rfl)).trans g31_3
          have ha2012 : f2007 53 = Value.bool (x6) := hA2008 1 53 (by kernel_rfl) (by kernel_rfl)
          refine L_gt (e := 53) (by rfl) (by decide) ha2012 hb1273 ?_
          refine L_fieldAddr fld64_2 Deed.of_Tag ha2011 (hp3.mono (l16.trans (l29.trans (e35.le.trans (e43.le.trans (e49.le.trans e2006.le)))))) (by decide) ?_
          intro p1748 hp1749
          exact L_nil (hk2010 _ _ (Ext.refl s2005) hp1749)
         ·intro f2015 s2013 e2014 hA2016 hB2017 Q hk2018
          have ha2019 : f2015 53 = Value.bool (x6) := hA2016 1 53 (by kernel_rfl) (by kernel_rfl)
          have ha2020 : Ptr _ (f2015 54) (a0.Tag : Int) := hA2016 2 54 (by kernel_rfl) (by kernel_rfl)
          obtain ⟨v2021, q2022, hv2023⟩ : ∃ v, _ = v ∧ Ptr _ v _ := ⟨_, rfl, ha2020⟩
          refine L_gt (e := 53) (by rfl) (by decide) ha2019 hb1273 ?_
          refine L_load_int ty3 q2022 hv2023 (by decide) ?_
          exact L_nil (hk2018 _ _ (Ext.refl s2013) rfl)
         ·intro f2026 s2024 e2025 hA2027 hB2028 Q hk2029
          have ha2030 : f2026 53 = Value.bool (x6) := hA2027 1 53 (by kernel_rfl) (by kernel_rfl)
          have ha2031 : f2026 55 = Value.int .i64 (a0.Tag) := hA2027 3 55 (by kernel_rfl) (by kernel_rfl)
          refine L_gt (e := 53) (by rfl) (by decide) ha2030 hb1273 ?_
          refine L_eql ha2031 (rfl : _ = Value.int .i64 (-1)) (by decide) ?_
          exact L_nil (hk2029 _ _ (Ext.refl s2024) rfl)
         ·intro f2034 s2032 e2033 hA2035 hB2036 Q hk2037
          have ha2038 : f2034 53 = Value.bool (x6) := hA2035 1 53 (by kernel_rfl) (by kernel_rfl)
          have ha2039 : f2034 56 = Value.bool (decide (a0.Tag = (-1))) := hA2035 4 56 (by kernel_rfl) (by kernel_rfl)
          refine L_pick_f ha2038 hb1273 ha2039 (by decide) ?_
          exact L_nil (hk2037 _ _ (Ext.refl s2032) rfl)
         ·intro f2042 s2040 e2041 hA2043 hB2044 Q hk2045
          have ha2046 : f2042 8 = Value.bool (x19) := (hB2044 8 (by kernel_rfl)).trans g31_8
          refine L_move ha2046 (by decide) ?_
          exact L_nil (hk2045 _ _ (Ext.refl s2040) rfl)
         ·intro f2049 s2047 e2048 hA2050 hB2051 Q hk2052
          have ha2053 : f2049 58 = Value.bool (x19) := hA2050 6 58 (by kernel_rfl) (by kernel_rfl)
          refine L_move ha2053 (by decide) ?_
          exact L_nil (hk2052 _ _ (Ext.refl s2047) rfl)
         ·intro f2056 s2054 e2055 hA2057 hB2058 Q hk2059
          have ha2060 : f2056 3 = p2 := (hB2058 3 (by kernel_rfl)).trans g31_3
          have ha2061 : f2056 59 = Value.bool (x19) := hA2057 7 59 (by kernel_rfl) (by kernel_rfl)
          refine L_gt (e := 59) (by rfl) (by decide) ha2061 hb1750 ?_
          refine L_fieldAddr fld64_1 Deed.of_Peer ha2060 (hp3.mono (l16.trans (l29.trans (e35.le.trans (e43.le.trans (e49.le.trans e2055.le)))))) (by decide) ?_
          intro p1989 hp1990
          exact L_nil (hk2059 _ _ (Ext.refl s2054) hp1990)
         ·intro f2064 s2062 e2063 hA2065 hB2066 Q hk2067
          have ha2068 : f2064 59 = Value.bool (x19) := hA2065 7 59 (by kernel_rfl) (by kernel_rfl)
          have ha2069 : Ptr _ (f2064 60) (a0.Peer : Int) := hA2065 8 60 (by kernel_rfl) (by kernel_rfl)
          obtain ⟨v2070, q2071, hv2072⟩ : ∃ v, _ = v ∧ Ptr _ v _ := ⟨_, rfl, ha2069⟩
          refine L_gt (e := 59) (by rfl) (by decide) ha2068 hb1750 ?_
          refine L_load_int ty3 q2071 hv2072 (by decide) ?_
          exact L_nil (hk2067 _ _ (Ext.refl s2062) rfl)
         ·intro f2075 s2073 e2074 hA2076 hB2077 Q hk2078
          have ha2079 : f2075 59 = Value.bool (x19) := hA2076 7 59 (by kernel_rfl) (by kernel_rfl)
          have ha2080 : f2075 61 = Value.int .i64 (a0.Peer) := hA2076 9 61 (by kernel_rfl) (by kernel_rfl)
          refine L_gt (e := 59) (by rfl) (by decide) ha2079 hb1750 ?_
          refine L_eql ha2080 (rfl : _ = Value.int .i64 (-1)) (by decide) ?_
          exact L_nil (hk2078 _ _ (Ext.refl s2073) rfl)
         ·intro f2083 s2081 e2082 hA2084 hB2085 Q hk2086
          have ha2087 : f2083 59 = Value.bool (x19) := hA2084 7 59 (by kernel_rfl) (by kernel_rfl)
          have ha2088 : f2083 62 = Value.bool (decide (a0.Peer = (-1))) := hA2084 10 62 (by kernel_rfl) (by kernel_rfl)
          refine L_pick_f ha2087 hb1750 ha2088 (by decide) ?_
          exact L_nil (hk2086 _ _ (Ext.refl s2081) rfl)
         ·intro f2091 s2089 e2090 hA2092 hB2093 Q hk2094
          have ha2095 : f2091 57 = Value.bool (decide (a0.Tag = (-1))) := hA2092 5 57 (by kernel_rfl) (by kernel_rfl)
          refine L_assign ha2095 (by decide) ?_
          exact L_nil (hk2094 _ _ (Ext.refl s2089) rfl)
         ·intro f2098 s2096 e2097 hA2099 hB2100 Q hk2101
          have ha2102 : f2098 63 = Value.bool (decide (a0.Peer = (-1))) := hA2099 11 63 (by kernel_rfl) (by kernel_rfl)
          refine L_assign ha2102 (by decide) ?_
          exact L_nil (hk2101 _ _ (Ext.refl s2096) rfl)
         ·intro f2105 s2103 e2104 hA2106 hB2107
          have hE2108 := Tch.ext hE52 e2104
          have ha2109 : f2105 3 = p2 := (hB2107 3 (by kernel_rfl)).trans g31_3
          have ha2110 : f2105 7 = Value.bool (decide (a0.Tag = (-1))) := hA2106 12 7 (by kernel_rfl)
          have ha2111 : f2105 8 = Value.bool (decide (a0.Peer = (-1))) := hA2106 13 8 (by kernel_rfl)
          have ha2112 : f2105 10 = Value.pointer (some ⟨b44, 0, none⟩) := (hB2107 10 (by kernel_rfl)).trans rfl
          refine block_n ?_
          refine then_n ?_
          refine W_seq ?_
          refine W_drawP mixed 8 [PX.ptr (a0.Peer : Int), PX.eq (Value.int .i64 (a0.Peer)), PX.ptr (a0.Tag : Int), PX.eq (Value.int .i64 (a0.Tag)), PX.eq (Value.pointer (some ⟨b44, 1, none⟩)), PX.var s0.w.heap.size 64 ((Deed.with_Peer (⟨a0.Kind, 0, 0, 0, false⟩ : Deed) a0.Peer) : Deed), PX.eq (Value.pointer (some ⟨b44, 2, none⟩)), PX.var s0.w.heap.size 64 ((Deed.with_Tag (Deed.with_Peer (⟨a0.Kind, 0, 0, 0, false⟩ : Deed) a0.Peer) a0.Tag) : Deed), PX.var s0.w.heap.size 64 ((⟨a0.Kind, 0, 0, 0, false⟩ : Deed) : Deed)] [94, 95, 96, 97, 98, 10, 99, 10, 10] [[], [], [], [], [], [8], [], [5]] rfl (by kernel_rfl) (ent1 rfl ⟨b44, ha2112, (Nat.le_trans hE38.size hb45), (hv50).ext e2104⟩) (dis1 rfl) (StepsX_cons ?_ (StepsX_cons ?_ (StepsX_cons ?_ (StepsX_cons ?_ (StepsX_cons ?_ (StepsX_cons ?_ (StepsX_cons ?_ (StepsX_cons ?_ StepsX_nil)))))))) ?_
          ·intro f2127 s2125 hT2126 hA2128 hB2129 Q hk2130
           have ha2131 : f2127 3 = p2 := (hB2129 3 (by kernel_rfl)).trans ha2109
           refine L_fieldAddr fld64_1 Deed.of_Peer ha2131 (hp3.mono (l16.trans (l29.trans (e35.le.trans (e43.le.trans (e49.le.trans (e2104.le.trans hT2126.le))))))) (by decide) ?_
           intro p2113 hp2114
           exact L_nil (hk2130 _ _ No (Ext.refl s2125) (fun _ h => h.elim) hp2114 (fun _ h => h.elim))
          ·intro f2134 s2132 hT2133 hA2135 hB2136 Q hk2137
           have ha2138 : Ptr _ (f2134 94) (a0.Peer : Int) := hA2135 0 (by kernel_rfl) (by show _ < 9; decide)
           obtain ⟨v2139, q2140, hv2141⟩ : ∃ v, _ = v ∧ Ptr _ v _ := ⟨_, rfl, ha2138⟩
           refine L_load_int ty3 q2140 hv2141 (by decide) ?_
           exact L_nil (hk2137 _ _ No (Ext.refl s2132) (fun _ h => h.elim) rfl (fun _ h => h.elim))
          ·intro f2144 s2142 hT2143 hA2145 hB2146 Q hk2147
           have ha2148 : f2144 3 = p2 := (hB2146 3 (by kernel_rfl)).trans ha2109
           refine L_fieldAddr fld64_2 Deed.of_Tag ha2148 (hp3.mono (l16.trans (l29.trans (e35.le.trans (e43.le.trans (e49.le.trans (e2104.le.trans hT2143.le))))))) (by decide) ?_
           intro p2115 hp2116
           exact L_nil (hk2147 _ _ No (Ext.refl s2142) (fun _ h => h.elim) hp2116 (fun _ h => h.elim))
          ·intro f2151 s2149 hT2150 hA2152 hB2153 Q hk2154
           have ha2155 : Ptr _ (f2151 96) (a0.Tag : Int) := hA2152 2 (by kernel_rfl) (by show _ < 9; decide)
           obtain ⟨v2156, q2157, hv2158⟩ : ∃ v, _ = v ∧ Ptr _ v _ := ⟨_, rfl, ha2155⟩
           refine L_load_int ty3 q2157 hv2158 (by decide) ?_
           exact L_nil (hk2154 _ _ No (Ext.refl s2149) (fun _ h => h.elim) rfl (fun _ h => h.elim))
          ·intro f2161 s2159 hT2160 hA2162 hB2163 Q hk2164
           obtain ⟨b2166, q2167, hb2168, hv2169⟩ : ∃ b, f2161 10 = Value.pointer (some ⟨b, 0, none⟩) ∧ s0.w.heap.size ≤ b ∧ Var s2159 b 64 ((⟨a0.Kind, 0, 0, 0, false⟩ : Deed) : Deed) := hA2162 8 (by kernel_rfl) (by show _ < 9; decide)
           have ha2170 : f2161 10 = Value.pointer (some ⟨b44, 0, none⟩) := (hB2163 10 (by kernel_rfl)).trans ha2112
           have ha2170e : b2166 = b44 := by have h3 := q2167.symm.trans ha2170; cases h3; rfl
           rw [ha2170e] at hb2168 hv2169
           refine L_fieldAddr_var fld64_1 ha2170 (by decide) ?_
           exact L_nil (hk2164 _ _ No (Ext.refl s2159) (fun _ h => h.elim) rfl (fun _ h => h.elim))
          ·intro f2173 s2171 hT2172 hA2174 hB2175 Q hk2176
           obtain ⟨b2178, q2179, hb2180, hv2181⟩ : ∃ b, f2173 10 = Value.pointer (some ⟨b, 0, none⟩) ∧ s0.w.heap.size ≤ b ∧ Var s2171 b 64 ((⟨a0.Kind, 0, 0, 0, false⟩ : Deed) : Deed) := hA2174 8 (by kernel_rfl) (by show _ < 9; decide)
           have ha2182 : f2173 10 = Value.pointer (some ⟨b44, 0, none⟩) := (hB2175 10 (by kernel_rfl)).trans ha2112
           have ha2182e : b2178 = b44 := by have h3 := q2179.symm.trans ha2182; cases h3; rfl
           rw [ha2182e] at hb2180 hv2181
           have ha2183 : f2173 95 = Value.int .i64 (a0.Peer) := hA2174 1 (by kernel_rfl) (by show _ < 9; decide)
           have ha2184 : f2173 98 = Value.pointer (some ⟨b44, 1, none⟩) := hA2174 4 (by kernel_rfl) (by show _ < 9; decide)
           refine L_store_field ty3 Deed.set_Peer ha2184 ha2183 Vint (hv2181) ?_
           intro s2119 e2117 hv2118
           exact L_nil (hk2176 undef _ _ e2117 (fun k h => ⟨8, (List.mem_singleton.2 rfl : (8 : Nat) ∈ [8]), (by show ownP (f2173 10) k; rw [ha2182]; exact congrArg (fun z => Value.pointer (some ⟨z, 0, none⟩)) h.symm)⟩) ⟨_, ha2182, hb2180, hv2118⟩ (fun k h => Or.inl ⟨8, (List.mem_singleton.2 rfl : (8 : Nat) ∈ [8]), h⟩))
          ·intro f2187 s2185 hT2186 hA2188 hB2189 Q hk2190
           obtain ⟨b2192, q2193, hb2194, hv2195⟩ : ∃ b, f2187 10 = Value.pointer (some ⟨b, 0, none⟩) ∧ s0.w.heap.size ≤ b ∧ Var s2185 b 64 ((Deed.with_Peer (⟨a0.Kind, 0, 0, 0, false⟩ : Deed) a0.Peer) : Deed) := hA2188 5 (by kernel_rfl) (by show _ < 9; decide)
           have ha2196 : f2187 10 = Value.pointer (some ⟨b44, 0, none⟩) := (hB2189 10 (by kernel_rfl)).trans ha2112
           have ha2196e : b2192 = b44 := by have h3 := q2193.symm.trans ha2196; cases h3; rfl
           rw [ha2196e] at hb2194 hv2195
           refine L_fieldAddr_var fld64_2 ha2196 (by decide) ?_
           exact L_nil (hk2190 _ _ No (Ext.refl s2185) (fun _ h => h.elim) rfl (fun _ h => h.elim))
          ·intro f2199 s2197 hT2198 hA2200 hB2201 Q hk2202
           obtain ⟨b2204, q2205, hb2206, hv2207⟩ : ∃ b, f2199 10 = Value.pointer (some ⟨b, 0, none⟩) ∧ s0.w.heap.size ≤ b ∧ Var s2197 b 64 ((Deed.with_Peer (⟨a0.Kind, 0, 0, 0, false⟩ : Deed) a0.Peer) : Deed) := hA2200 5 (by kernel_rfl) (by show _ < 9; decide)
           have ha2208 : f2199 10 = Value.pointer (some ⟨b44, 0, none⟩) := (hB2201 10 (by kernel_rfl)).trans ha2112
           have ha2208e : b2204 = b44 := by have h3 := q2205.symm.trans ha2208; cases h3; rfl
           rw [ha2208e] at hb2206 hv2207
           have ha2209 : f2199 97 = Value.int .i64 (a0.Tag) := hA2200 3 (by kernel_rfl) (by show _ < 9; decide)
           have ha2210 : f2199 99 = Value.pointer (some ⟨b44, 2, none⟩) := hA2200 6 (by kernel_rfl) (by show _ < 9; decide)
           refine L_store_field ty3 Deed.set_Tag ha2210 ha2209 Vint (hv2207) ?_
           intro s2123 e2121 hv2122
           exact L_nil (hk2202 undef _ _ e2121 (fun k h => ⟨5, (List.mem_singleton.2 rfl : (5 : Nat) ∈ [5]), (by show ownP (f2199 10) k; rw [ha2208]; exact congrArg (fun z => Value.pointer (some ⟨z, 0, none⟩)) h.symm)⟩) ⟨_, ha2208, hb2206, hv2122⟩ (fun k h => Or.inl ⟨5, (List.mem_singleton.2 rfl : (5 : Nat) ∈ [5]), h⟩))
          ·intro f2213 s2211 hT2212 hP2214 hD2215 hB2216
           have hE2217 := Tch.trans hE2108 hT2212 (fun k h => Or.inr (by have h2 := ent_is (k := 8) rfl rfl h; have h3 := Eq.mp (congrArg (fun v => ownP v k) (ha2112 : _ = Value.pointer (some ⟨b44, 0, none⟩))) h2; cases h3; exact (Nat.le_trans hE38.size hb45)))
           obtain ⟨b2218, q2219, hb2220, hv2221⟩ : ∃ b, f2213 10 = Value.pointer (some ⟨b, 0, none⟩) ∧ s0.w.heap.size ≤ b ∧ Var s2211 b 64 ((Deed.with_Tag (Deed.with_Peer (⟨a0.Kind, 0, 0, 0, false⟩ : Deed) a0.Peer) a0.Tag) : Deed) := hP2214 7 (by show _ < 9; decide) (by kernel_rfl)
           have ha2222 : f2213 10 = Value.pointer (some ⟨b44, 0, none⟩) := (hB2216 10 (by kernel_rfl)).trans ha2112
           have ha2222e : b2218 = b44 := by have h3 := q2219.symm.trans ha2222; cases h3; rfl
           rw [ha2222e] at hb2220 hv2221
           have ha2223 : f2213 3 = p2 := (hB2216 3 (by kernel_rfl)).trans ha2109
           have ha2224 : f2213 7 = Value.bool (decide (a0.Tag = (-1))) := (hB2216 7 (by kernel_rfl)).trans ha2110
           have ha2225 : f2213 8 = Value.bool (decide (a0.Peer = (-1))) := (hB2216 8 (by kernel_rfl)).trans ha2111
           refine then_n ?_
           refine W_seq ?_
           refine W_region ?_
           refine L_load ty64 ha2223 (hp3.mono (l16.trans (l29.trans (e35.le.trans (e43.le.trans (e49.le.trans (e2104.le.trans hT2212.le))))))) (by decide) ?_
           intro v2226 hv2227
           refine L_load_var ty64 ha2222 (hv2221) (by decide) ?_
           intro v2228 hv2229
           refine L_seq64 (rfl : _ = v2226) hv2227 (rfl : _ = v2228) hv2229 (by decide) ?_
           refine L_move (rfl : _ = Value.bool (decide (a0 = (Deed.with_Tag (Deed.with_Peer (⟨a0.Kind, 0, 0, 0, false⟩ : Deed) a0.Peer) a0.Tag)))) (by decide) ?_
           rcases Bool.eq_false_or_eq_true (decide (a0 = (Deed.with_Tag (Deed.with_Peer (⟨a0.Kind, 0, 0, 0, false⟩ : Deed) a0.Peer) a0.Tag))) with hb2230 | hb2230
           ·have hr := ite_t hb2230 hr
            refine L_gt (e := 103) (by rfl) (by decide) (rfl : _ = Value.bool (decide (a0 = (Deed.with_Tag (Deed.with_Peer (⟨a0.Kind, 0, 0, 0, false⟩ : Deed) a0.Peer) a0.Tag)))) hb2230 ?_
            refine L_move ha2224 (by decide) ?_
            refine L_pick_t (rfl : _ = Value.bool (decide (a0 = (Deed.with_Tag (Deed.with_Peer (⟨a0.Kind, 0, 0, 0, false⟩ : Deed) a0.Peer) a0.Tag)))) hb2230 (rfl : _ = Value.bool (decide (a0.Tag = (-1)))) (by decide) ?_
            refine L_move (rfl : _ = Value.bool (decide (a0.Tag = (-1)))) (by decide) ?_
            rcases Bool.eq_false_or_eq_true (decide (a0.Tag = (-1))) with hb2231 | hb2231
            ·have hr := ite_t hb2231 hr
             refine L_gt (e := 106) (by rfl) (by decide) (rfl : _ = Value.bool (decide (a0.Tag = (-1)))) hb2231 ?_
             refine L_move ha2225 (by decide) ?_
             refine L_pick_t (rfl : _ = Value.bool (decide (a0.Tag = (-1)))) hb2231 (rfl : _ = Value.bool (decide (a0.Peer = (-1)))) (by decide) ?_
             refine L_assign (rfl : _ = Value.bool (decide (a0.Peer = (-1)))) (by decide) ?_
             refine L_nil ?_
             refine then_n ?_
             refine W_ret ?_
             obtain rfl := Option.some.inj hr
             exact done1 (Or.inl rfl) Try.results58 rfl ⟨_, _, rfl, rfl, hE2217, Vbool⟩
            ·have hr := ite_f hb2231 hr
             refine L_gf (e := 106) (by rfl) (by decide) (rfl : _ = Value.bool (decide (a0.Tag = (-1)))) hb2231 (by decide) ?_
             refine L_pick_f (rfl : _ = Value.bool (decide (a0.Tag = (-1)))) hb2231 (rfl : _ = Value.bool (false)) (by decide) ?_
             refine L_assign (rfl : _ = Value.bool (false)) (by decide) ?_
             refine L_nil ?_
             refine then_n ?_
             refine W_ret ?_
             obtain rfl := Option.some.inj hr
             exact done1 (Or.inl rfl) Try.results58 rfl ⟨_, _, rfl, rfl, hE2217, Vbool⟩
           ·have hr := ite_f hb2230 hr
            refine L_gf (e := 103) (by rfl) (by decide) (rfl : _ = Value.bool (decide (a0 = (Deed.with_Tag (Deed.with_Peer (⟨a0.Kind, 0, 0, 0, false⟩ : Deed) a0.Peer) a0.Tag)))) hb2230 (by decide) ?_
            refine L_pick_f (rfl : _ = Value.bool (decide (a0 = (Deed.with_Tag (Deed.with_Peer (⟨a0.Kind, 0, 0, 0, false⟩ : Deed) a0.Peer) a0.Tag)))) hb2230 (rfl : _ = Value.bool (false)) (by decide) ?_
            refine L_move (rfl : _ = Value.bool (false)) (by decide) ?_
            refine L_gf (e := 106) (by rfl) (by decide) (rfl : _ = Value.bool (false)) rfl (by decide) ?_
            refine L_pick_f (rfl : _ = Value.bool (false)) rfl (rfl : _ = Value.bool (false)) (by decide) ?_
            refine L_assign (rfl : _ = Value.bool (false)) (by decide) ?_
            refine L_nil ?_
            refine then_n ?_
            refine W_ret ?_
            obtain rfl := Option.some.inj hr
            exact done1 (Or.inl rfl) Try.results58 rfl ⟨_, _, rfl, rfl, hE2217, Vbool⟩
     ·have hr := ite_f hb305 hr
      refine W_region ?_
      refine L_eql (rfl : _ = Value.int .i64 (a0.Kind)) (rfl : _ = Value.int .i64 (4)) (by decide) ?_
      refine L_assign (rfl : _ = Value.bool (decide (a0.Kind = 4))) (by decide) ?_
      refine L_nil ?_
      refine then_n ?_
      refine W_cond _ (rfl : _ = Value.bool (decide (a0.Kind = 4))) (fun hb2232 => ?_) (fun hb2232 => ?_)
      ·have hr := ite_t hb2232 hr
       refine W_seq ?_
       refine W_seq ?_
       refine W_region ?_
       refine L_fieldAddr fld64_0 Deed.of_Kind g31_3 (hp3.mono (l16.trans (l29.trans (e35.le.trans (e43.le.trans e49.le))))) (by decide) ?_
       intro p2233 hp2234
       refine L_load_int ty3 (rfl : _ = p2233) hp2234 (by decide) ?_
       refine L_eql (rfl : _ = Value.int .i64 (a0.Kind)) (rfl : _ = Value.int .i64 (4)) (by decide) ?_
       refine L_nil ?_
       refine then_n ?_
       refine W_cond _ (rfl : _ = Value.bool (decide (a0.Kind = 4))) (fun _ => ?_) (fun h => absurd (h.symm.trans hb2232) (by decide))
       refine W_region ?_
       refine L_move (rfl : _ = Value.int .i64 (y32)) (by decide) ?_
       refine L_fieldAddr_var fld64_3 (rfl : _ = Value.pointer (some ⟨b44, 0, none⟩)) (by decide) ?_
       refine L_store_field ty3 Deed.set_Req (rfl : _ = Value.pointer (some ⟨b44, 3, none⟩)) (rfl : _ = Value.int .i64 (y32)) Vint (hv50) ?_
       intro s2238 e2236 hv2237
       have hE2239 := Tch.trans hE52 e2236 (fun k hk => Or.inr (by subst hk; exact (Nat.le_trans hE38.size hb45)))
       refine L_nil ?_
       refine then_n ?_
       rcases Bool.eq_false_or_eq_true (x6) with hb2240 | hb2240
       ·have hr := ite_t hb2240 hr
        rcases Bool.eq_false_or_eq_true (x19) with hb2241 | hb2241
        ·have hr := ite_t hb2241 hr
         refine W_draws mixed (by kernel_rfl) [PV.eq (Value.bool (x6)), PV.eq (Value.bool (x6)), PV.eq (undef), PV.eq (undef), PV.eq (undef), PV.eq (Value.bool (true)), PV.eq (Value.bool (x19)), PV.eq (Value.bool (x19)), PV.eq (undef), PV.eq (undef), PV.eq (undef), PV.eq (Value.bool (true)), PV.eq (Value.bool (true)), PV.eq (Value.bool (true))] (Steps_cons ?_ (Steps_cons ?_ (Steps_cons ?_ (Steps_cons ?_ (Steps_cons ?_ (Steps_cons ?_ (Steps_cons ?_ (Steps_cons ?_ (Steps_cons ?_ (Steps_cons ?_ (Steps_cons ?_ (Steps_cons ?_ (Steps_cons ?_ (Steps_cons ?_ Steps_nil)))))))))))))) ?_
         ·intro f2244 s2242 e2243 hA2245 hB2246 Q hk2247
          have ha2248 : f2244 7 = Value.bool (x6) := (hB2246 7 (by kernel_rfl)).trans g31_7
          refine L_move ha2248 (by decide) ?_
          exact L_nil (hk2247 _ _ (Ext.refl s2242) rfl)
         ·intro f2251 s2249 e2250 hA2252 hB2253 Q hk2254
          have ha2255 : f2251 52 = Value.bool (x6) := hA2252 0 52 (by kernel_rfl) (by kernel_rfl)
          refine L_move ha2255 (by decide) ?_
          exact L_nil (hk2254 _ _ (Ext.refl s2249) rfl)
         ·intro f2258 s2256 e2257 hA2259 hB2260 Q hk2261
          have ha2263 : f2258 53 = Value.bool (x6) := hA2259 1 53 (by kernel_rfl) (by kernel_rfl)
          refine L_gf (e := 53) (by rfl) (by decide) ha2263 hb2240 (by decide) ?_
          exact L_nil (hk2261 _ _ (Ext.refl s2256) rfl)
         ·intro f2266 s2264 e2265 hA2267 hB2268 Q hk2269
          have ha2270 : f2266 53 = Value.bool (x6) := hA2267 1 53 (by kernel_rfl) (by kernel_rfl)
          refine L_gf (e := 53) (by rfl) (by decide) ha2270 hb2240 (by decide) ?_
          exact L_nil (hk2269 _ _ (Ext.refl s2264) rfl)
         ·intro f2274 s2272 e2273 hA2275 hB2276 Q hk2277
          have ha2278 : f2274 53 = Value.bool (x6) := hA2275 1 53 (by kernel_rfl) (by kernel_rfl)
          refine L_gf (e := 53) (by rfl) (by decide) ha2278 hb2240 (by decide) ?_
          exact L_nil (hk2277 _ _ (Ext.refl s2272) rfl)
         ·intro f2282 s2280 e2281 hA2283 hB2284 Q hk2285
          have ha2286 : f2282 53 = Value.bool (x6) := hA2283 1 53 (by kernel_rfl) (by kernel_rfl)
          refine L_pick_t ha2286 hb2240 (rfl : _ = Value.bool (true)) (by decide) ?_
          exact L_nil (hk2285 _ _ (Ext.refl s2280) rfl)
         ·intro f2290 s2288 e2289 hA2291 hB2292 Q hk2293
          have ha2294 : f2290 8 = Value.bool (x19) := (hB2292 8 (by kernel_rfl)).trans g31_8
          refine L_move ha2294 (by decide) ?_
          exact L_nil (hk2293 _ _ (Ext.refl s2288) rfl)
         ·intro f2297 s2295 e2296 hA2298 hB2299 Q hk2300
          have ha2301 : f2297 58 = Value.bool (x19) := hA2298 6 58 (by kernel_rfl) (by kernel_rfl)
          refine L_move ha2301 (by decide) ?_
          exact L_nil (hk2300 _ _ (Ext.refl s2295) rfl)
         ·intro f2304 s2302 e2303 hA2305 hB2306 Q hk2307
          have ha2309 : f2304 59 = Value.bool (x19) := hA2305 7 59 (by kernel_rfl) (by kernel_rfl)
          refine L_gf (e := 59) (by rfl) (by decide) ha2309 hb2241 (by decide) ?_
          exact L_nil (hk2307 _ _ (Ext.refl s2302) rfl)
         ·intro f2312 s2310 e2311 hA2313 hB2314 Q hk2315
          have ha2316 : f2312 59 = Value.bool (x19) := hA2313 7 59 (by kernel_rfl) (by kernel_rfl)
          refine L_gf (e := 59) (by rfl) (by decide) ha2316 hb2241 (by decide) ?_
          exact L_nil (hk2315 _ _ (Ext.refl s2310) rfl)
         ·intro f2320 s2318 e2319 hA2321 hB2322 Q hk2323
          have ha2324 : f2320 59 = Value.bool (x19) := hA2321 7 59 (by kernel_rfl) (by kernel_rfl)
          refine L_gf (e := 59) (by rfl) (by decide) ha2324 hb2241 (by decide) ?_
          exact L_nil (hk2323 _ _ (Ext.refl s2318) rfl)
         ·intro f2328 s2326 e2327 hA2329 hB2330 Q hk2331
          have ha2332 : f2328 59 = Value.bool (x19) := hA2329 7 59 (by kernel_rfl) (by kernel_rfl)
          refine L_pick_t ha2332 hb2241 (rfl : _ = Value.bool (true)) (by decide) ?_
          exact L_nil (hk2331 _ _ (Ext.refl s2326) rfl)
         ·intro f2336 s2334 e2335 hA2337 hB2338 Q hk2339
          have ha2340 : f2336 57 = Value.bool (true) := hA2337 5 57 (by kernel_rfl) (by kernel_rfl)
          refine L_assign ha2340 (by decide) ?_
          exact L_nil (hk2339 _ _ (Ext.refl s2334) rfl)
         ·intro f2343 s2341 e2342 hA2344 hB2345 Q hk2346
          have ha2347 : f2343 63 = Value.bool (true) := hA2344 11 63 (by kernel_rfl) (by kernel_rfl)
          refine L_assign ha2347 (by decide) ?_
          exact L_nil (hk2346 _ _ (Ext.refl s2341) rfl)
         ·intro f2350 s2348 e2349 hA2351 hB2352
          have hE2353 := Tch.ext hE2239 e2349
          have ha2354 : f2350 3 = p2 := (hB2352 3 (by kernel_rfl)).trans g31_3
          have ha2355 : f2350 7 = Value.bool (true) := hA2351 12 7 (by kernel_rfl)
          have ha2356 : f2350 8 = Value.bool (true) := hA2351 13 8 (by kernel_rfl)
          have ha2357 : f2350 10 = Value.pointer (some ⟨b44, 0, none⟩) := (hB2352 10 (by kernel_rfl)).trans rfl
          refine block_n ?_
          refine then_n ?_
          refine W_seq ?_
          refine W_drawP mixed 8 [PX.ptr (a0.Peer : Int), PX.eq (Value.int .i64 (a0.Peer)), PX.ptr (a0.Tag : Int), PX.eq (Value.int .i64 (a0.Tag)), PX.eq (Value.pointer (some ⟨b44, 1, none⟩)), PX.var s0.w.heap.size 64 ((Deed.with_Peer (Deed.with_Req (⟨a0.Kind, 0, 0, 0, false⟩ : Deed) y32) a0.Peer) : Deed), PX.eq (Value.pointer (some ⟨b44, 2, none⟩)), PX.var s0.w.heap.size 64 ((Deed.with_Tag (Deed.with_Peer (Deed.with_Req (⟨a0.Kind, 0, 0, 0, false⟩ : Deed) y32) a0.Peer) a0.Tag) : Deed), PX.var s0.w.heap.size 64 ((Deed.with_Req (⟨a0.Kind, 0, 0, 0, false⟩ : Deed) y32) : Deed)] [94, 95, 96, 97, 98, 10, 99, 10, 10] [[], [], [], [], [], [8], [], [5]] rfl (by kernel_rfl) (ent1 rfl ⟨b44, ha2357, (Nat.le_trans hE38.size hb45), (hv2237).ext e2349⟩) (dis1 rfl) (StepsX_cons ?_ (StepsX_cons ?_ (StepsX_cons ?_ (StepsX_cons ?_ (StepsX_cons ?_ (StepsX_cons ?_ (StepsX_cons ?_ (StepsX_cons ?_ StepsX_nil)))))))) ?_
          ·intro f2372 s2370 hT2371 hA2373 hB2374 Q hk2375
           have ha2376 : f2372 3 = p2 := (hB2374 3 (by kernel_rfl)).trans ha2354
           refine L_fieldAddr fld64_1 Deed.of_Peer ha2376 (hp3.mono (l16.trans (l29.trans (e35.le.trans (e43.le.trans (e49.le.trans (e2236.le.trans (e2349.le.trans hT2371.le)))))))) (by decide) ?_
           intro p2358 hp2359
           exact L_nil (hk2375 _ _ No (Ext.refl s2370) (fun _ h => h.elim) hp2359 (fun _ h => h.elim))
          ·intro f2379 s2377 hT2378 hA2380 hB2381 Q hk2382
           have ha2383 : Ptr _ (f2379 94) (a0.Peer : Int) := hA2380 0 (by kernel_rfl) (by show _ < 9; decide)
           obtain ⟨v2384, q2385, hv2386⟩ : ∃ v, _ = v ∧ Ptr _ v _ := ⟨_, rfl, ha2383⟩
           refine L_load_int ty3 q2385 hv2386 (by decide) ?_
           exact L_nil (hk2382 _ _ No (Ext.refl s2377) (fun _ h => h.elim) rfl (fun _ h => h.elim))
          ·intro f2389 s2387 hT2388 hA2390 hB2391 Q hk2392
           have ha2393 : f2389 3 = p2 := (hB2391 3 (by kernel_rfl)).trans ha2354
           refine L_fieldAddr fld64_2 Deed.of_Tag ha2393 (hp3.mono (l16.trans (l29.trans (e35.le.trans (e43.le.trans (e49.le.trans (e2236.le.trans (e2349.le.trans hT2388.le)))))))) (by decide) ?_
           intro p2360 hp2361
           exact L_nil (hk2392 _ _ No (Ext.refl s2387) (fun _ h => h.elim) hp2361 (fun _ h => h.elim))
          ·intro f2396 s2394 hT2395 hA2397 hB2398 Q hk2399
           have ha2400 : Ptr _ (f2396 96) (a0.Tag : Int) := hA2397 2 (by kernel_rfl) (by show _ < 9; decide)
           obtain ⟨v2401, q2402, hv2403⟩ : ∃ v, _ = v ∧ Ptr _ v _ := ⟨_, rfl, ha2400⟩
           refine L_load_int ty3 q2402 hv2403 (by decide) ?_
           exact L_nil (hk2399 _ _ No (Ext.refl s2394) (fun _ h => h.elim) rfl (fun _ h => h.elim))
          ·intro f2406 s2404 hT2405 hA2407 hB2408 Q hk2409
           obtain ⟨b2411, q2412, hb2413, hv2414⟩ : ∃ b, f2406 10 = Value.pointer (some ⟨b, 0, none⟩) ∧ s0.w.heap.size ≤ b ∧ Var s2404 b 64 ((Deed.with_Req (⟨a0.Kind, 0, 0, 0, false⟩ : Deed) y32) : Deed) := hA2407 8 (by kernel_rfl) (by show _ < 9; decide)
           have ha2415 : f2406 10 = Value.pointer (some ⟨b44, 0, none⟩) := (hB2408 10 (by kernel_rfl)).trans ha2357
           have ha2415e : b2411 = b44 := by have h3 := q2412.symm.trans ha2415; cases h3; rfl
           rw [ha2415e] at hb2413 hv2414
           refine L_fieldAddr_var fld64_1 ha2415 (by decide) ?_
           exact L_nil (hk2409 _ _ No (Ext.refl s2404) (fun _ h => h.elim) rfl (fun _ h => h.elim))
          ·intro f2418 s2416 hT2417 hA2419 hB2420 Q hk2421
           obtain ⟨b2423, q2424, hb2425, hv2426⟩ : ∃ b, f2418 10 = Value.pointer (some ⟨b, 0, none⟩) ∧ s0.w.heap.size ≤ b ∧ Var s2416 b 64 ((Deed.with_Req (⟨a0.Kind, 0, 0, 0, false⟩ : Deed) y32) : Deed) := hA2419 8 (by kernel_rfl) (by show _ < 9; decide)
           have ha2427 : f2418 10 = Value.pointer (some ⟨b44, 0, none⟩) := (hB2420 10 (by kernel_rfl)).trans ha2357
           have ha2427e : b2423 = b44 := by have h3 := q2424.symm.trans ha2427; cases h3; rfl
           rw [ha2427e] at hb2425 hv2426
           have ha2428 : f2418 95 = Value.int .i64 (a0.Peer) := hA2419 1 (by kernel_rfl) (by show _ < 9; decide)
           have ha2429 : f2418 98 = Value.pointer (some ⟨b44, 1, none⟩) := hA2419 4 (by kernel_rfl) (by show _ < 9; decide)
           refine L_store_field ty3 Deed.set_Peer ha2429 ha2428 Vint (hv2426) ?_
           intro s2364 e2362 hv2363
           exact L_nil (hk2421 undef _ _ e2362 (fun k h => ⟨8, (List.mem_singleton.2 rfl : (8 : Nat) ∈ [8]), (by show ownP (f2418 10) k; rw [ha2427]; exact congrArg (fun z => Value.pointer (some ⟨z, 0, none⟩)) h.symm)⟩) ⟨_, ha2427, hb2425, hv2363⟩ (fun k h => Or.inl ⟨8, (List.mem_singleton.2 rfl : (8 : Nat) ∈ [8]), h⟩))
          ·intro f2432 s2430 hT2431 hA2433 hB2434 Q hk2435
           obtain ⟨b2437, q2438, hb2439, hv2440⟩ : ∃ b, f2432 10 = Value.pointer (some ⟨b, 0, none⟩) ∧ s0.w.heap.size ≤ b ∧ Var s2430 b 64 ((Deed.with_Peer (Deed.with_Req (⟨a0.Kind, 0, 0, 0, false⟩ : Deed) y32) a0.Peer) : Deed) := hA2433 5 (by kernel_rfl) (by show _ < 9; decide)
           have ha2441 : f2432 10 = Value.pointer (some ⟨b44, 0, none⟩) := (hB2434 10 (by kernel_rfl)).trans ha2357
           have ha2441e : b2437 = b44 := by have h3 := q2438.symm.trans ha2441; cases h3; rfl
           rw [ha2441e] at hb2439 hv2440
           refine L_fieldAddr_var fld64_2 ha2441 (by decide) ?_
           exact L_nil (hk2435 _ _ No (Ext.refl s2430) (fun _ h => h.elim) rfl (fun _ h => h.elim))
          ·intro f2444 s2442 hT2443 hA2445 hB2446 Q hk2447
           obtain ⟨b2449, q2450, hb2451, hv2452⟩ : ∃ b, f2444 10 = Value.pointer (some ⟨b, 0, none⟩) ∧ s0.w.heap.size ≤ b ∧ Var s2442 b 64 ((Deed.with_Peer (Deed.with_Req (⟨a0.Kind, 0, 0, 0, false⟩ : Deed) y32) a0.Peer) : Deed) := hA2445 5 (by kernel_rfl) (by show _ < 9; decide)
           have ha2453 : f2444 10 = Value.pointer (some ⟨b44, 0, none⟩) := (hB2446 10 (by kernel_rfl)).trans ha2357
           have ha2453e : b2449 = b44 := by have h3 := q2450.symm.trans ha2453; cases h3; rfl
           rw [ha2453e] at hb2451 hv2452
           have ha2454 : f2444 97 = Value.int .i64 (a0.Tag) := hA2445 3 (by kernel_rfl) (by show _ < 9; decide)
           have ha2455 : f2444 99 = Value.pointer (some ⟨b44, 2, none⟩) := hA2445 6 (by kernel_rfl) (by show _ < 9; decide)
           refine L_store_field ty3 Deed.set_Tag ha2455 ha2454 Vint (hv2452) ?_
           intro s2368 e2366 hv2367
           exact L_nil (hk2447 undef _ _ e2366 (fun k h => ⟨5, (List.mem_singleton.2 rfl : (5 : Nat) ∈ [5]), (by show ownP (f2444 10) k; rw [ha2453]; exact congrArg (fun z => Value.pointer (some ⟨z, 0, none⟩)) h.symm)⟩) ⟨_, ha2453, hb2451, hv2367⟩ (fun k h => Or.inl ⟨5, (List.mem_singleton.2 rfl : (5 : Nat) ∈ [5]), h⟩))
          ·intro f2458 s2456 hT2457 hP2459 hD2460 hB2461
           have hE2462 := Tch.trans hE2353 hT2457 (fun k h => Or.inr (by have h2 := ent_is (k := 8) rfl rfl h; have h3 := Eq.mp (congrArg (fun v => ownP v k) (ha2357 : _ = Value.pointer (some ⟨b44, 0, none⟩))) h2; cases h3; exact (Nat.le_trans hE38.size hb45)))
           obtain ⟨b2463, q2464, hb2465, hv2466⟩ : ∃ b, f2458 10 = Value.pointer (some ⟨b, 0, none⟩) ∧ s0.w.heap.size ≤ b ∧ Var s2456 b 64 ((Deed.with_Tag (Deed.with_Peer (Deed.with_Req (⟨a0.Kind, 0, 0, 0, false⟩ : Deed) y32) a0.Peer) a0.Tag) : Deed) := hP2459 7 (by show _ < 9; decide) (by kernel_rfl)
           have ha2467 : f2458 10 = Value.pointer (some ⟨b44, 0, none⟩) := (hB2461 10 (by kernel_rfl)).trans ha2357
           have ha2467e : b2463 = b44 := by have h3 := q2464.symm.trans ha2467; cases h3; rfl
           rw [ha2467e] at hb2465 hv2466
           have ha2468 : f2458 3 = p2 := (hB2461 3 (by kernel_rfl)).trans ha2354
           have ha2469 : f2458 7 = Value.bool (true) := (hB2461 7 (by kernel_rfl)).trans ha2355
           have ha2470 : f2458 8 = Value.bool (true) := (hB2461 8 (by kernel_rfl)).trans ha2356
           refine then_n ?_
           refine W_seq ?_
           refine W_region ?_
           refine L_load ty64 ha2468 (hp3.mono (l16.trans (l29.trans (e35.le.trans (e43.le.trans (e49.le.trans (e2236.le.trans (e2349.le.trans hT2457.le)))))))) (by decide) ?_
           intro v2471 hv2472
           refine L_load_var ty64 ha2467 (hv2466) (by decide) ?_
           intro v2473 hv2474
           refine L_seq64 (rfl : _ = v2471) hv2472 (rfl : _ = v2473) hv2474 (by decide) ?_
           refine L_move (rfl : _ = Value.bool (decide (a0 = (Deed.with_Tag (Deed.with_Peer (Deed.with_Req (⟨a0.Kind, 0, 0, 0, false⟩ : Deed) y32) a0.Peer) a0.Tag)))) (by decide) ?_
           rcases Bool.eq_false_or_eq_true (decide (a0 = (Deed.with_Tag (Deed.with_Peer (Deed.with_Req (⟨a0.Kind, 0, 0, 0, false⟩ : Deed) y32) a0.Peer) a0.Tag))) with hb2475 | hb2475
           ·have hr := ite_t hb2475 hr
            refine L_gt (e := 103) (by rfl) (by decide) (rfl : _ = Value.bool (decide (a0 = (Deed.with_Tag (Deed.with_Peer (Deed.with_Req (⟨a0.Kind, 0, 0, 0, false⟩ : Deed) y32) a0.Peer) a0.Tag)))) hb2475 ?_
            refine L_move ha2469 (by decide) ?_
            refine L_pick_t (rfl : _ = Value.bool (decide (a0 = (Deed.with_Tag (Deed.with_Peer (Deed.with_Req (⟨a0.Kind, 0, 0, 0, false⟩ : Deed) y32) a0.Peer) a0.Tag)))) hb2475 (rfl : _ = Value.bool (true)) (by decide) ?_
            refine L_move (rfl : _ = Value.bool (true)) (by decide) ?_
            refine L_gt (e := 106) (by rfl) (by decide) (rfl : _ = Value.bool (true)) rfl ?_
            refine L_move ha2470 (by decide) ?_
            refine L_pick_t (rfl : _ = Value.bool (true)) rfl (rfl : _ = Value.bool (true)) (by decide) ?_
            refine L_assign (rfl : _ = Value.bool (true)) (by decide) ?_
            refine L_nil ?_
            refine then_n ?_
            refine W_ret ?_
            obtain rfl := Option.some.inj hr
            exact done1 (Or.inl rfl) Try.results58 rfl ⟨_, _, rfl, rfl, hE2462, Vbool⟩
           ·have hr := ite_f hb2475 hr
            refine L_gf (e := 103) (by rfl) (by decide) (rfl : _ = Value.bool (decide (a0 = (Deed.with_Tag (Deed.with_Peer (Deed.with_Req (⟨a0.Kind, 0, 0, 0, false⟩ : Deed) y32) a0.Peer) a0.Tag)))) hb2475 (by decide) ?_
            refine L_pick_f (rfl : _ = Value.bool (decide (a0 = (Deed.with_Tag (Deed.with_Peer (Deed.with_Req (⟨a0.Kind, 0, 0, 0, false⟩ : Deed) y32) a0.Peer) a0.Tag)))) hb2475 (rfl : _ = Value.bool (false)) (by decide) ?_
            refine L_move (rfl : _ = Value.bool (false)) (by decide) ?_
            refine L_gf (e := 106) (by rfl) (by decide) (rfl : _ = Value.bool (false)) rfl (by decide) ?_
            refine L_pick_f (rfl : _ = Value.bool (false)) rfl (rfl : _ = Value.bool (false)) (by decide) ?_
            refine L_assign (rfl : _ = Value.bool (false)) (by decide) ?_
            refine L_nil ?_
            refine then_n ?_
            refine W_ret ?_
            obtain rfl := Option.some.inj hr
            exact done1 (Or.inl rfl) Try.results58 rfl ⟨_, _, rfl, rfl, hE2462, Vbool⟩
        ·have hr := ite_f hb2241 hr
         refine W_draws mixed (by kernel_rfl) [PV.eq (Value.bool (x6)), PV.eq (Value.bool (x6)), PV.eq (undef), PV.eq (undef), PV.eq (undef), PV.eq (Value.bool (true)), PV.eq (Value.bool (x19)), PV.eq (Value.bool (x19)), PV.ptr (a0.Peer : Int), PV.eq (Value.int .i64 (a0.Peer)), PV.eq (Value.bool (decide (a0.Peer = (-1)))), PV.eq (Value.bool (decide (a0.Peer = (-1)))), PV.eq (Value.bool (true)), PV.eq (Value.bool (decide (a0.Peer = (-1))))] (Steps_cons ?_ (Steps_cons ?_ (Steps_cons ?_ (Steps_cons ?_ (Steps_cons ?_ (Steps_cons ?_ (Steps_cons ?_ (Steps_cons ?_ (Steps_cons ?_ (Steps_cons ?_ (Steps_cons ?_ (Steps_cons ?_ (Steps_cons ?_ (Steps_cons ?_ Steps_nil)))))))))))))) ?_
         ·intro f2480 s2478 e2479 hA2481 hB2482 Q hk2483
          have ha2484 : f2480 7 = Value.bool (x6) := (hB2482 7 (by kernel_rfl)).trans g31_7
          refine L_move ha2484 (by decide) ?_
          exact L_nil (hk2483 _ _ (Ext.refl s2478) rfl)
         ·intro f2487 s2485 e2486 hA2488 hB2489 Q hk2490
          have ha2491 : f2487 52 = Value.bool (x6) := hA2488 0 52 (by kernel_rfl) (by kernel_rfl)
          refine L_move ha2491 (by decide) ?_
          exact L_nil (hk2490 _ _ (Ext.refl s2485) rfl)
         ·intro f2494 s2492 e2493 hA2495 hB2496 Q hk2497
          have ha2499 : f2494 53 = Value.bool (x6) := hA2495 1 53 (by kernel_rfl) (by kernel_rfl)
          refine L_gf (e := 53) (by rfl) (by decide) ha2499 hb2240 (by decide) ?_
          exact L_nil (hk2497 _ _ (Ext.refl s2492) rfl)
         ·intro f2502 s2500 e2501 hA2503 hB2504 Q hk2505
          have ha2506 : f2502 53 = Value.bool (x6) := hA2503 1 53 (by kernel_rfl) (by kernel_rfl)
          refine L_gf (e := 53) (by rfl) (by decide) ha2506 hb2240 (by decide) ?_
          exact L_nil (hk2505 _ _ (Ext.refl s2500) rfl)
         ·intro f2510 s2508 e2509 hA2511 hB2512 Q hk2513
          have ha2514 : f2510 53 = Value.bool (x6) := hA2511 1 53 (by kernel_rfl) (by kernel_rfl)
          refine L_gf (e := 53) (by rfl) (by decide) ha2514 hb2240 (by decide) ?_
          exact L_nil (hk2513 _ _ (Ext.refl s2508) rfl)
         ·intro f2518 s2516 e2517 hA2519 hB2520 Q hk2521
          have ha2522 : f2518 53 = Value.bool (x6) := hA2519 1 53 (by kernel_rfl) (by kernel_rfl)
          refine L_pick_t ha2522 hb2240 (rfl : _ = Value.bool (true)) (by decide) ?_
          exact L_nil (hk2521 _ _ (Ext.refl s2516) rfl)
         ·intro f2526 s2524 e2525 hA2527 hB2528 Q hk2529
          have ha2530 : f2526 8 = Value.bool (x19) := (hB2528 8 (by kernel_rfl)).trans g31_8
          refine L_move ha2530 (by decide) ?_
          exact L_nil (hk2529 _ _ (Ext.refl s2524) rfl)
         ·intro f2533 s2531 e2532 hA2534 hB2535 Q hk2536
          have ha2537 : f2533 58 = Value.bool (x19) := hA2534 6 58 (by kernel_rfl) (by kernel_rfl)
          refine L_move ha2537 (by decide) ?_
          exact L_nil (hk2536 _ _ (Ext.refl s2531) rfl)
         ·intro f2540 s2538 e2539 hA2541 hB2542 Q hk2543
          have ha2544 : f2540 3 = p2 := (hB2542 3 (by kernel_rfl)).trans g31_3
          have ha2545 : f2540 59 = Value.bool (x19) := hA2541 7 59 (by kernel_rfl) (by kernel_rfl)
          refine L_gt (e := 59) (by rfl) (by decide) ha2545 hb2241 ?_
          refine L_fieldAddr fld64_1 Deed.of_Peer ha2544 (hp3.mono (l16.trans (l29.trans (e35.le.trans (e43.le.trans (e49.le.trans (e2236.le.trans e2539.le))))))) (by decide) ?_
          intro p2476 hp2477
          exact L_nil (hk2543 _ _ (Ext.refl s2538) hp2477)
         ·intro f2548 s2546 e2547 hA2549 hB2550 Q hk2551
          have ha2552 : f2548 59 = Value.bool (x19) := hA2549 7 59 (by kernel_rfl) (by kernel_rfl)
          have ha2553 : Ptr _ (f2548 60) (a0.Peer : Int) := hA2549 8 60 (by kernel_rfl) (by kernel_rfl)
          obtain ⟨v2554, q2555, hv2556⟩ : ∃ v, _ = v ∧ Ptr _ v _ := ⟨_, rfl, ha2553⟩
          refine L_gt (e := 59) (by rfl) (by decide) ha2552 hb2241 ?_
          refine L_load_int ty3 q2555 hv2556 (by decide) ?_
          exact L_nil (hk2551 _ _ (Ext.refl s2546) rfl)
         ·intro f2559 s2557 e2558 hA2560 hB2561 Q hk2562
          have ha2563 : f2559 59 = Value.bool (x19) := hA2560 7 59 (by kernel_rfl) (by kernel_rfl)
          have ha2564 : f2559 61 = Value.int .i64 (a0.Peer) := hA2560 9 61 (by kernel_rfl) (by kernel_rfl)
          refine L_gt (e := 59) (by rfl) (by decide) ha2563 hb2241 ?_
          refine L_eql ha2564 (rfl : _ = Value.int .i64 (-1)) (by decide) ?_
          exact L_nil (hk2562 _ _ (Ext.refl s2557) rfl)
         ·intro f2567 s2565 e2566 hA2568 hB2569 Q hk2570
          have ha2571 : f2567 59 = Value.bool (x19) := hA2568 7 59 (by kernel_rfl) (by kernel_rfl)
          have ha2572 : f2567 62 = Value.bool (decide (a0.Peer = (-1))) := hA2568 10 62 (by kernel_rfl) (by kernel_rfl)
          refine L_pick_f ha2571 hb2241 ha2572 (by decide) ?_
          exact L_nil (hk2570 _ _ (Ext.refl s2565) rfl)
         ·intro f2575 s2573 e2574 hA2576 hB2577 Q hk2578
          have ha2579 : f2575 57 = Value.bool (true) := hA2576 5 57 (by kernel_rfl) (by kernel_rfl)
          refine L_assign ha2579 (by decide) ?_
          exact L_nil (hk2578 _ _ (Ext.refl s2573) rfl)
         ·intro f2582 s2580 e2581 hA2583 hB2584 Q hk2585
          have ha2586 : f2582 63 = Value.bool (decide (a0.Peer = (-1))) := hA2583 11 63 (by kernel_rfl) (by kernel_rfl)
          refine L_assign ha2586 (by decide) ?_
          exact L_nil (hk2585 _ _ (Ext.refl s2580) rfl)
         ·intro f2589 s2587 e2588 hA2590 hB2591
          have hE2592 := Tch.ext hE2239 e2588
          have ha2593 : f2589 3 = p2 := (hB2591 3 (by kernel_rfl)).trans g31_3
          have ha2594 : f2589 7 = Value.bool (true) := hA2590 12 7 (by kernel_rfl)
          have ha2595 : f2589 8 = Value.bool (decide (a0.Peer = (-1))) := hA2590 13 8 (by kernel_rfl)
          have ha2596 : f2589 10 = Value.pointer (some ⟨b44, 0, none⟩) := (hB2591 10 (by kernel_rfl)).trans rfl
          refine block_n ?_
          refine then_n ?_
          refine W_seq ?_
          refine W_drawP mixed 8 [PX.ptr (a0.Peer : Int), PX.eq (Value.int .i64 (a0.Peer)), PX.ptr (a0.Tag : Int), PX.eq (Value.int .i64 (a0.Tag)), PX.eq (Value.pointer (some ⟨b44, 1, none⟩)), PX.var s0.w.heap.size 64 ((Deed.with_Peer (Deed.with_Req (⟨a0.Kind, 0, 0, 0, false⟩ : Deed) y32) a0.Peer) : Deed), PX.eq (Value.pointer (some ⟨b44, 2, none⟩)), PX.var s0.w.heap.size 64 ((Deed.with_Tag (Deed.with_Peer (Deed.with_Req (⟨a0.Kind, 0, 0, 0, false⟩ : Deed) y32) a0.Peer) a0.Tag) : Deed), PX.var s0.w.heap.size 64 ((Deed.with_Req (⟨a0.Kind, 0, 0, 0, false⟩ : Deed) y32) : Deed)] [94, 95, 96, 97, 98, 10, 99, 10, 10] [[], [], [], [], [], [8], [], [5]] rfl (by kernel_rfl) (ent1 rfl ⟨b44, ha2596, (Nat.le_trans hE38.size hb45), (hv2237).ext e2588⟩) (dis1 rfl) (StepsX_cons ?_ (StepsX_cons ?_ (StepsX_cons ?_ (StepsX_cons ?_ (StepsX_cons ?_ (StepsX_cons ?_ (StepsX_cons ?_ (StepsX_cons ?_ StepsX_nil)))))))) ?_
          ·intro f2611 s2609 hT2610 hA2612 hB2613 Q hk2614
           have ha2615 : f2611 3 = p2 := (hB2613 3 (by kernel_rfl)).trans ha2593
           refine L_fieldAddr fld64_1 Deed.of_Peer ha2615 (hp3.mono (l16.trans (l29.trans (e35.le.trans (e43.le.trans (e49.le.trans (e2236.le.trans (e2588.le.trans hT2610.le)))))))) (by decide) ?_
           intro p2597 hp2598
           exact L_nil (hk2614 _ _ No (Ext.refl s2609) (fun _ h => h.elim) hp2598 (fun _ h => h.elim))
          ·intro f2618 s2616 hT2617 hA2619 hB2620 Q hk2621
           have ha2622 : Ptr _ (f2618 94) (a0.Peer : Int) := hA2619 0 (by kernel_rfl) (by show _ < 9; decide)
           obtain ⟨v2623, q2624, hv2625⟩ : ∃ v, _ = v ∧ Ptr _ v _ := ⟨_, rfl, ha2622⟩
           refine L_load_int ty3 q2624 hv2625 (by decide) ?_
           exact L_nil (hk2621 _ _ No (Ext.refl s2616) (fun _ h => h.elim) rfl (fun _ h => h.elim))
          ·intro f2628 s2626 hT2627 hA2629 hB2630 Q hk2631
           have ha2632 : f2628 3 = p2 := (hB2630 3 (by kernel_rfl)).trans ha2593
           refine L_fieldAddr fld64_2 Deed.of_Tag ha2632 (hp3.mono (l16.trans (l29.trans (e35.le.trans (e43.le.trans (e49.le.trans (e2236.le.trans (e2588.le.trans hT2627.le)))))))) (by decide) ?_
           intro p2599 hp2600
           exact L_nil (hk2631 _ _ No (Ext.refl s2626) (fun _ h => h.elim) hp2600 (fun _ h => h.elim))
          ·intro f2635 s2633 hT2634 hA2636 hB2637 Q hk2638
           have ha2639 : Ptr _ (f2635 96) (a0.Tag : Int) := hA2636 2 (by kernel_rfl) (by show _ < 9; decide)
           obtain ⟨v2640, q2641, hv2642⟩ : ∃ v, _ = v ∧ Ptr _ v _ := ⟨_, rfl, ha2639⟩
           refine L_load_int ty3 q2641 hv2642 (by decide) ?_
           exact L_nil (hk2638 _ _ No (Ext.refl s2633) (fun _ h => h.elim) rfl (fun _ h => h.elim))
          ·intro f2645 s2643 hT2644 hA2646 hB2647 Q hk2648
           obtain ⟨b2650, q2651, hb2652, hv2653⟩ : ∃ b, f2645 10 = Value.pointer (some ⟨b, 0, none⟩) ∧ s0.w.heap.size ≤ b ∧ Var s2643 b 64 ((Deed.with_Req (⟨a0.Kind, 0, 0, 0, false⟩ : Deed) y32) : Deed) := hA2646 8 (by kernel_rfl) (by show _ < 9; decide)
           have ha2654 : f2645 10 = Value.pointer (some ⟨b44, 0, none⟩) := (hB2647 10 (by kernel_rfl)).trans ha2596
           have ha2654e : b2650 = b44 := by have h3 := q2651.symm.trans ha2654; cases h3; rfl
           rw [ha2654e] at hb2652 hv2653
           refine L_fieldAddr_var fld64_1 ha2654 (by decide) ?_
           exact L_nil (hk2648 _ _ No (Ext.refl s2643) (fun _ h => h.elim) rfl (fun _ h => h.elim))
          ·intro f2657 s2655 hT2656 hA2658 hB2659 Q hk2660
           obtain ⟨b2662, q2663, hb2664, hv2665⟩ : ∃ b, f2657 10 = Value.pointer (some ⟨b, 0, none⟩) ∧ s0.w.heap.size ≤ b ∧ Var s2655 b 64 ((Deed.with_Req (⟨a0.Kind, 0, 0, 0, false⟩ : Deed) y32) : Deed) := hA2658 8 (by kernel_rfl) (by show _ < 9; decide)
           have ha2666 : f2657 10 = Value.pointer (some ⟨b44, 0, none⟩) := (hB2659 10 (by kernel_rfl)).trans ha2596
           have ha2666e : b2662 = b44 := by have h3 := q2663.symm.trans ha2666; cases h3; rfl
           rw [ha2666e] at hb2664 hv2665
           have ha2667 : f2657 95 = Value.int .i64 (a0.Peer) := hA2658 1 (by kernel_rfl) (by show _ < 9; decide)
           have ha2668 : f2657 98 = Value.pointer (some ⟨b44, 1, none⟩) := hA2658 4 (by kernel_rfl) (by show _ < 9; decide)
           refine L_store_field ty3 Deed.set_Peer ha2668 ha2667 Vint (hv2665) ?_
           intro s2603 e2601 hv2602
           exact L_nil (hk2660 undef _ _ e2601 (fun k h => ⟨8, (List.mem_singleton.2 rfl : (8 : Nat) ∈ [8]), (by show ownP (f2657 10) k; rw [ha2666]; exact congrArg (fun z => Value.pointer (some ⟨z, 0, none⟩)) h.symm)⟩) ⟨_, ha2666, hb2664, hv2602⟩ (fun k h => Or.inl ⟨8, (List.mem_singleton.2 rfl : (8 : Nat) ∈ [8]), h⟩))
          ·intro f2671 s2669 hT2670 hA2672 hB2673 Q hk2674
           obtain ⟨b2676, q2677, hb2678, hv2679⟩ : ∃ b, f2671 10 = Value.pointer (some ⟨b, 0, none⟩) ∧ s0.w.heap.size ≤ b ∧ Var s2669 b 64 ((Deed.with_Peer (Deed.with_Req (⟨a0.Kind, 0, 0, 0, false⟩ : Deed) y32) a0.Peer) : Deed) := hA2672 5 (by kernel_rfl) (by show _ < 9; decide)
           have ha2680 : f2671 10 = Value.pointer (some ⟨b44, 0, none⟩) := (hB2673 10 (by kernel_rfl)).trans ha2596
           have ha2680e : b2676 = b44 := by have h3 := q2677.symm.trans ha2680; cases h3; rfl
           rw [ha2680e] at hb2678 hv2679
           refine L_fieldAddr_var fld64_2 ha2680 (by decide) ?_
           exact L_nil (hk2674 _ _ No (Ext.refl s2669) (fun _ h => h.elim) rfl (fun _ h => h.elim))
          ·intro f2683 s2681 hT2682 hA2684 hB2685 Q hk2686
           obtain ⟨b2688, q2689, hb2690, hv2691⟩ : ∃ b, f2683 10 = Value.pointer (some ⟨b, 0, none⟩) ∧ s0.w.heap.size ≤ b ∧ Var s2681 b 64 ((Deed.with_Peer (Deed.with_Req (⟨a0.Kind, 0, 0, 0, false⟩ : Deed) y32) a0.Peer) : Deed) := hA2684 5 (by kernel_rfl) (by show _ < 9; decide)
           have ha2692 : f2683 10 = Value.pointer (some ⟨b44, 0, none⟩) := (hB2685 10 (by kernel_rfl)).trans ha2596
           have ha2692e : b2688 = b44 := by have h3 := q2689.symm.trans ha2692; cases h3; rfl
           rw [ha2692e] at hb2690 hv2691
           have ha2693 : f2683 97 = Value.int .i64 (a0.Tag) := hA2684 3 (by kernel_rfl) (by show _ < 9; decide)
           have ha2694 : f2683 99 = Value.pointer (some ⟨b44, 2, none⟩) := hA2684 6 (by kernel_rfl) (by show _ < 9; decide)
           refine L_store_field ty3 Deed.set_Tag ha2694 ha2693 Vint (hv2691) ?_
           intro s2607 e2605 hv2606
           exact L_nil (hk2686 undef _ _ e2605 (fun k h => ⟨5, (List.mem_singleton.2 rfl : (5 : Nat) ∈ [5]), (by show ownP (f2683 10) k; rw [ha2692]; exact congrArg (fun z => Value.pointer (some ⟨z, 0, none⟩)) h.symm)⟩) ⟨_, ha2692, hb2690, hv2606⟩ (fun k h => Or.inl ⟨5, (List.mem_singleton.2 rfl : (5 : Nat) ∈ [5]), h⟩))
          ·intro f2697 s2695 hT2696 hP2698 hD2699 hB2700
           have hE2701 := Tch.trans hE2592 hT2696 (fun k h => Or.inr (by have h2 := ent_is (k := 8) rfl rfl h; have h3 := Eq.mp (congrArg (fun v => ownP v k) (ha2596 : _ = Value.pointer (some ⟨b44, 0, none⟩))) h2; cases h3; exact (Nat.le_trans hE38.size hb45)))
           obtain ⟨b2702, q2703, hb2704, hv2705⟩ : ∃ b, f2697 10 = Value.pointer (some ⟨b, 0, none⟩) ∧ s0.w.heap.size ≤ b ∧ Var s2695 b 64 ((Deed.with_Tag (Deed.with_Peer (Deed.with_Req (⟨a0.Kind, 0, 0, 0, false⟩ : Deed) y32) a0.Peer) a0.Tag) : Deed) := hP2698 7 (by show _ < 9; decide) (by kernel_rfl)
           have ha2706 : f2697 10 = Value.pointer (some ⟨b44, 0, none⟩) := (hB2700 10 (by kernel_rfl)).trans ha2596
           have ha2706e : b2702 = b44 := by have h3 := q2703.symm.trans ha2706; cases h3; rfl
           rw [ha2706e] at hb2704 hv2705
           have ha2707 : f2697 3 = p2 := (hB2700 3 (by kernel_rfl)).trans ha2593
           have ha2708 : f2697 7 = Value.bool (true) := (hB2700 7 (by kernel_rfl)).trans ha2594
           have ha2709 : f2697 8 = Value.bool (decide (a0.Peer = (-1))) := (hB2700 8 (by kernel_rfl)).trans ha2595
           refine then_n ?_
           refine W_seq ?_
           refine W_region ?_
           refine L_load ty64 ha2707 (hp3.mono (l16.trans (l29.trans (e35.le.trans (e43.le.trans (e49.le.trans (e2236.le.trans (e2588.le.trans hT2696.le)))))))) (by decide) ?_
           intro v2710 hv2711
           refine L_load_var ty64 ha2706 (hv2705) (by decide) ?_
           intro v2712 hv2713
           refine L_seq64 (rfl : _ = v2710) hv2711 (rfl : _ = v2712) hv2713 (by decide) ?_
           refine L_move (rfl : _ = Value.bool (decide (a0 = (Deed.with_Tag (Deed.with_Peer (Deed.with_Req (⟨a0.Kind, 0, 0, 0, false⟩ : Deed) y32) a0.Peer) a0.Tag)))) (by decide) ?_
           rcases Bool.eq_false_or_eq_true (decide (a0 = (Deed.with_Tag (Deed.with_Peer (Deed.with_Req (⟨a0.Kind, 0, 0, 0, false⟩ : Deed) y32) a0.Peer) a0.Tag))) with hb2714 | hb2714
           ·have hr := ite_t hb2714 hr
            refine L_gt (e := 103) (by rfl) (by decide) (rfl : _ = Value.bool (decide (a0 = (Deed.with_Tag (Deed.with_Peer (Deed.with_Req (⟨a0.Kind, 0, 0, 0, false⟩ : Deed) y32) a0.Peer) a0.Tag)))) hb2714 ?_
            refine L_move ha2708 (by decide) ?_
            refine L_pick_t (rfl : _ = Value.bool (decide (a0 = (Deed.with_Tag (Deed.with_Peer (Deed.with_Req (⟨a0.Kind, 0, 0, 0, false⟩ : Deed) y32) a0.Peer) a0.Tag)))) hb2714 (rfl : _ = Value.bool (true)) (by decide) ?_
            refine L_move (rfl : _ = Value.bool (true)) (by decide) ?_
            refine L_gt (e := 106) (by rfl) (by decide) (rfl : _ = Value.bool (true)) rfl ?_
            refine L_move ha2709 (by decide) ?_
            refine L_pick_t (rfl : _ = Value.bool (true)) rfl (rfl : _ = Value.bool (decide (a0.Peer = (-1)))) (by decide) ?_
            refine L_assign (rfl : _ = Value.bool (decide (a0.Peer = (-1)))) (by decide) ?_
            refine L_nil ?_
            refine then_n ?_
            refine W_ret ?_
            obtain rfl := Option.some.inj hr
            exact done1 (Or.inl rfl) Try.results58 rfl ⟨_, _, rfl, rfl, hE2701, Vbool⟩
           ·have hr := ite_f hb2714 hr
            refine L_gf (e := 103) (by rfl) (by decide) (rfl : _ = Value.bool (decide (a0 = (Deed.with_Tag (Deed.with_Peer (Deed.with_Req (⟨a0.Kind, 0, 0, 0, false⟩ : Deed) y32) a0.Peer) a0.Tag)))) hb2714 (by decide) ?_
            refine L_pick_f (rfl : _ = Value.bool (decide (a0 = (Deed.with_Tag (Deed.with_Peer (Deed.with_Req (⟨a0.Kind, 0, 0, 0, false⟩ : Deed) y32) a0.Peer) a0.Tag)))) hb2714 (rfl : _ = Value.bool (false)) (by decide) ?_
            refine L_move (rfl : _ = Value.bool (false)) (by decide) ?_
            refine L_gf (e := 106) (by rfl) (by decide) (rfl : _ = Value.bool (false)) rfl (by decide) ?_
            refine L_pick_f (rfl : _ = Value.bool (false)) rfl (rfl : _ = Value.bool (false)) (by decide) ?_
            refine L_assign (rfl : _ = Value.bool (false)) (by decide) ?_
            refine L_nil ?_
            refine then_n ?_
            refine W_ret ?_
            obtain rfl := Option.some.inj hr
            exact done1 (Or.inl rfl) Try.results58 rfl ⟨_, _, rfl, rfl, hE2701, Vbool⟩
       ·have hr := ite_f hb2240 hr
        rcases Bool.eq_false_or_eq_true (x19) with hb2717 | hb2717
        ·have hr := ite_t hb2717 hr
         refine W_draws mixed (by kernel_rfl) [PV.eq (Value.bool (x6)), PV.eq (Value.bool (x6)), PV.ptr (a0.Tag : Int), PV.eq (Value.int .i64 (a0.Tag)), PV.eq (Value.bool (decide (a0.Tag = (-1)))), PV.eq (Value.bool (decide (a0.Tag = (-1)))), PV.eq (Value.bool (x19)), PV.eq (Value.bool (x19)), PV.eq (undef), PV.eq (undef), PV.eq (undef), PV.eq (Value.bool (true)), PV.eq (Value.bool (decide (a0.Tag = (-1)))), PV.eq (Value.bool (true))] (Steps_cons ?_ (Steps_cons ?_ (Steps_cons ?_ (Steps_cons ?_ (Steps_cons ?_ (Steps_cons ?_ (Steps_cons ?_ (Steps_cons ?_ (Steps_cons ?_ (Steps_cons ?_ (Steps_cons ?_ (Steps_cons ?_ (Steps_cons ?_ (Steps_cons ?_ Steps_nil)))))))))))))) ?_
         ·intro f2720 s2718 e2719 hA2721 hB2722 Q hk2723
          have ha2724 : f2720 7 = Value.bool (x6) := (hB2722 7 (by kernel_rfl)).trans g31_7
          refine L_move ha2724 (by decide) ?_
          exact L_nil (hk2723 _ _ (Ext.refl s2718) rfl)
         ·intro f2727 s2725 e2726 hA2728 hB2729 Q hk2730
          have ha2731 : f2727 52 = Value.bool (x6) := hA2728 0 52 (by kernel_rfl) (by kernel_rfl)
          refine L_move ha2731 (by decide) ?_
          exact L_nil (hk2730 _ _ (Ext.refl s2725) rfl)
         ·intro f2734 s2732 e2733 hA2735 hB2736 Q hk2737
          have ha2738 : f2734 3 = p2 := (hB2736 3 (by kernel_rfl)).trans g31_3
          have ha2739 : f2734 53 = Value.bool (x6) := hA2735 1 53 (by kernel_rfl) (by kernel_rfl)
          refine L_gt (e := 53) (by rfl) (by decide) ha2739 hb2240 ?_
          refine L_fieldAddr fld64_2 Deed.of_Tag ha2738 (hp3.mono (l16.trans (l29.trans (e35.le.trans (e43.le.trans (e49.le.trans (e2236.le.trans e2733.le))))))) (by decide) ?_
          intro p2715 hp2716
          exact L_nil (hk2737 _ _ (Ext.refl s2732) hp2716)
         ·intro f2742 s2740 e2741 hA2743 hB2744 Q hk2745
          have ha2746 : f2742 53 = Value.bool (x6) := hA2743 1 53 (by kernel_rfl) (by kernel_rfl)
          have ha2747 : Ptr _ (f2742 54) (a0.Tag : Int) := hA2743 2 54 (by kernel_rfl) (by kernel_rfl)
          obtain ⟨v2748, q2749, hv2750⟩ : ∃ v, _ = v ∧ Ptr _ v _ := ⟨_, rfl, ha2747⟩
          refine L_gt (e := 53) (by rfl) (by decide) ha2746 hb2240 ?_
          refine L_load_int ty3 q2749 hv2750 (by decide) ?_
          exact L_nil (hk2745 _ _ (Ext.refl s2740) rfl)
         ·intro f2753 s2751 e2752 hA2754 hB2755 Q hk2756
          have ha2757 : f2753 53 = Value.bool (x6) := hA2754 1 53 (by kernel_rfl) (by kernel_rfl)
          have ha2758 : f2753 55 = Value.int .i64 (a0.Tag) := hA2754 3 55 (by kernel_rfl) (by kernel_rfl)
          refine L_gt (e := 53) (by rfl) (by decide) ha2757 hb2240 ?_
          refine L_eql ha2758 (rfl : _ = Value.int .i64 (-1)) (by decide) ?_
          exact L_nil (hk2756 _ _ (Ext.refl s2751) rfl)
         ·intro f2761 s2759 e2760 hA2762 hB2763 Q hk2764
          have ha2765 : f2761 53 = Value.bool (x6) := hA2762 1 53 (by kernel_rfl) (by kernel_rfl)
          have ha2766 : f2761 56 = Value.bool (decide (a0.Tag = (-1))) := hA2762 4 56 (by kernel_rfl) (by kernel_rfl)
          refine L_pick_f ha2765 hb2240 ha2766 (by decide) ?_
          exact L_nil (hk2764 _ _ (Ext.refl s2759) rfl)
         ·intro f2769 s2767 e2768 hA2770 hB2771 Q hk2772
          have ha2773 : f2769 8 = Value.bool (x19) := (hB2771 8 (by kernel_rfl)).trans g31_8
          refine L_move ha2773 (by decide) ?_
          exact L_nil (hk2772 _ _ (Ext.refl s2767) rfl)
         ·intro f2776 s2774 e2775 hA2777 hB2778 Q hk2779
          have ha2780 : f2776 58 = Value.bool (x19) := hA2777 6 58 (by kernel_rfl) (by kernel_rfl)
          refine L_move ha2780 (by decide) ?_
          exact L_nil (hk2779 _ _ (Ext.refl s2774) rfl)
         ·intro f2783 s2781 e2782 hA2784 hB2785 Q hk2786
          have ha2788 : f2783 59 = Value.bool (x19) := hA2784 7 59 (by kernel_rfl) (by kernel_rfl)
          refine L_gf (e := 59) (by rfl) (by decide) ha2788 hb2717 (by decide) ?_
          exact L_nil (hk2786 _ _ (Ext.refl s2781) rfl)
         ·intro f2791 s2789 e2790 hA2792 hB2793 Q hk2794
          have ha2795 : f2791 59 = Value.bool (x19) := hA2792 7 59 (by kernel_rfl) (by kernel_rfl)
          refine L_gf (e := 59) (by rfl) (by decide) ha2795 hb2717 (by decide) ?_
          exact L_nil (hk2794 _ _ (Ext.refl s2789) rfl)
         ·intro f2799 s2797 e2798 hA2800 hB2801 Q hk2802
          have ha2803 : f2799 59 = Value.bool (x19) := hA2800 7 59 (by kernel_rfl) (by kernel_rfl)
          refine L_gf (e := 59) (by rfl) (by decide) ha2803 hb2717 (by decide) ?_
          exact L_nil (hk2802 _ _ (Ext.refl s2797) rfl)
         ·intro f2807 s2805 e2806 hA2808 hB2809 Q hk2810
          have ha2811 : f2807 59 = Value.bool (x19) := hA2808 7 59 (by kernel_rfl) (by kernel_rfl)
          refine L_pick_t ha2811 hb2717 (rfl : _ = Value.bool (true)) (by decide) ?_
          exact L_nil (hk2810 _ _ (Ext.refl s2805) rfl)
         ·intro f2815 s2813 e2814 hA2816 hB2817 Q hk2818
          have ha2819 : f2815 57 = Value.bool (decide (a0.Tag = (-1))) := hA2816 5 57 (by kernel_rfl) (by kernel_rfl)
          refine L_assign ha2819 (by decide) ?_
          exact L_nil (hk2818 _ _ (Ext.refl s2813) rfl)
         ·intro f2822 s2820 e2821 hA2823 hB2824 Q hk2825
          have ha2826 : f2822 63 = Value.bool (true) := hA2823 11 63 (by kernel_rfl) (by kernel_rfl)
          refine L_assign ha2826 (by decide) ?_
          exact L_nil (hk2825 _ _ (Ext.refl s2820) rfl)
         ·intro f2829 s2827 e2828 hA2830 hB2831
          have hE2832 := Tch.ext hE2239 e2828
          have ha2833 : f2829 3 = p2 := (hB2831 3 (by kernel_rfl)).trans g31_3
          have ha2834 : f2829 7 = Value.bool (decide (a0.Tag = (-1))) := hA2830 12 7 (by kernel_rfl)
          have ha2835 : f2829 8 = Value.bool (true) := hA2830 13 8 (by kernel_rfl)
          have ha2836 : f2829 10 = Value.pointer (some ⟨b44, 0, none⟩) := (hB2831 10 (by kernel_rfl)).trans rfl
          refine block_n ?_
          refine then_n ?_
          refine W_seq ?_
          refine W_drawP mixed 8 [PX.ptr (a0.Peer : Int), PX.eq (Value.int .i64 (a0.Peer)), PX.ptr (a0.Tag : Int), PX.eq (Value.int .i64 (a0.Tag)), PX.eq (Value.pointer (some ⟨b44, 1, none⟩)), PX.var s0.w.heap.size 64 ((Deed.with_Peer (Deed.with_Req (⟨a0.Kind, 0, 0, 0, false⟩ : Deed) y32) a0.Peer) : Deed), PX.eq (Value.pointer (some ⟨b44, 2, none⟩)), PX.var s0.w.heap.size 64 ((Deed.with_Tag (Deed.with_Peer (Deed.with_Req (⟨a0.Kind, 0, 0, 0, false⟩ : Deed) y32) a0.Peer) a0.Tag) : Deed), PX.var s0.w.heap.size 64 ((Deed.with_Req (⟨a0.Kind, 0, 0, 0, false⟩ : Deed) y32) : Deed)] [94, 95, 96, 97, 98, 10, 99, 10, 10] [[], [], [], [], [], [8], [], [5]] rfl (by kernel_rfl) (ent1 rfl ⟨b44, ha2836, (Nat.le_trans hE38.size hb45), (hv2237).ext e2828⟩) (dis1 rfl) (StepsX_cons ?_ (StepsX_cons ?_ (StepsX_cons ?_ (StepsX_cons ?_ (StepsX_cons ?_ (StepsX_cons ?_ (StepsX_cons ?_ (StepsX_cons ?_ StepsX_nil)))))))) ?_
          ·intro f2851 s2849 hT2850 hA2852 hB2853 Q hk2854
           have ha2855 : f2851 3 = p2 := (hB2853 3 (by kernel_rfl)).trans ha2833
           refine L_fieldAddr fld64_1 Deed.of_Peer ha2855 (hp3.mono (l16.trans (l29.trans (e35.le.trans (e43.le.trans (e49.le.trans (e2236.le.trans (e2828.le.trans hT2850.le)))))))) (by decide) ?_
           intro p2837 hp2838
           exact L_nil (hk2854 _ _ No (Ext.refl s2849) (fun _ h => h.elim) hp2838 (fun _ h => h.elim))
          ·intro f2858 s2856 hT2857 hA2859 hB2860 Q hk2861
           have ha2862 : Ptr _ (f2858 94) (a0.Peer : Int) := hA2859 0 (by kernel_rfl) (by show _ < 9; decide)
           obtain ⟨v2863, q2864, hv2865⟩ : ∃ v, _ = v ∧ Ptr _ v _ := ⟨_, rfl, ha2862⟩
           refine L_load_int ty3 q2864 hv2865 (by decide) ?_
           exact L_nil (hk2861 _ _ No (Ext.refl s2856) (fun _ h => h.elim) rfl (fun _ h => h.elim))
          ·intro f2868 s2866 hT2867 hA2869 hB2870 Q hk2871
           have ha2872 : f2868 3 = p2 := (hB2870 3 (by kernel_rfl)).trans ha2833
           refine L_fieldAddr fld64_2 Deed.of_Tag ha2872 (hp3.mono (l16.trans (l29.trans (e35.le.trans (e43.le.trans (e49.le.trans (e2236.le.trans (e2828.le.trans hT2867.le)))))))) (by decide) ?_
           intro p2839 hp2840
           exact L_nil (hk2871 _ _ No (Ext.refl s2866) (fun _ h => h.elim) hp2840 (fun _ h => h.elim))
          ·intro f2875 s2873 hT2874 hA2876 hB2877 Q hk2878
           have ha2879 : Ptr _ (f2875 96) (a0.Tag : Int) := hA2876 2 (by kernel_rfl) (by show _ < 9; decide)
           obtain ⟨v2880, q2881, hv2882⟩ : ∃ v, _ = v ∧ Ptr _ v _ := ⟨_, rfl, ha2879⟩
           refine L_load_int ty3 q2881 hv2882 (by decide) ?_
           exact L_nil (hk2878 _ _ No (Ext.refl s2873) (fun _ h => h.elim) rfl (fun _ h => h.elim))
          ·intro f2885 s2883 hT2884 hA2886 hB2887 Q hk2888
           obtain ⟨b2890, q2891, hb2892, hv2893⟩ : ∃ b, f2885 10 = Value.pointer (some ⟨b, 0, none⟩) ∧ s0.w.heap.size ≤ b ∧ Var s2883 b 64 ((Deed.with_Req (⟨a0.Kind, 0, 0, 0, false⟩ : Deed) y32) : Deed) := hA2886 8 (by kernel_rfl) (by show _ < 9; decide)
           have ha2894 : f2885 10 = Value.pointer (some ⟨b44, 0, none⟩) := (hB2887 10 (by kernel_rfl)).trans ha2836
           have ha2894e : b2890 = b44 := by have h3 := q2891.symm.trans ha2894; cases h3; rfl
           rw [ha2894e] at hb2892 hv2893
           refine L_fieldAddr_var fld64_1 ha2894 (by decide) ?_
           exact L_nil (hk2888 _ _ No (Ext.refl s2883) (fun _ h => h.elim) rfl (fun _ h => h.elim))
          ·intro f2897 s2895 hT2896 hA2898 hB2899 Q hk2900
           obtain ⟨b2902, q2903, hb2904, hv2905⟩ : ∃ b, f2897 10 = Value.pointer (some ⟨b, 0, none⟩) ∧ s0.w.heap.size ≤ b ∧ Var s2895 b 64 ((Deed.with_Req (⟨a0.Kind, 0, 0, 0, false⟩ : Deed) y32) : Deed) := hA2898 8 (by kernel_rfl) (by show _ < 9; decide)
           have ha2906 : f2897 10 = Value.pointer (some ⟨b44, 0, none⟩) := (hB2899 10 (by kernel_rfl)).trans ha2836
           have ha2906e : b2902 = b44 := by have h3 := q2903.symm.trans ha2906; cases h3; rfl
           rw [ha2906e] at hb2904 hv2905
           have ha2907 : f2897 95 = Value.int .i64 (a0.Peer) := hA2898 1 (by kernel_rfl) (by show _ < 9; decide)
           have ha2908 : f2897 98 = Value.pointer (some ⟨b44, 1, none⟩) := hA2898 4 (by kernel_rfl) (by show _ < 9; decide)
           refine L_store_field ty3 Deed.set_Peer ha2908 ha2907 Vint (hv2905) ?_
           intro s2843 e2841 hv2842
           exact L_nil (hk2900 undef _ _ e2841 (fun k h => ⟨8, (List.mem_singleton.2 rfl : (8 : Nat) ∈ [8]), (by show ownP (f2897 10) k; rw [ha2906]; exact congrArg (fun z => Value.pointer (some ⟨z, 0, none⟩)) h.symm)⟩) ⟨_, ha2906, hb2904, hv2842⟩ (fun k h => Or.inl ⟨8, (List.mem_singleton.2 rfl : (8 : Nat) ∈ [8]), h⟩))
          ·intro f2911 s2909 hT2910 hA2912 hB2913 Q hk2914
           obtain ⟨b2916, q2917, hb2918, hv2919⟩ : ∃ b, f2911 10 = Value.pointer (some ⟨b, 0, none⟩) ∧ s0.w.heap.size ≤ b ∧ Var s2909 b 64 ((Deed.with_Peer (Deed.with_Req (⟨a0.Kind, 0, 0, 0, false⟩ : Deed) y32) a0.Peer) : Deed) := hA2912 5 (by kernel_rfl) (by show _ < 9; decide)
           have ha2920 : f2911 10 = Value.pointer (some ⟨b44, 0, none⟩) := (hB2913 10 (by kernel_rfl)).trans ha2836
           have ha2920e : b2916 = b44 := by have h3 := q2917.symm.trans ha2920; cases h3; rfl
           rw [ha2920e] at hb2918 hv2919
           refine L_fieldAddr_var fld64_2 ha2920 (by decide) ?_
           exact L_nil (hk2914 _ _ No (Ext.refl s2909) (fun _ h => h.elim) rfl (fun _ h => h.elim))
          ·intro f2923 s2921 hT2922 hA2924 hB2925 Q hk2926
           obtain ⟨b2928, q2929, hb2930, hv2931⟩ : ∃ b, f2923 10 = Value.pointer (some ⟨b, 0, none⟩) ∧ s0.w.heap.size ≤ b ∧ Var s2921 b 64 ((Deed.with_Peer (Deed.with_Req (⟨a0.Kind, 0, 0, 0, false⟩ : Deed) y32) a0.Peer) : Deed) := hA2924 5 (by kernel_rfl) (by show _ < 9; decide)
           have ha2932 : f2923 10 = Value.pointer (some ⟨b44, 0, none⟩) := (hB2925 10 (by kernel_rfl)).trans ha2836
           have ha2932e : b2928 = b44 := by have h3 := q2929.symm.trans ha2932; cases h3; rfl
           rw [ha2932e] at hb2930 hv2931
           have ha2933 : f2923 97 = Value.int .i64 (a0.Tag) := hA2924 3 (by kernel_rfl) (by show _ < 9; decide)
           have ha2934 : f2923 99 = Value.pointer (some ⟨b44, 2, none⟩) := hA2924 6 (by kernel_rfl) (by show _ < 9; decide)
           refine L_store_field ty3 Deed.set_Tag ha2934 ha2933 Vint (hv2931) ?_
           intro s2847 e2845 hv2846
           exact L_nil (hk2926 undef _ _ e2845 (fun k h => ⟨5, (List.mem_singleton.2 rfl : (5 : Nat) ∈ [5]), (by show ownP (f2923 10) k; rw [ha2932]; exact congrArg (fun z => Value.pointer (some ⟨z, 0, none⟩)) h.symm)⟩) ⟨_, ha2932, hb2930, hv2846⟩ (fun k h => Or.inl ⟨5, (List.mem_singleton.2 rfl : (5 : Nat) ∈ [5]), h⟩))
          ·intro f2937 s2935 hT2936 hP2938 hD2939 hB2940
           have hE2941 := Tch.trans hE2832 hT2936 (fun k h => Or.inr (by have h2 := ent_is (k := 8) rfl rfl h; have h3 := Eq.mp (congrArg (fun v => ownP v k) (ha2836 : _ = Value.pointer (some ⟨b44, 0, none⟩))) h2; cases h3; exact (Nat.le_trans hE38.size hb45)))
           obtain ⟨b2942, q2943, hb2944, hv2945⟩ : ∃ b, f2937 10 = Value.pointer (some ⟨b, 0, none⟩) ∧ s0.w.heap.size ≤ b ∧ Var s2935 b 64 ((Deed.with_Tag (Deed.with_Peer (Deed.with_Req (⟨a0.Kind, 0, 0, 0, false⟩ : Deed) y32) a0.Peer) a0.Tag) : Deed) := hP2938 7 (by show _ < 9; decide) (by kernel_rfl)
           have ha2946 : f2937 10 = Value.pointer (some ⟨b44, 0, none⟩) := (hB2940 10 (by kernel_rfl)).trans ha2836
           have ha2946e : b2942 = b44 := by have h3 := q2943.symm.trans ha2946; cases h3; rfl
           rw [ha2946e] at hb2944 hv2945
           have ha2947 : f2937 3 = p2 := (hB2940 3 (by kernel_rfl)).trans ha2833
           have ha2948 : f2937 7 = Value.bool (decide (a0.Tag = (-1))) := (hB2940 7 (by kernel_rfl)).trans ha2834
           have ha2949 : f2937 8 = Value.bool (true) := (hB2940 8 (by kernel_rfl)).trans ha2835
           refine then_n ?_
           refine W_seq ?_
           refine W_region ?_
           refine L_load ty64 ha2947 (hp3.mono (l16.trans (l29.trans (e35.le.trans (e43.le.trans (e49.le.trans (e2236.le.trans (e2828.le.trans hT2936.le)))))))) (by decide) ?_
           intro v2950 hv2951
           refine L_load_var ty64 ha2946 (hv2945) (by decide) ?_
           intro v2952 hv2953
           refine L_seq64 (rfl : _ = v2950) hv2951 (rfl : _ = v2952) hv2953 (by decide) ?_
           refine L_move (rfl : _ = Value.bool (decide (a0 = (Deed.with_Tag (Deed.with_Peer (Deed.with_Req (⟨a0.Kind, 0, 0, 0, false⟩ : Deed) y32) a0.Peer) a0.Tag)))) (by decide) ?_
           rcases Bool.eq_false_or_eq_true (decide (a0 = (Deed.with_Tag (Deed.with_Peer (Deed.with_Req (⟨a0.Kind, 0, 0, 0, false⟩ : Deed) y32) a0.Peer) a0.Tag))) with hb2954 | hb2954
           ·have hr := ite_t hb2954 hr
            refine L_gt (e := 103) (by rfl) (by decide) (rfl : _ = Value.bool (decide (a0 = (Deed.with_Tag (Deed.with_Peer (Deed.with_Req (⟨a0.Kind, 0, 0, 0, false⟩ : Deed) y32) a0.Peer) a0.Tag)))) hb2954 ?_
            refine L_move ha2948 (by decide) ?_
            refine L_pick_t (rfl : _ = Value.bool (decide (a0 = (Deed.with_Tag (Deed.with_Peer (Deed.with_Req (⟨a0.Kind, 0, 0, 0, false⟩ : Deed) y32) a0.Peer) a0.Tag)))) hb2954 (rfl : _ = Value.bool (decide (a0.Tag = (-1)))) (by decide) ?_
            refine L_move (rfl : _ = Value.bool (decide (a0.Tag = (-1)))) (by decide) ?_
            rcases Bool.eq_false_or_eq_true (decide (a0.Tag = (-1))) with hb2955 | hb2955
            ·have hr := ite_t hb2955 hr
             refine L_gt (e := 106) (by rfl) (by decide) (rfl : _ = Value.bool (decide (a0.Tag = (-1)))) hb2955 ?_
             refine L_move ha2949 (by decide) ?_
             refine L_pick_t (rfl : _ = Value.bool (decide (a0.Tag = (-1)))) hb2955 (rfl : _ = Value.bool (true)) (by decide) ?_
             refine L_assign (rfl : _ = Value.bool (true)) (by decide) ?_
             refine L_nil ?_
             refine then_n ?_
             refine W_ret ?_
             obtain rfl := Option.some.inj hr
             exact done1 (Or.inl rfl) Try.results58 rfl ⟨_, _, rfl, rfl, hE2941, Vbool⟩
            ·have hr := ite_f hb2955 hr
             refine L_gf (e := 106) (by rfl) (by decide) (rfl : _ = Value.bool (decide (a0.Tag = (-1)))) hb2955 (by decide) ?_
             refine L_pick_f (rfl : _ = Value.bool (decide (a0.Tag = (-1)))) hb2955 (rfl : _ = Value.bool (false)) (by decide) ?_
             refine L_assign (rfl : _ = Value.bool (false)) (by decide) ?_
             refine L_nil ?_
             refine then_n ?_
             refine W_ret ?_
             obtain rfl := Option.some.inj hr
             exact done1 (Or.inl rfl) Try.results58 rfl ⟨_, _, rfl, rfl, hE2941, Vbool⟩
           ·have hr := ite_f hb2954 hr
            refine L_gf (e := 103) (by rfl) (by decide) (rfl : _ = Value.bool (decide (a0 = (Deed.with_Tag (Deed.with_Peer (Deed.with_Req (⟨a0.Kind, 0, 0, 0, false⟩ : Deed) y32) a0.Peer) a0.Tag)))) hb2954 (by decide) ?_
            refine L_pick_f (rfl : _ = Value.bool (decide (a0 = (Deed.with_Tag (Deed.with_Peer (Deed.with_Req (⟨a0.Kind, 0, 0, 0, false⟩ : Deed) y32) a0.Peer) a0.Tag)))) hb2954 (rfl : _ = Value.bool (false)) (by decide) ?_
            refine L_move (rfl : _ = Value.bool (false)) (by decide) ?_
            refine L_gf (e := 106) (by rfl) (by decide) (rfl : _ = Value.bool (false)) rfl (by decide) ?_
            refine L_pick_f (rfl : _ = Value.bool (false)) rfl (rfl : _ = Value.bool (false)) (by decide) ?_
            refine L_assign (rfl : _ = Value.bool (false)) (by decide) ?_
            refine L_nil ?_
            refine then_n ?_
            refine W_ret ?_
            obtain rfl := Option.some.inj hr
            exact done1 (Or.inl rfl) Try.results58 rfl ⟨_, _, rfl, rfl, hE2941, Vbool⟩
        ·have hr := ite_f hb2717 hr
         refine W_draws mixed (by kernel_rfl) [PV.eq (Value.bool (x6)), PV.eq (Value.bool (x6)), PV.ptr (a0.Tag : Int), PV.eq (Value.int .i64 (a0.Tag)), PV.eq (Value.bool (decide (a0.Tag = (-1)))), PV.eq (Value.bool (decide (a0.Tag = (-1)))), PV.eq (Value.bool (x19)), PV.eq (Value.bool (x19)), PV.ptr (a0.Peer : Int), PV.eq (Value.int .i64 (a0.Peer)), PV.eq (Value.bool (decide (a0.Peer = (-1)))), PV.eq (Value.bool (decide (a0.Peer = (-1)))), PV.eq (Value.bool (decide (a0.Tag = (-1)))), PV.eq (Value.bool (decide (a0.Peer = (-1))))] (Steps_cons ?_ (Steps_cons ?_ (Steps_cons ?_ (Steps_cons ?_ (Steps_cons ?_ (Steps_cons ?_ (Steps_cons ?_ (Steps_cons ?_ (Steps_cons ?_ (Steps_cons ?_ (Steps_cons ?_ (Steps_cons ?_ (Steps_cons ?_ (Steps_cons ?_ Steps_nil)))))))))))))) ?_
         ·intro f2960 s2958 e2959 hA2961 hB2962 Q hk2963
          have ha2964 : f2960 7 = Value.bool (x6) := (hB2962 7 (by kernel_rfl)).trans g31_7
          refine L_move ha2964 (by decide) ?_
          exact L_nil (hk2963 _ _ (Ext.refl s2958) rfl)
         ·intro f2967 s2965 e2966 hA2968 hB2969 Q hk2970
          have ha2971 : f2967 52 = Value.bool (x6) := hA2968 0 52 (by kernel_rfl) (by kernel_rfl)
          refine L_move ha2971 (by decide) ?_
          exact L_nil (hk2970 _ _ (Ext.refl s2965) rfl)
         ·intro f2974 s2972 e2973 hA2975 hB2976 Q hk2977
          have ha2978 : f2974 3 = p2 := (hB2976 3 (by kernel_rfl)).trans g31_3
          have ha2979 : f2974 53 = Value.bool (x6) := hA2975 1 53 (by kernel_rfl) (by kernel_rfl)
          refine L_gt (e := 53) (by rfl) (by decide) ha2979 hb2240 ?_
          refine L_fieldAddr fld64_2 Deed.of_Tag ha2978 (hp3.mono (l16.trans (l29.trans (e35.le.trans (e43.le.trans (e49.le.trans (e2236.le.trans e2973.le))))))) (by decide) ?_
          intro p2715 hp2716
          exact L_nil (hk2977 _ _ (Ext.refl s2972) hp2716)
         ·intro f2982 s2980 e2981 hA2983 hB2984 Q hk2985
          have ha2986 : f2982 53 = Value.bool (x6) := hA2983 1 53 (by kernel_rfl) (by kernel_rfl)
          have ha2987 : Ptr _ (f2982 54) (a0.Tag : Int) := hA2983 2 54 (by kernel_rfl) (by kernel_rfl)
          obtain ⟨v2988, q2989, hv2990⟩ : ∃ v, _ = v ∧ Ptr _ v _ := ⟨_, rfl, ha2987⟩
          refine L_gt (e := 53) (by rfl) (by decide) ha2986 hb2240 ?_
          refine L_load_int ty3 q2989 hv2990 (by decide) ?_
          exact L_nil (hk2985 _ _ (Ext.refl s2980) rfl)
         ·intro f2993 s2991 e2992 hA2994 hB2995 Q hk2996
          have ha2997 : f2993 53 = Value.bool (x6) := hA2994 1 53 (by kernel_rfl) (by kernel_rfl)
          have ha2998 : f2993 55 = Value.int .i64 (a0.Tag) := hA2994 3 55 (by kernel_rfl) (by kernel_rfl)
          refine L_gt (e := 53) (by rfl) (by decide) ha2997 hb2240 ?_
          refine L_eql ha2998 (rfl : _ = Value.int .i64 (-1)) (by decide) ?_
          exact L_nil (hk2996 _ _ (Ext.refl s2991) rfl)
         ·intro f3001 s2999 e3000 hA3002 hB3003 Q hk3004
          have ha3005 : f3001 53 = Value.bool (x6) := hA3002 1 53 (by kernel_rfl) (by kernel_rfl)
          have ha3006 : f3001 56 = Value.bool (decide (a0.Tag = (-1))) := hA3002 4 56 (by kernel_rfl) (by kernel_rfl)
          refine L_pick_f ha3005 hb2240 ha3006 (by decide) ?_
          exact L_nil (hk3004 _ _ (Ext.refl s2999) rfl)
         ·intro f3009 s3007 e3008 hA3010 hB3011 Q hk3012
          have ha3013 : f3009 8 = Value.bool (x19) := (hB3011 8 (by kernel_rfl)).trans g31_8
          refine L_move ha3013 (by decide) ?_
          exact L_nil (hk3012 _ _ (Ext.refl s3007) rfl)
         ·intro f3016 s3014 e3015 hA3017 hB3018 Q hk3019
          have ha3020 : f3016 58 = Value.bool (x19) := hA3017 6 58 (by kernel_rfl) (by kernel_rfl)
          refine L_move ha3020 (by decide) ?_
          exact L_nil (hk3019 _ _ (Ext.refl s3014) rfl)
         ·intro f3023 s3021 e3022 hA3024 hB3025 Q hk3026
          have ha3027 : f3023 3 = p2 := (hB3025 3 (by kernel_rfl)).trans g31_3
          have ha3028 : f3023 59 = Value.bool (x19) := hA3024 7 59 (by kernel_rfl) (by kernel_rfl)
          refine L_gt (e := 59) (by rfl) (by decide) ha3028 hb2717 ?_
          refine L_fieldAddr fld64_1 Deed.of_Peer ha3027 (hp3.mono (l16.trans (l29.trans (e35.le.trans (e43.le.trans (e49.le.trans (e2236.le.trans e3022.le))))))) (by decide) ?_
          intro p2956 hp2957
          exact L_nil (hk3026 _ _ (Ext.refl s3021) hp2957)
         ·intro f3031 s3029 e3030 hA3032 hB3033 Q hk3034
          have ha3035 : f3031 59 = Value.bool (x19) := hA3032 7 59 (by kernel_rfl) (by kernel_rfl)
          have ha3036 : Ptr _ (f3031 60) (a0.Peer : Int) := hA3032 8 60 (by kernel_rfl) (by kernel_rfl)
          obtain ⟨v3037, q3038, hv3039⟩ : ∃ v, _ = v ∧ Ptr _ v _ := ⟨_, rfl, ha3036⟩
          refine L_gt (e := 59) (by rfl) (by decide) ha3035 hb2717 ?_
          refine L_load_int ty3 q3038 hv3039 (by decide) ?_
          exact L_nil (hk3034 _ _ (Ext.refl s3029) rfl)
         ·intro f3042 s3040 e3041 hA3043 hB3044 Q hk3045
          have ha3046 : f3042 59 = Value.bool (x19) := hA3043 7 59 (by kernel_rfl) (by kernel_rfl)
          have ha3047 : f3042 61 = Value.int .i64 (a0.Peer) := hA3043 9 61 (by kernel_rfl) (by kernel_rfl)
          refine L_gt (e := 59) (by rfl) (by decide) ha3046 hb2717 ?_
          refine L_eql ha3047 (rfl : _ = Value.int .i64 (-1)) (by decide) ?_
          exact L_nil (hk3045 _ _ (Ext.refl s3040) rfl)
         ·intro f3050 s3048 e3049 hA3051 hB3052 Q hk3053
          have ha3054 : f3050 59 = Value.bool (x19) := hA3051 7 59 (by kernel_rfl) (by kernel_rfl)
          have ha3055 : f3050 62 = Value.bool (decide (a0.Peer = (-1))) := hA3051 10 62 (by kernel_rfl) (by kernel_rfl)
          refine L_pick_f ha3054 hb2717 ha3055 (by decide) ?_
          exact L_nil (hk3053 _ _ (Ext.refl s3048) rfl)
         ·intro f3058 s3056 e3057 hA3059 hB3060 Q hk3061
          have ha3062 : f3058 57 = Value.bool (decide (a0.Tag = (-1))) := hA3059 5 57 (by kernel_rfl) (by kernel_rfl)
          refine L_assign ha3062 (by decide) ?_
          exact L_nil (hk3061 _ _ (Ext.refl s3056) rfl)
         ·intro f3065 s3063 e3064 hA3066 hB3067 Q hk3068
          have ha3069 : f3065 63 = Value.bool (decide (a0.Peer = (-1))) := hA3066 11 63 (by kernel_rfl) (by kernel_rfl)
          refine L_assign ha3069 (by decide) ?_
          exact L_nil (hk3068 _ _ (Ext.refl s3063) rfl)
         ·intro f3072 s3070 e3071 hA3073 hB3074
          have hE3075 := Tch.ext hE2239 e3071
          have ha3076 : f3072 3 = p2 := (hB3074 3 (by kernel_rfl)).trans g31_3
          have ha3077 : f3072 7 = Value.bool (decide (a0.Tag = (-1))) := hA3073 12 7 (by kernel_rfl)
          have ha3078 : f3072 8 = Value.bool (decide (a0.Peer = (-1))) := hA3073 13 8 (by kernel_rfl)
          have ha3079 : f3072 10 = Value.pointer (some ⟨b44, 0, none⟩) := (hB3074 10 (by kernel_rfl)).trans rfl
          refine block_n ?_
          refine then_n ?_
          refine W_seq ?_
          refine W_drawP mixed 8 [PX.ptr (a0.Peer : Int), PX.eq (Value.int .i64 (a0.Peer)), PX.ptr (a0.Tag : Int), PX.eq (Value.int .i64 (a0.Tag)), PX.eq (Value.pointer (some ⟨b44, 1, none⟩)), PX.var s0.w.heap.size 64 ((Deed.with_Peer (Deed.with_Req (⟨a0.Kind, 0, 0, 0, false⟩ : Deed) y32) a0.Peer) : Deed), PX.eq (Value.pointer (some ⟨b44, 2, none⟩)), PX.var s0.w.heap.size 64 ((Deed.with_Tag (Deed.with_Peer (Deed.with_Req (⟨a0.Kind, 0, 0, 0, false⟩ : Deed) y32) a0.Peer) a0.Tag) : Deed), PX.var s0.w.heap.size 64 ((Deed.with_Req (⟨a0.Kind, 0, 0, 0, false⟩ : Deed) y32) : Deed)] [94, 95, 96, 97, 98, 10, 99, 10, 10] [[], [], [], [], [], [8], [], [5]] rfl (by kernel_rfl) (ent1 rfl ⟨b44, ha3079, (Nat.le_trans hE38.size hb45), (hv2237).ext e3071⟩) (dis1 rfl) (StepsX_cons ?_ (StepsX_cons ?_ (StepsX_cons ?_ (StepsX_cons ?_ (StepsX_cons ?_ (StepsX_cons ?_ (StepsX_cons ?_ (StepsX_cons ?_ StepsX_nil)))))))) ?_
          ·intro f3094 s3092 hT3093 hA3095 hB3096 Q hk3097
           have ha3098 : f3094 3 = p2 := (hB3096 3 (by kernel_rfl)).trans ha3076
           refine L_fieldAddr fld64_1 Deed.of_Peer ha3098 (hp3.mono (l16.trans (l29.trans (e35.le.trans (e43.le.trans (e49.le.trans (e2236.le.trans (e3071.le.trans hT3093.le)))))))) (by decide) ?_
           intro p3080 hp3081
           exact L_nil (hk3097 _ _ No (Ext.refl s3092) (fun _ h => h.elim) hp3081 (fun _ h => h.elim))
          ·intro f3101 s3099 hT3100 hA3102 hB3103 Q hk3104
           have ha3105 : Ptr _ (f3101 94) (a0.Peer : Int) := hA3102 0 (by kernel_rfl) (by show _ < 9; decide)
           obtain ⟨v3106, q3107, hv3108⟩ : ∃ v, _ = v ∧ Ptr _ v _ := ⟨_, rfl, ha3105⟩
           refine L_load_int ty3 q3107 hv3108 (by decide) ?_
           exact L_nil (hk3104 _ _ No (Ext.refl s3099) (fun _ h => h.elim) rfl (fun _ h => h.elim))
          ·intro f3111 s3109 hT3110 hA3112 hB3113 Q hk3114
           have ha3115 : f3111 3 = p2 := (hB3113 3 (by kernel_rfl)).trans ha3076
           refine L_fieldAddr fld64_2 Deed.of_Tag ha3115 (hp3.mono (l16.trans (l29.trans (e35.le.trans (e43.le.trans (e49.le.trans (e2236.le.trans (e3071.le.trans hT3110.le)))))))) (by decide) ?_
           intro p3082 hp3083
           exact L_nil (hk3114 _ _ No (Ext.refl s3109) (fun _ h => h.elim) hp3083 (fun _ h => h.elim))
          ·intro f3118 s3116 hT3117 hA3119 hB3120 Q hk3121
           have ha3122 : Ptr _ (f3118 96) (a0.Tag : Int) := hA3119 2 (by kernel_rfl) (by show _ < 9; decide)
           obtain ⟨v3123, q3124, hv3125⟩ : ∃ v, _ = v ∧ Ptr _ v _ := ⟨_, rfl, ha3122⟩
           refine L_load_int ty3 q3124 hv3125 (by decide) ?_
           exact L_nil (hk3121 _ _ No (Ext.refl s3116) (fun _ h => h.elim) rfl (fun _ h => h.elim))
          ·intro f3128 s3126 hT3127 hA3129 hB3130 Q hk3131
           obtain ⟨b3133, q3134, hb3135, hv3136⟩ : ∃ b, f3128 10 = Value.pointer (some ⟨b, 0, none⟩) ∧ s0.w.heap.size ≤ b ∧ Var s3126 b 64 ((Deed.with_Req (⟨a0.Kind, 0, 0, 0, false⟩ : Deed) y32) : Deed) := hA3129 8 (by kernel_rfl) (by show _ < 9; decide)
           have ha3137 : f3128 10 = Value.pointer (some ⟨b44, 0, none⟩) := (hB3130 10 (by kernel_rfl)).trans ha3079
           have ha3137e : b3133 = b44 := by have h3 := q3134.symm.trans ha3137; cases h3; rfl
           rw [ha3137e] at hb3135 hv3136
           refine L_fieldAddr_var fld64_1 ha3137 (by decide) ?_
           exact L_nil (hk3131 _ _ No (Ext.refl s3126) (fun _ h => h.elim) rfl (fun _ h => h.elim))
          ·intro f3140 s3138 hT3139 hA3141 hB3142 Q hk3143
           obtain ⟨b3145, q3146, hb3147, hv3148⟩ : ∃ b, f3140 10 = Value.pointer (some ⟨b, 0, none⟩) ∧ s0.w.heap.size ≤ b ∧ Var s3138 b 64 ((Deed.with_Req (⟨a0.Kind, 0, 0, 0, false⟩ : Deed) y32) : Deed) := hA3141 8 (by kernel_rfl) (by show _ < 9; decide)
           have ha3149 : f3140 10 = Value.pointer (some ⟨b44, 0, none⟩) := (hB3142 10 (by kernel_rfl)).trans ha3079
           have ha3149e : b3145 = b44 := by have h3 := q3146.symm.trans ha3149; cases h3; rfl
           rw [ha3149e] at hb3147 hv3148
           have ha3150 : f3140 95 = Value.int .i64 (a0.Peer) := hA3141 1 (by kernel_rfl) (by show _ < 9; decide)
           have ha3151 : f3140 98 = Value.pointer (some ⟨b44, 1, none⟩) := hA3141 4 (by kernel_rfl) (by show _ < 9; decide)
           refine L_store_field ty3 Deed.set_Peer ha3151 ha3150 Vint (hv3148) ?_
           intro s3086 e3084 hv3085
           exact L_nil (hk3143 undef _ _ e3084 (fun k h => ⟨8, (List.mem_singleton.2 rfl : (8 : Nat) ∈ [8]), (by show ownP (f3140 10) k; rw [ha3149]; exact congrArg (fun z => Value.pointer (some ⟨z, 0, none⟩)) h.symm)⟩) ⟨_, ha3149, hb3147, hv3085⟩ (fun k h => Or.inl ⟨8, (List.mem_singleton.2 rfl : (8 : Nat) ∈ [8]), h⟩))
          ·intro f3154 s3152 hT3153 hA3155 hB3156 Q hk3157
           obtain ⟨b3159, q3160, hb3161, hv3162⟩ : ∃ b, f3154 10 = Value.pointer (some ⟨b, 0, none⟩) ∧ s0.w.heap.size ≤ b ∧ Var s3152 b 64 ((Deed.with_Peer (Deed.with_Req (⟨a0.Kind, 0, 0, 0, false⟩ : Deed) y32) a0.Peer) : Deed) := hA3155 5 (by kernel_rfl) (by show _ < 9; decide)
           have ha3163 : f3154 10 = Value.pointer (some ⟨b44, 0, none⟩) := (hB3156 10 (by kernel_rfl)).trans ha3079
           have ha3163e : b3159 = b44 := by have h3 := q3160.symm.trans ha3163; cases h3; rfl
           rw [ha3163e] at hb3161 hv3162
           refine L_fieldAddr_var fld64_2 ha3163 (by decide) ?_
           exact L_nil (hk3157 _ _ No (Ext.refl s3152) (fun _ h => h.elim) rfl (fun _ h => h.elim))
          ·intro f3166 s3164 hT3165 hA3167 hB3168 Q hk3169
           obtain ⟨b3171, q3172, hb3173, hv3174⟩ : ∃ b, f3166 10 = Value.pointer (some ⟨b, 0, none⟩) ∧ s0.w.heap.size ≤ b ∧ Var s3164 b 64 ((Deed.with_Peer (Deed.with_Req (⟨a0.Kind, 0, 0, 0, false⟩ : Deed) y32) a0.Peer) : Deed) := hA3167 5 (by kernel_rfl) (by show _ < 9; decide)
           have ha3175 : f3166 10 = Value.pointer (some ⟨b44, 0, none⟩) := (hB3168 10 (by kernel_rfl)).trans ha3079
           have ha3175e : b3171 = b44 := by have h3 := q3172.symm.trans ha3175; cases h3; rfl
           rw [ha3175e] at hb3173 hv3174
           have ha3176 : f3166 97 = Value.int .i64 (a0.Tag) := hA3167 3 (by kernel_rfl) (by show _ < 9; decide)
           have ha3177 : f3166 99 = Value.pointer (some ⟨b44, 2, none⟩) := hA3167 6 (by kernel_rfl) (by show _ < 9; decide)
           refine L_store_field ty3 Deed.set_Tag ha3177 ha3176 Vint (hv3174) ?_
           intro s3090 e3088 hv3089
           exact L_nil (hk3169 undef _ _ e3088 (fun k h => ⟨5, (List.mem_singleton.2 rfl : (5 : Nat) ∈ [5]), (by show ownP (f3166 10) k; rw [ha3175]; exact congrArg (fun z => Value.pointer (some ⟨z, 0, none⟩)) h.symm)⟩) ⟨_, ha3175, hb3173, hv3089⟩ (fun k h => Or.inl ⟨5, (List.mem_singleton.2 rfl : (5 : Nat) ∈ [5]), h⟩))
          ·intro f3180 s3178 hT3179 hP3181 hD3182 hB3183
           have hE3184 := Tch.trans hE3075 hT3179 (fun k h => Or.inr (by have h2 := ent_is (k := 8) rfl rfl h; have h3 := Eq.mp (congrArg (fun v => ownP v k) (ha3079 : _ = Value.pointer (some ⟨b44, 0, none⟩))) h2; cases h3; exact (Nat.le_trans hE38.size hb45)))
           obtain ⟨b3185, q3186, hb3187, hv3188⟩ : ∃ b, f3180 10 = Value.pointer (some ⟨b, 0, none⟩) ∧ s0.w.heap.size ≤ b ∧ Var s3178 b 64 ((Deed.with_Tag (Deed.with_Peer (Deed.with_Req (⟨a0.Kind, 0, 0, 0, false⟩ : Deed) y32) a0.Peer) a0.Tag) : Deed) := hP3181 7 (by show _ < 9; decide) (by kernel_rfl)
           have ha3189 : f3180 10 = Value.pointer (some ⟨b44, 0, none⟩) := (hB3183 10 (by kernel_rfl)).trans ha3079
           have ha3189e : b3185 = b44 := by have h3 := q3186.symm.trans ha3189; cases h3; rfl
           rw [ha3189e] at hb3187 hv3188
           have ha3190 : f3180 3 = p2 := (hB3183 3 (by kernel_rfl)).trans ha3076
           have ha3191 : f3180 7 = Value.bool (decide (a0.Tag = (-1))) := (hB3183 7 (by kernel_rfl)).trans ha3077
           have ha3192 : f3180 8 = Value.bool (decide (a0.Peer = (-1))) := (hB3183 8 (by kernel_rfl)).trans ha3078
           refine then_n ?_
           refine W_seq ?_
           refine W_region ?_
           refine L_load ty64 ha3190 (hp3.mono (l16.trans (l29.trans (e35.le.trans (e43.le.trans (e49.le.trans (e2236.le.trans (e3071.le.trans hT3179.le)))))))) (by decide) ?_
           intro v3193 hv3194
           refine L_load_var ty64 ha3189 (hv3188) (by decide) ?_
           intro v3195 hv3196
           refine L_seq64 (rfl : _ = v3193) hv3194 (rfl : _ = v3195) hv3196 (by decide) ?_
           refine L_move (rfl : _ = Value.bool (decide (a0 = (Deed.with_Tag (Deed.with_Peer (Deed.with_Req (⟨a0.Kind, 0, 0, 0, false⟩ : Deed) y32) a0.Peer) a0.Tag)))) (by decide) ?_
           rcases Bool.eq_false_or_eq_true (decide (a0 = (Deed.with_Tag (Deed.with_Peer (Deed.with_Req (⟨a0.Kind, 0, 0, 0, false⟩ : Deed) y32) a0.Peer) a0.Tag))) with hb3197 | hb3197
           ·have hr := ite_t hb3197 hr
            refine L_gt (e := 103) (by rfl) (by decide) (rfl : _ = Value.bool (decide (a0 = (Deed.with_Tag (Deed.with_Peer (Deed.with_Req (⟨a0.Kind, 0, 0, 0, false⟩ : Deed) y32) a0.Peer) a0.Tag)))) hb3197 ?_
            refine L_move ha3191 (by decide) ?_
            refine L_pick_t (rfl : _ = Value.bool (decide (a0 = (Deed.with_Tag (Deed.with_Peer (Deed.with_Req (⟨a0.Kind, 0, 0, 0, false⟩ : Deed) y32) a0.Peer) a0.Tag)))) hb3197 (rfl : _ = Value.bool (decide (a0.Tag = (-1)))) (by decide) ?_
            refine L_move (rfl : _ = Value.bool (decide (a0.Tag = (-1)))) (by decide) ?_
            rcases Bool.eq_false_or_eq_true (decide (a0.Tag = (-1))) with hb3198 | hb3198
            ·have hr := ite_t hb3198 hr
             refine L_gt (e := 106) (by rfl) (by decide) (rfl : _ = Value.bool (decide (a0.Tag = (-1)))) hb3198 ?_
             refine L_move ha3192 (by decide) ?_
             refine L_pick_t (rfl : _ = Value.bool (decide (a0.Tag = (-1)))) hb3198 (rfl : _ = Value.bool (decide (a0.Peer = (-1)))) (by decide) ?_
             refine L_assign (rfl : _ = Value.bool (decide (a0.Peer = (-1)))) (by decide) ?_
             refine L_nil ?_
             refine then_n ?_
             refine W_ret ?_
             obtain rfl := Option.some.inj hr
             exact done1 (Or.inl rfl) Try.results58 rfl ⟨_, _, rfl, rfl, hE3184, Vbool⟩
            ·have hr := ite_f hb3198 hr
             refine L_gf (e := 106) (by rfl) (by decide) (rfl : _ = Value.bool (decide (a0.Tag = (-1)))) hb3198 (by decide) ?_
             refine L_pick_f (rfl : _ = Value.bool (decide (a0.Tag = (-1)))) hb3198 (rfl : _ = Value.bool (false)) (by decide) ?_
             refine L_assign (rfl : _ = Value.bool (false)) (by decide) ?_
             refine L_nil ?_
             refine then_n ?_
             refine W_ret ?_
             obtain rfl := Option.some.inj hr
             exact done1 (Or.inl rfl) Try.results58 rfl ⟨_, _, rfl, rfl, hE3184, Vbool⟩
           ·have hr := ite_f hb3197 hr
            refine L_gf (e := 103) (by rfl) (by decide) (rfl : _ = Value.bool (decide (a0 = (Deed.with_Tag (Deed.with_Peer (Deed.with_Req (⟨a0.Kind, 0, 0, 0, false⟩ : Deed) y32) a0.Peer) a0.Tag)))) hb3197 (by decide) ?_
            refine L_pick_f (rfl : _ = Value.bool (decide (a0 = (Deed.with_Tag (Deed.with_Peer (Deed.with_Req (⟨a0.Kind, 0, 0, 0, false⟩ : Deed) y32) a0.Peer) a0.Tag)))) hb3197 (rfl : _ = Value.bool (false)) (by decide) ?_
            refine L_move (rfl : _ = Value.bool (false)) (by decide) ?_
            refine L_gf (e := 106) (by rfl) (by decide) (rfl : _ = Value.bool (false)) rfl (by decide) ?_
            refine L_pick_f (rfl : _ = Value.bool (false)) rfl (rfl : _ = Value.bool (false)) (by decide) ?_
            refine L_assign (rfl : _ = Value.bool (false)) (by decide) ?_
            refine L_nil ?_
            refine then_n ?_
            refine W_ret ?_
            obtain rfl := Option.some.inj hr
            exact done1 (Or.inl rfl) Try.results58 rfl ⟨_, _, rfl, rfl, hE3184, Vbool⟩
      ·have hr := ite_f hb2232 hr
       refine W_seq ?_
       refine W_region ?_
       refine L_eql (rfl : _ = Value.int .i64 (a0.Kind)) (rfl : _ = Value.int .i64 (5)) (by decide) ?_
       refine L_assign (rfl : _ = Value.bool (decide (a0.Kind = 5))) (by decide) ?_
       refine L_nil ?_
       refine then_n ?_
       refine W_cond _ (rfl : _ = Value.bool (decide (a0.Kind = 5))) (fun hb3199 => ?_) (fun hb3199 => ?_)
       ·have hr := ite_t hb3199 hr
        refine W_seq ?_
        refine W_region ?_
        refine L_fieldAddr fld64_3 Deed.of_Req g31_3 (hp3.mono (l16.trans (l29.trans (e35.le.trans (e43.le.trans e49.le))))) (by decide) ?_
        intro p3200 hp3201
        refine L_load_int ty3 (rfl : _ = p3200) hp3201 (by decide) ?_
        refine L_fieldAddr_var fld64_3 (rfl : _ = Value.pointer (some ⟨b44, 0, none⟩)) (by decide) ?_
        refine L_store_field ty3 Deed.set_Req (rfl : _ = Value.pointer (some ⟨b44, 3, none⟩)) (rfl : _ = Value.int .i64 (a0.Req)) Vint (hv50) ?_
        intro s3204 e3202 hv3203
        have hE3205 := Tch.trans hE52 e3202 (fun k hk => Or.inr (by subst hk; exact (Nat.le_trans hE38.size hb45)))
        refine L_nil ?_
        refine then_n ?_
        obtain ⟨o3207, ho3208, hq3209⟩ := bind_some hr
        refine W_seq_cut (fun f w => ∃ (s : St) (x3206 : Bool), s.w = w ∧ Ext s0 s ∧ Le s3204 s ∧ x3206 = o3207 ∧ f 6 = Value.bool x3206) ?_ ?_
        ·have hr := ho3208
         refine W_region ?_
         refine L_load ty64 g31_3 (hp3.mono (l16.trans (l29.trans (e35.le.trans (e43.le.trans (e49.le.trans e3202.le)))))) (by decide) ?_
         intro v3210 hv3211
         refine L_load_var ty64 (rfl : _ = Value.pointer (some ⟨b44, 0, none⟩)) (hv3203) (by decide) ?_
         intro v3212 hv3213
         refine L_seq64 (rfl : _ = v3210) hv3211 (rfl : _ = v3212) hv3213 (by decide) ?_
         refine L_move (rfl : _ = Value.bool (decide (a0 = (Deed.with_Req (⟨a0.Kind, 0, 0, 0, false⟩ : Deed) a0.Req)))) (by decide) ?_
         rcases Bool.eq_false_or_eq_true (decide (a0 = (Deed.with_Req (⟨a0.Kind, 0, 0, 0, false⟩ : Deed) a0.Req))) with hb3214 | hb3214
         ·have hr := ite_t hb3214 hr
          refine L_gt (e := 72) (by rfl) (by decide) (rfl : _ = Value.bool (decide (a0 = (Deed.with_Req (⟨a0.Kind, 0, 0, 0, false⟩ : Deed) a0.Req)))) hb3214 ?_
          refine L_fieldAddr fld64_3 Deed.of_Req g31_3 (hp3.mono (l16.trans (l29.trans (e35.le.trans (e43.le.trans (e49.le.trans e3202.le)))))) (by decide) ?_
          intro p3215 hp3216
          refine L_gt (e := 72) (by rfl) (by decide) (rfl : _ = Value.bool (decide (a0 = (Deed.with_Req (⟨a0.Kind, 0, 0, 0, false⟩ : Deed) a0.Req)))) hb3214 ?_
          refine L_load_int ty3 (rfl : _ = p3215) hp3216 (by decide) ?_
          refine L_gt (e := 72) (by rfl) (by decide) (rfl : _ = Value.bool (decide (a0 = (Deed.with_Req (⟨a0.Kind, 0, 0, 0, false⟩ : Deed) a0.Req)))) hb3214 ?_
          refine L_geq (rfl : _ = Value.int .i64 (a0.Req)) (rfl : _ = Value.int .i64 (0)) (by decide) ?_
          refine L_pick_t (rfl : _ = Value.bool (decide (a0 = (Deed.with_Req (⟨a0.Kind, 0, 0, 0, false⟩ : Deed) a0.Req)))) hb3214 (rfl : _ = Value.bool (decide (0 ≤ a0.Req))) (by decide) ?_
          refine L_move (rfl : _ = Value.bool (decide (0 ≤ a0.Req))) (by decide) ?_
          rcases Bool.eq_false_or_eq_true (decide (0 ≤ a0.Req)) with hb3217 | hb3217
          ·have hr := ite_t hb3217 hr
           refine L_gt (e := 77) (by rfl) (by decide) (rfl : _ = Value.bool (decide (0 ≤ a0.Req))) hb3217 ?_
           refine L_fieldAddr fld64_3 Deed.of_Req g31_3 (hp3.mono (l16.trans (l29.trans (e35.le.trans (e43.le.trans (e49.le.trans e3202.le)))))) (by decide) ?_
           intro p3218 hp3219
           refine L_gt (e := 77) (by rfl) (by decide) (rfl : _ = Value.bool (decide (0 ≤ a0.Req))) hb3217 ?_
           refine L_load_int ty3 (rfl : _ = p3218) hp3219 (by decide) ?_
           refine L_gt (e := 77) (by rfl) (by decide) (rfl : _ = Value.bool (decide (0 ≤ a0.Req))) hb3217 ?_
           refine L_move (rfl : _ = Value.int .i64 (y32)) (by decide) ?_
           refine L_gt (e := 77) (by rfl) (by decide) (rfl : _ = Value.bool (decide (0 ≤ a0.Req))) hb3217 ?_
           refine L_lss (rfl : _ = Value.int .i64 (a0.Req)) (rfl : _ = Value.int .i64 (y32)) (by decide) ?_
           refine L_pick_t (rfl : _ = Value.bool (decide (0 ≤ a0.Req))) hb3217 (rfl : _ = Value.bool (decide (a0.Req < y32))) (by decide) ?_
           refine L_move (rfl : _ = Value.bool (decide (a0.Req < y32))) (by decide) ?_
           rcases Bool.eq_false_or_eq_true (decide (a0.Req < y32)) with hb3220 | hb3220
           ·have hr := ite_t hb3220 hr
            refine L_gt (e := 83) (by rfl) (by decide) (rfl : _ = Value.bool (decide (a0.Req < y32))) hb3220 ?_
            refine L_move g31_1 (by decide) ?_
            refine L_gt (e := 83) (by rfl) (by decide) (rfl : _ = Value.bool (decide (a0.Req < y32))) hb3220 ?_
            refine L_load ty64 g31_3 (hp3.mono (l16.trans (l29.trans (e35.le.trans (e43.le.trans (e49.le.trans e3202.le)))))) (by decide) ?_
            intro v3221 hv3222
            refine L_gt (e := 83) (by rfl) (by decide) (rfl : _ = Value.bool (decide (a0.Req < y32))) hb3220 ?_
            obtain ⟨y3223, hy3224, hr⟩ := bind_some hr
            refine L_calls cal80 (args2 (rfl : _ = w1) (rfl : _ = v3221)) (slices_Contains_Llang_Deed_lang_Deed_ok N _ _ _ (h1.mono (e1.le.trans (l16.trans (l29.trans (e35.le.trans (e43.le.trans (e49.le.trans e3202.le))))))) _ _ hv3222 y3223 hy3224) (by decide) ?_
            intro v3225 s3228 e3226 hv3227
            have hE3229 := Tch.ext hE3205 e3226
            obtain rfl := hv3227.bool
            refine L_gt (e := 83) (by rfl) (by decide) (rfl : _ = Value.bool (decide (a0.Req < y32))) hb3220 ?_
            refine L_not (rfl : _ = Value.bool (y3223)) (by decide) ?_
            refine L_pick_t (rfl : _ = Value.bool (decide (a0.Req < y32))) hb3220 (rfl : _ = Value.bool (!y3223)) (by decide) ?_
            refine L_assign (rfl : _ = Value.bool (!y3223)) (by decide) ?_
            refine L_nil ?_
            exact then_n ⟨s3228, (!y3223), rfl, hE3229, e3226.le, Option.some.inj hr, rfl⟩
           ·have hr := ite_f hb3220 hr
            refine L_gf (e := 83) (by rfl) (by decide) (rfl : _ = Value.bool (decide (a0.Req < y32))) hb3220 (by decide) ?_
            refine L_gf (e := 83) (by rfl) (by decide) (rfl : _ = Value.bool (decide (a0.Req < y32))) hb3220 (by decide) ?_
            refine L_gf (e := 83) (by rfl) (by decide) (rfl : _ = Value.bool (decide (a0.Req < y32))) hb3220 (by decide) ?_
            refine L_gf (e := 83) (by rfl) (by decide) (rfl : _ = Value.bool (decide (a0.Req < y32))) hb3220 (by decide) ?_
            refine L_pick_f (rfl : _ = Value.bool (decide (a0.Req < y32))) hb3220 (rfl : _ = Value.bool (false)) (by decide) ?_
            refine L_assign (rfl : _ = Value.bool (false)) (by decide) ?_
            refine L_nil ?_
            exact then_n ⟨s3204, false, rfl, hE3205, (Le.refl _), Option.some.inj hr, rfl⟩
          ·have hr := ite_f hb3217 hr
           refine L_gf (e := 77) (by rfl) (by decide) (rfl : _ = Value.bool (decide (0 ≤ a0.Req))) hb3217 (by decide) ?_
           refine L_gf (e := 77) (by rfl) (by decide) (rfl : _ = Value.bool (decide (0 ≤ a0.Req))) hb3217 (by decide) ?_
           refine L_gf (e := 77) (by rfl) (by decide) (rfl : _ = Value.bool (decide (0 ≤ a0.Req))) hb3217 (by decide) ?_
           refine L_gf (e := 77) (by rfl) (by decide) (rfl : _ = Value.bool (decide (0 ≤ a0.Req))) hb3217 (by decide) ?_
           refine L_pick_f (rfl : _ = Value.bool (decide (0 ≤ a0.Req))) hb3217 (rfl : _ = Value.bool (false)) (by decide) ?_
           refine L_move (rfl : _ = Value.bool (false)) (by decide) ?_
           refine L_gf (e := 83) (by rfl) (by decide) (rfl : _ = Value.bool (false)) rfl (by decide) ?_
           refine L_gf (e := 83) (by rfl) (by decide) (rfl : _ = Value.bool (false)) rfl (by decide) ?_
           refine L_gf (e := 83) (by rfl) (by decide) (rfl : _ = Value.bool (false)) rfl (by decide) ?_
           refine L_gf (e := 83) (by rfl) (by decide) (rfl : _ = Value.bool (false)) rfl (by decide) ?_
           refine L_pick_f (rfl : _ = Value.bool (false)) rfl (rfl : _ = Value.bool (false)) (by decide) ?_
           refine L_assign (rfl : _ = Value.bool (false)) (by decide) ?_
           refine L_nil ?_
           exact then_n ⟨s3204, false, rfl, hE3205, (Le.refl _), Option.some.inj hr, rfl⟩
         ·have hr := ite_f hb3214 hr
          refine L_gf (e := 72) (by rfl) (by decide) (rfl : _ = Value.bool (decide (a0 = (Deed.with_Req (⟨a0.Kind, 0, 0, 0, false⟩ : Deed) a0.Req)))) hb3214 (by decide) ?_
          refine L_gf (e := 72) (by rfl) (by decide) (rfl : _ = Value.bool (decide (a0 = (Deed.with_Req (⟨a0.Kind, 0, 0, 0, false⟩ : Deed) a0.Req)))) hb3214 (by decide) ?_
          refine L_gf (e := 72) (by rfl) (by decide) (rfl : _ = Value.bool (decide (a0 = (Deed.with_Req (⟨a0.Kind, 0, 0, 0, false⟩ : Deed) a0.Req)))) hb3214 (by decide) ?_
          refine L_pick_f (rfl : _ = Value.bool (decide (a0 = (Deed.with_Req (⟨a0.Kind, 0, 0, 0, false⟩ : Deed) a0.Req)))) hb3214 (rfl : _ = Value.bool (false)) (by decide) ?_
          refine L_move (rfl : _ = Value.bool (false)) (by decide) ?_
          refine L_gf (e := 77) (by rfl) (by decide) (rfl : _ = Value.bool (false)) rfl (by decide) ?_
          refine L_gf (e := 77) (by rfl) (by decide) (rfl : _ = Value.bool (false)) rfl (by decide) ?_
          refine L_gf (e := 77) (by rfl) (by decide) (rfl : _ = Value.bool (false)) rfl (by decide) ?_
          refine L_gf (e := 77) (by rfl) (by decide) (rfl : _ = Value.bool (false)) rfl (by decide) ?_
          refine L_pick_f (rfl : _ = Value.bool (false)) rfl (rfl : _ = Value.bool (false)) (by decide) ?_
          refine L_move (rfl : _ = Value.bool (false)) (by decide) ?_
          refine L_gf (e := 83) (by rfl) (by decide) (rfl : _ = Value.bool (false)) rfl (by decide) ?_
          refine L_gf (e := 83) (by rfl) (by decide) (rfl : _ = Value.bool (false)) rfl (by decide) ?_
          refine L_gf (e := 83) (by rfl) (by decide) (rfl : _ = Value.bool (false)) rfl (by decide) ?_
          refine L_gf (e := 83) (by rfl) (by decide) (rfl : _ = Value.bool (false)) rfl (by decide) ?_
          refine L_pick_f (rfl : _ = Value.bool (false)) rfl (rfl : _ = Value.bool (false)) (by decide) ?_
          refine L_assign (rfl : _ = Value.bool (false)) (by decide) ?_
          refine L_nil ?_
          exact then_n ⟨s3204, false, rfl, hE3205, (Le.refl _), Option.some.inj hr, rfl⟩
        ·rintro f3234 w3235 ⟨s3230, x3206, rfl, hE3232, l3231, ho3208, g3233_6⟩
         subst ho3208
         have hr := hq3209
         try dsimp only at hr
         refine W_ret ?_
         refine block_r ?_
         refine then_r ?_
         obtain rfl := Option.some.inj hr
         exact done1 (Or.inl rfl) Try.results58 g3233_6 ⟨_, _, rfl, rfl, hE3232, Vbool⟩
       ·have hr := ite_f hb3199 hr
        refine W_seq ?_
        refine W_region ?_
        refine L_eql (rfl : _ = Value.int .i64 (a0.Kind)) (rfl : _ = Value.int .i64 (6)) (by decide) ?_
        refine L_assign (rfl : _ = Value.bool (decide (a0.Kind = 6))) (by decide) ?_
        refine L_nil ?_
        refine then_n ?_
        refine W_cond _ (rfl : _ = Value.bool (decide (a0.Kind = 6))) (fun hb3236 => ?_) (fun hb3236 => ?_)
        ·have hr := ite_t hb3236 hr
         refine W_seq ?_
         refine W_region ?_
         refine L_load ty64 g31_3 (hp3.mono (l16.trans (l29.trans (e35.le.trans (e43.le.trans e49.le))))) (by decide) ?_
         intro v3237 hv3238
         refine L_load_var ty64 (rfl : _ = Value.pointer (some ⟨b44, 0, none⟩)) (hv50) (by decide) ?_
         intro v3239 hv3240
         refine L_seq64 (rfl : _ = v3237) hv3238 (rfl : _ = v3239) hv3240 (by decide) ?_
         refine L_assign (rfl : _ = Value.bool (decide (a0 = (⟨a0.Kind, 0, 0, 0, false⟩ : Deed)))) (by decide) ?_
         refine L_nil ?_
         refine then_n ?_
         refine W_ret ?_
         refine block_r ?_
         refine then_r ?_
         obtain rfl := Option.some.inj hr
         exact done1 (Or.inl rfl) Try.results58 rfl ⟨_, _, rfl, rfl, hE52, Vbool⟩
        ·have hr := ite_f hb3236 hr
         refine W_seq ?_
         refine W_region ?_
         refine L_assign (rfl : _ = Value.bool (false)) (by decide) ?_
         refine L_nil ?_
         refine then_n ?_
         refine W_ret ?_
         refine block_r ?_
         refine then_r ?_
         obtain rfl := Option.some.inj hr
         exact done1 (Or.inl rfl) Try.results58 rfl ⟨_, _, rfl, rfl, hE52, Vbool⟩

end Go.Arm
