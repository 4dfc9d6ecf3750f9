/- Each function of the program computes what its plain function says. -/
import Derived.Test.YtmojccilbgjngaaPrfT5a
namespace Go.Arm
open Go Go.RowKit Go.Proofs
theorem dead_Check_ok (N : Nat) (s0 : St) (w0 : Value) (a0 : List (List Deed)) (h0 : V s0 w0 a0) (r : Int) (hr : dead_Check N a0 = some r) :
  Calls Try.prog 27 #[w0] s0.w (Ret s0 fun v s => V s v r) := by
 unfold dead_Check at hr
 have hE0 := Ext.refl s0
 refine Calls_of (n := 50) (args := [w0]) Try.func27 rfl rfl (by simp) ?_
 refine W_seq ?_
 refine W_region ?_
 refine L_assign (rfl : _ = Value.int .i64 (0)) (by decide) ?_
 refine L_nil ?_
 refine then_n ?_
 refine W_seq ?_
 obtain ⟨o2, ho3, hq4⟩ := bind_some hr
 refine W_seq_cut (fun f w => ∃ (s : St) (x1 : Bool), s.w = w ∧ Ext s0 s ∧ Le s0 s ∧ x1 = o2 ∧ f 16 = Value.bool x1 ∧ f 0 = w0) ?_ ?_
 ·have hr := ho3
  refine W_region ?_
  refine L_move (rfl : _ = w0) (by decide) ?_
  refine L_len Try.underlying29 (rfl : _ = w0) h0 (by decide) ?_
  refine L_lss (rfl : _ = Value.int .i64 ((a0.length : Int))) (rfl : _ = Value.int .i64 (1)) (by decide) ?_
  refine L_move (rfl : _ = Value.bool (decide ((a0.length : Int) < 1))) (by decide) ?_
  rcases Bool.eq_false_or_eq_true (decide ((a0.length : Int) < 1)) with hb5 | hb5
  ·have hr := ite_t hb5 hr
   refine L_gf (e := 12) (by rfl) (by decide) (rfl : _ = Value.bool (decide ((a0.length : Int) < 1))) hb5 (by decide) ?_
   refine L_gf (e := 12) (by rfl) (by decide) (rfl : _ = Value.bool (decide ((a0.length : Int) < 1))) hb5 (by decide) ?_
   refine L_gf (e := 12) (by rfl) (by decide) (rfl : _ = Value.bool (decide ((a0.length : Int) < 1))) hb5 (by decide) ?_
   refine L_pick_t (rfl : _ = Value.bool (decide ((a0.length : Int) < 1))) hb5 (rfl : _ = Value.bool (true)) (by decide) ?_
   refine L_nil ?_
   exact then_n ⟨s0, true, rfl, hE0, (Le.refl _), Option.some.inj hr, rfl, rfl⟩
  ·have hr := ite_f hb5 hr
   refine L_gt (e := 12) (by rfl) (by decide) (rfl : _ = Value.bool (decide ((a0.length : Int) < 1))) hb5 ?_
   refine L_move (rfl : _ = w0) (by decide) ?_
   refine L_gt (e := 12) (by rfl) (by decide) (rfl : _ = Value.bool (decide ((a0.length : Int) < 1))) hb5 ?_
   refine L_len Try.underlying29 (rfl : _ = w0) h0 (by decide) ?_
   refine L_gt (e := 12) (by rfl) (by decide) (rfl : _ = Value.bool (decide ((a0.length : Int) < 1))) hb5 ?_
   refine L_gtr (rfl : _ = Value.int .i64 ((a0.length : Int))) (rfl : _ = Value.int .i64 (64)) (by decide) ?_
   refine L_pick_f (rfl : _ = Value.bool (decide ((a0.length : Int) < 1))) hb5 (rfl : _ = Value.bool (decide (64 < (a0.length : Int)))) (by decide) ?_
   refine L_nil ?_
   exact then_n ⟨s0, (decide (64 < (a0.length : Int))), rfl, hE0, (Le.refl _), Option.some.inj hr, rfl, rfl⟩
 ·rintro f200 w201 ⟨s6, x1, rfl, hE8, l7, ho3, g9_16, g9_0⟩
  subst ho3
  have hr := hq4
  try dsimp only at hr
  refine W_cond _ g9_16 (fun hb10 => ?_) (fun hb10 => ?_)
  ·have hr := ite_t hb10 hr
   refine W_seq ?_
   refine W_region ?_
   refine L_assign (rfl : _ = Value.int .i64 (3)) (by decide) ?_
   refine L_nil ?_
   refine then_n ?_
   refine W_ret ?_
   refine then_r ?_
   obtain rfl := Option.some.inj hr
   exact done1 (Or.inl rfl) Try.results27 rfl ⟨_, _, rfl, rfl, hE8, Vint⟩
  ·have hr := ite_f hb10 hr
   refine W_skip ?_
   refine then_n ?_
   refine W_seq ?_
   refine W_seq ?_
   refine W_region ?_
   refine L_move g9_0 (by decide) ?_
   refine L_len Try.underlying29 (rfl : _ = w0) (h0.mono l7) (by decide) ?_
   refine L_move (rfl : _ = Value.int .i64 (0)) (by decide) ?_
   refine L_nil ?_
   refine then_n ?_
   obtain ⟨o12, ho13, hq15⟩ := bind_some hr
   refine W_cut (fun f w => ∃ (s : St), s.w = w ∧ Ext s0 s ∧ Le s6 s ∧ Sum.inl () = o12 ∧ f 0 = w0) ?_ ?_
   ·refine W_block ?_
    refine W_loop (fun m f w => ∃ (s : St) (x11 : Int), s.w = w ∧ Ext s0 s ∧ Le s6 s ∧ dead_Check_l1 N a0 m x11 = some o12 ∧ f 19 = Value.int .i64 x11 ∧ f 0 = w0 ∧ f 17 = w0 ∧ f 18 = Value.int .i64 ((a0.length : Int))) N ⟨s6, 0, rfl, hE8, (Le.refl _), ho13, rfl, g9_0, rfl, rfl⟩ ?_
    rintro m14 f32 w33 ⟨s17, x11, rfl, hE19, l18, hr, g20_19, g20_0, g20_17, g20_18⟩
    cases m14 with
    | zero => exact absurd hr (by simp [dead_Check_l1])
    | succ m14 =>
     rw [dead_Check_l1.eq_2] at hr
     refine W_seq ?_
     refine W_region ?_
     refine L_lss g20_19 g20_18 (by decide) ?_
     refine L_nil ?_
     refine then_n ?_
     refine W_seq ?_
     refine W_cond _ (rfl : _ = Value.bool (decide (x11 < (a0.length : Int)))) (fun hb21 => ?_) (fun hb21 => ?_)
     ·have hr := ite_t hb21 hr
      refine W_skip ?_
      refine then_n ?_
      refine W_seq ?_
      refine W_block ?_
      refine W_seq ?_
      refine W_region ?_
      obtain ⟨y22, hy23, hr⟩ := bind_some hr
      refine L_index Try.underlying29 ty59.inf g20_17 (h0.mono (l7.trans l18)) g20_19 hy23 (by decide) ?_
      intro p24 hp25
      refine L_load ty59 (rfl : _ = p24) hp25 (by decide) ?_
      intro v26 hv27
      refine L_assign (rfl : _ = v26) (by decide) ?_
      refine L_nil ?_
      refine then_n ?_
      refine W_seq ?_
      refine W_region ?_
      refine L_move (rfl : _ = v26) (by decide) ?_
      refine L_len Try.underlying59 (rfl : _ = v26) hv27 (by decide) ?_
      refine L_gtr (rfl : _ = Value.int .i64 ((y22.length : Int))) (rfl : _ = Value.int .i64 (200)) (by decide) ?_
      refine L_nil ?_
      refine then_n ?_
      refine W_cond _ (rfl : _ = Value.bool (decide (200 < (y22.length : Int)))) (fun hb28 => ?_) (fun hb28 => ?_)
      ·have hr := ite_t hb28 hr
       refine W_seq ?_
       refine W_region ?_
       refine L_assign (rfl : _ = Value.int .i64 (9)) (by decide) ?_
       refine L_nil ?_
       refine then_n ?_
       refine W_ret ?_
       refine block_r ?_
       refine then_r ?_
       refine then_r ?_
       refine block_r ?_
       obtain rfl := Option.some.inj hr
       have hr := hq15
       try dsimp only at hr
       refine then_r ?_
       refine then_r ?_
       obtain rfl := Option.some.inj hr
       exact done1 (Or.inl rfl) Try.results27 rfl ⟨_, _, rfl, rfl, hE19, Vint⟩
      ·have hr := ite_f hb28 hr
       refine W_skip ?_
       refine block_n ?_
       refine then_n ?_
       refine W_region ?_
       obtain ⟨hc29, hr⟩ := chk_some hr
       refine L_add g20_19 (rfl : _ = Value.int .i64 (1)) hc29 (by decide) ?_
       refine L_move (rfl : _ = Value.int .i64 (x11 + 1)) (by decide) ?_
       refine L_nil ?_
       exact then_n ⟨m14, Nat.lt_succ_self _, ⟨s17, (x11 + 1), rfl, hE19, l18, hr, rfl, g20_0, g20_17, g20_18⟩⟩
     ·have hr := ite_f hb21 hr
      refine W_exit ?_
      refine then_x ?_
      refine then_x ?_
      refine block_here ?_
      exact then_n ⟨s17, rfl, hE19, l18, Option.some.inj hr, g20_0⟩
   ·rintro f30 w31 ⟨s34, rfl, hE36, l35, ho13, g37_0⟩
    subst ho13
    have hr := hq15
    try dsimp only at hr
    refine then_n ?_
    refine W_seq ?_
    refine W_seq ?_
    refine W_region ?_
    refine L_move g37_0 (by decide) ?_
    refine L_len Try.underlying29 (rfl : _ = w0) (h0.mono (l7.trans l35)) (by decide) ?_
    refine L_move (rfl : _ = Value.int .i64 (0)) (by decide) ?_
    refine L_nil ?_
    refine then_n ?_
    obtain ⟨o39, ho40, hq42⟩ := bind_some hr
    refine W_cut (fun f w => ∃ (s : St), s.w = w ∧ Ext s0 s ∧ Le s34 s ∧ Sum.inl () = o39) ?_ ?_
    ·refine W_block ?_
     refine W_loop (fun m f w => ∃ (s : St) (x38 : Int), s.w = w ∧ Ext s0 s ∧ Le s34 s ∧ dead_Check_l2 N a0 m x38 = some o39 ∧ f 29 = Value.int .i64 x38 ∧ f 0 = w0 ∧ f 27 = w0 ∧ f 28 = Value.int .i64 ((a0.length : Int))) N ⟨s34, 0, rfl, hE36, (Le.refl _), ho40, rfl, g37_0, rfl, rfl⟩ ?_
     rintro m41 f194 w195 ⟨s44, x38, rfl, hE46, l45, hr, g47_29, g47_0, g47_27, g47_28⟩
     cases m41 with
     | zero => exact absurd hr (by simp [dead_Check_l2])
     | succ m41 =>
      rw [dead_Check_l2.eq_2] at hr
      refine W_seq ?_
      refine W_region ?_
      refine L_lss g47_29 g47_28 (by decide) ?_
      refine L_nil ?_
      refine then_n ?_
      refine W_seq ?_
      refine W_cond _ (rfl : _ = Value.bool (decide (x38 < (a0.length : Int)))) (fun hb48 => ?_) (fun hb48 => ?_)
      ·have hr := ite_t hb48 hr
       refine W_skip ?_
       refine then_n ?_
       refine W_seq ?_
       refine W_block ?_
       refine W_seq ?_
       refine W_region ?_
       obtain ⟨y49, hy50, hr⟩ := bind_some hr
       refine L_index Try.underlying29 ty59.inf g47_27 (h0.mono (l7.trans (l35.trans l45))) g47_29 hy50 (by decide) ?_
       intro p51 hp52
       refine L_load ty59 (rfl : _ = p51) hp52 (by decide) ?_
       intro v53 hv54
       refine L_assign (rfl : _ = v53) (by decide) ?_
       refine L_nil ?_
       refine then_n ?_
       refine W_seq ?_
       refine W_region ?_
       refine L_move (rfl : _ = v53) (by decide) ?_
       refine L_len Try.underlying59 (rfl : _ = v53) hv54 (by decide) ?_
       refine L_move (rfl : _ = Value.int .i64 (0)) (by decide) ?_
       refine L_nil ?_
       refine then_n ?_
       obtain ⟨o56, ho57, hq59⟩ := bind_some hr
       refine W_cut (fun f w => ∃ (s : St), s.w = w ∧ Ext s0 s ∧ Le s44 s ∧ Sum.inl () = o56 ∧ f 0 = w0 ∧ f 27 = w0 ∧ f 28 = Value.int .i64 ((a0.length : Int)) ∧ f 29 = Value.int .i64 (x38)) ?_ ?_
       ·refine W_block ?_
        refine W_loop (fun m f w => ∃ (s : St) (x55 : Int), s.w = w ∧ Ext s0 s ∧ Le s44 s ∧ dead_Check_l3 N a0 y49 m x55 = some o56 ∧ f 35 = Value.int .i64 x55 ∧ f 0 = w0 ∧ f 6 = v53 ∧ f 27 = w0 ∧ f 28 = Value.int .i64 ((a0.length : Int)) ∧ f 29 = Value.int .i64 (x38) ∧ f 33 = v53 ∧ f 34 = Value.int .i64 ((y49.length : Int))) N ⟨s44, 0, rfl, hE46, (Le.refl _), ho57, rfl, g47_0, rfl, g47_27, g47_28, g47_29, rfl, rfl⟩ ?_
        rintro m58 f185 w186 ⟨s61, x55, rfl, hE63, l62, hr, g64_35, g64_0, g64_6, g64_27, g64_28, g64_29, g64_33, g64_34⟩
        cases m58 with
        | zero => exact absurd hr (by simp [dead_Check_l3])
        | succ m58 =>
         rw [dead_Check_l3.eq_2] at hr
         refine W_seq ?_
         refine W_region ?_
         refine L_lss g64_35 g64_34 (by decide) ?_
         refine L_nil ?_
         refine then_n ?_
         refine W_seq ?_
         refine W_cond _ (rfl : _ = Value.bool (decide (x55 < (y49.length : Int)))) (fun hb65 => ?_) (fun hb65 => ?_)
         ·have hr := ite_t hb65 hr
          refine W_skip ?_
          refine then_n ?_
          refine W_seq ?_
          refine W_block ?_
          refine W_seq ?_
          refine W_region ?_
          refine L_move g64_35 (by decide) ?_
          obtain ⟨y66, hy67, hr⟩ := bind_some hr
          refine L_index Try.underlying59 ty64.inf g64_33 (hv54.mono l62) g64_35 hy67 (by decide) ?_
          intro p68 hp69
          refine L_load ty64 (rfl : _ = p68) hp69 (by decide) ?_
          intro v70 hv71
          refine L_alloc (α := Deed) (x := ⟨0, 0, 0, 0, false⟩) zero64 Deed.zero_rel (by decide) ?_
          intro s76 b73 e72 hb74 hv75
          have hE77 := Tch.ext hE63 e72
          refine L_assign (rfl : _ = Value.int .i64 (x55)) (by decide) ?_
          refine L_store_ro ty64 (rfl : _ = Value.pointer (some ⟨b73, 0, none⟩)) (rfl : _ = v70) (hv71.mono e72.le) (hv75) ?_
          intro s80 e78 hv79
          have hE81 := Tch.trans hE77 e78 (fun k hk => Or.inr (by subst hk; exact (Nat.le_trans hE63.size hb74)))
          refine L_nil ?_
          refine then_n ?_
          refine W_seq ?_
          obtain ⟨y84, hy85, hr⟩ := bind_some hr
          obtain ⟨y88, hy89, hr⟩ := bind_some hr
          refine W_draws mixed (by kernel_rfl) [PV.data (y66 : Deed), PV.data (y49 : List Deed), PV.eq (Value.int .i64 (x55)), PV.data (y84 : List Deed), PV.data (a0 : List (List Deed)), PV.eq (Value.int .i64 ((a0.length : Int))), PV.eq (Value.bool (y88)), PV.eq (Value.bool (!y88))] (Steps_cons ?_ (Steps_cons ?_ (Steps_cons ?_ (Steps_cons ?_ (Steps_cons ?_ (Steps_cons ?_ (Steps_cons ?_ (Steps_cons ?_ Steps_nil)))))))) ?_
          ·intro f97 s95 e96 hA98 hB99 Q hk100
           have ha101 : f97 8 = Value.pointer (some ⟨b73, 0, none⟩) := (hB99 8 (by kernel_rfl)).trans rfl
           refine L_load ty64 ha101 (hv79.mono e96.le) (by decide) ?_
           intro v82 hv83
           exact L_nil (hk100 _ _ (Ext.refl s95) hv83)
          ·intro f104 s102 e103 hA105 hB106 Q hk107
           have ha108 : f104 6 = v53 := (hB106 6 (by kernel_rfl)).trans g64_6
           refine L_move ha108 (by decide) ?_
           exact L_nil (hk107 _ _ (Ext.refl s102) (hv54.mono (l62.trans (e72.le.trans (e78.le.trans e103.le)))))
          ·intro f111 s109 e110 hA112 hB113 Q hk114
           have ha115 : f111 7 = Value.int .i64 (x55) := (hB113 7 (by kernel_rfl)).trans rfl
           refine L_move ha115 (by decide) ?_
           exact L_nil (hk114 _ _ (Ext.refl s109) rfl)
          ·intro f118 s116 e117 hA119 hB120 Q hk121
           have ha122 : V _ (f118 41) (y49 : List Deed) := hA119 1 41 (by kernel_rfl) (by kernel_rfl)
           obtain ⟨v123, q124, hv125⟩ : ∃ v, _ = v ∧ V _ v _ := ⟨_, rfl, ha122⟩
           have ha126 : f118 42 = Value.int .i64 (x55) := hA119 2 42 (by kernel_rfl) (by kernel_rfl)
           refine L_slice_h Try.underlying59 ty64.inf q124 hv125 ha126 hy85 (by decide) ?_
           intro v86 hv87
           exact L_nil (hk121 _ _ (Ext.refl s116) hv87)
          ·intro f129 s127 e128 hA130 hB131 Q hk132
           have ha133 : f129 0 = w0 := (hB131 0 (by kernel_rfl)).trans g64_0
           refine L_move ha133 (by decide) ?_
           exact L_nil (hk132 _ _ (Ext.refl s127) (h0.mono (l7.trans (l35.trans (l45.trans (l62.trans (e72.le.trans (e78.le.trans e128.le))))))))
          ·intro f136 s134 e135 hA137 hB138 Q hk139
           have ha140 : V _ (f136 44) (a0 : List (List Deed)) := hA137 4 44 (by kernel_rfl) (by kernel_rfl)
           obtain ⟨v141, q142, hv143⟩ : ∃ v, _ = v ∧ V _ v _ := ⟨_, rfl, ha140⟩
           refine L_len Try.underlying29 q142 hv143 (by decide) ?_
           exact L_nil (hk139 _ _ (Ext.refl s134) rfl)
          ·intro f146 s144 e145 hA147 hB148 Q hk149
           have ha150 : V _ (f146 40) (y66 : Deed) := hA147 0 40 (by kernel_rfl) (by kernel_rfl)
           obtain ⟨v151, q152, hv153⟩ : ∃ v, _ = v ∧ V _ v _ := ⟨_, rfl, ha150⟩
           have ha154 : V _ (f146 43) (y84 : List Deed) := hA147 3 43 (by kernel_rfl) (by kernel_rfl)
           obtain ⟨v155, q156, hv157⟩ : ∃ v, _ = v ∧ V _ v _ := ⟨_, rfl, ha154⟩
           have ha158 : f146 45 = Value.int .i64 ((a0.length : Int)) := hA147 5 45 (by kernel_rfl) (by kernel_rfl)
           refine L_calls cal58 (args3 q152 q156 ha158) (dead_formed_ok N _ _ _ hv153 _ _ hv157 (a0.length : Int) y88 hy89) (by decide) ?_
           intro v90 s93 e91 hv92
           have hE94 := Tch.ext (Ext.refl s144) e91
           obtain rfl := hv92.bool
           exact L_nil (hk149 _ _ hE94 rfl)
          ·intro f161 s159 e160 hA162 hB163 Q hk164
           have ha165 : f161 46 = Value.bool (y88) := hA162 6 46 (by kernel_rfl) (by kernel_rfl)
           refine L_not ha165 (by decide) ?_
           exact L_nil (hk164 _ _ (Ext.refl s159) rfl)
          ·intro f168 s166 e167 hA169 hB170
           have hE171 := Tch.ext hE81 e167
           have ha172 : f168 0 = w0 := (hB170 0 (by kernel_rfl)).trans g64_0
           have ha173 : f168 6 = v53 := (hB170 6 (by kernel_rfl)).trans g64_6
           have ha174 : f168 27 = w0 := (hB170 27 (by kernel_rfl)).trans g64_27
           have ha175 : f168 28 = Value.int .i64 ((a0.length : Int)) := (hB170 28 (by kernel_rfl)).trans g64_28
           have ha176 : f168 29 = Value.int .i64 (x38) := (hB170 29 (by kernel_rfl)).trans g64_29
           have ha177 : f168 33 = v53 := (hB170 33 (by kernel_rfl)).trans g64_33
           have ha178 : f168 34 = Value.int .i64 ((y49.length : Int)) := (hB170 34 (by kernel_rfl)).trans g64_34
           have ha179 : f168 35 = Value.int .i64 (x55) := (hB170 35 (by kernel_rfl)).trans g64_35
           have ha180 : f168 47 = Value.bool (!y88) := hA169 7 47 (by kernel_rfl)
           refine then_n ?_
           refine W_cond _ ha180 (fun hb181 => ?_) (fun hb181 => ?_)
           ·have hr := ite_t hb181 hr
            refine W_seq ?_
            refine W_region ?_
            refine L_assign (rfl : _ = Value.int .i64 (2)) (by decide) ?_
            refine L_nil ?_
            refine then_n ?_
            refine W_ret ?_
            refine block_r ?_
            refine then_r ?_
            refine then_r ?_
            refine block_r ?_
            obtain rfl := Option.some.inj hr
            have hr := hq59
            try dsimp only at hr
            refine then_r ?_
            refine block_r ?_
            refine then_r ?_
            refine then_r ?_
            refine block_r ?_
            obtain rfl := Option.some.inj hr
            have hr := hq42
            try dsimp only at hr
            refine then_r ?_
            refine then_r ?_
            obtain rfl := Option.some.inj hr
            exact done1 (Or.inl rfl) Try.results27 rfl ⟨_, _, rfl, rfl, hE171, Vint⟩
           ·have hr := ite_f hb181 hr
            refine W_skip ?_
            refine block_n ?_
            refine then_n ?_
            refine W_region ?_
            obtain ⟨hc182, hr⟩ := chk_some hr
            refine L_add ha179 (rfl : _ = Value.int .i64 (1)) hc182 (by decide) ?_
            refine L_move (rfl : _ = Value.int .i64 (x55 + 1)) (by decide) ?_
            refine L_nil ?_
            exact then_n ⟨m58, Nat.lt_succ_self _, ⟨s166, (x55 + 1), rfl, hE171, (l62.trans (e72.le.trans (e78.le.trans e167.le))), hr, rfl, ha172, ha173, ha174, ha175, ha176, ha177, ha178⟩⟩
         ·have hr := ite_f hb65 hr
          refine W_exit ?_
          refine then_x ?_
          refine then_x ?_
          refine block_here ?_
          exact then_n ⟨s61, rfl, hE63, l62, Option.some.inj hr, g64_0, g64_27, g64_28, g64_29⟩
       ·rintro f183 w184 ⟨s187, rfl, hE189, l188, ho57, g190_0, g190_27, g190_28, g190_29⟩
        subst ho57
        have hr := hq59
        try dsimp only at hr
        refine block_n ?_
        refine then_n ?_
        refine W_region ?_
        obtain ⟨hc191, hr⟩ := chk_some hr
        refine L_add g190_29 (rfl : _ = Value.int .i64 (1)) hc191 (by decide) ?_
        refine L_move (rfl : _ = Value.int .i64 (x38 + 1)) (by decide) ?_
        refine L_nil ?_
        exact then_n ⟨m41, Nat.lt_succ_self _, ⟨s187, (x38 + 1), rfl, hE189, (l45.trans l188), hr, rfl, g190_0, g190_27, g190_28⟩⟩
      ·have hr := ite_f hb48 hr
       refine W_exit ?_
       refine then_x ?_
       refine then_x ?_
       refine block_here ?_
       exact then_n ⟨s44, rfl, hE46, l45, Option.some.inj hr⟩
    ·rintro f192 w193 ⟨s196, rfl, hE198, l197, ho40⟩
     subst ho40
     have hr := hq42
     try dsimp only at hr
     refine then_n ?_
     refine W_seq ?_
     refine W_region ?_
     refine L_assign (rfl : _ = Value.int .i64 (0)) (by decide) ?_
     refine L_nil ?_
     refine then_n ?_
     refine W_ret ?_
     obtain rfl := Option.some.inj hr
     exact done1 (Or.inl rfl) Try.results27 rfl ⟨_, _, rfl, rfl, hE198, Vint⟩

theorem dead_receives_ok (N : Nat) (s0 : St) (w0 : Value) (a0 : Deed) (h0 : V s0 w0 a0) (r : Bool) (hr : dead_receives N a0 = some r) :
  Calls Try.prog 70 #[w0] s0.w (Ret s0 fun v s => V s v r) := by
 unfold dead_receives at hr
 have hE0 := Ext.refl s0
 refine Calls_of (n := 11) (args := [w0]) Try.func70 rfl rfl (by simp) ?_
 refine W_seq ?_
 refine W_region ?_
 refine L_box (rfl : _ = w0) h0 (by decide) ?_
 intro s4 p2 e1 hp3
 have hE5 := Tch.ext hE0 e1
 refine L_assign (rfl : _ = Value.bool (false)) (by decide) ?_
 refine L_nil ?_
 refine then_n ?_
 refine W_seq ?_
 refine W_region ?_
 refine L_fieldAddr fld64_0 Deed.of_Kind (rfl : _ = p2) hp3 (by decide) ?_
 intro p6 hp7
 refine L_load_int ty3 (rfl : _ = p6) hp7 (by decide) ?_
 refine L_eql (rfl : _ = Value.int .i64 (a0.Kind)) (rfl : _ = Value.int .i64 (2)) (by decide) ?_
 refine L_move (rfl : _ = Value.bool (decide (a0.Kind = 2))) (by decide) ?_
 rcases Bool.eq_false_or_eq_true (decide (a0.Kind = 2)) with hb8 | hb8
 ·have hr := ite_t hb8 hr
  refine L_gf (e := 6) (by rfl) (by decide) (rfl : _ = Value.bool (decide (a0.Kind = 2))) hb8 (by decide) ?_
  refine L_gf (e := 6) (by rfl) (by decide) (rfl : _ = Value.bool (decide (a0.Kind = 2))) hb8 (by decide) ?_
  refine L_gf (e := 6) (by rfl) (by decide) (rfl : _ = Value.bool (decide (a0.Kind = 2))) hb8 (by decide) ?_
  refine L_pick_t (rfl : _ = Value.bool (decide (a0.Kind = 2))) hb8 (rfl : _ = Value.bool (true)) (by decide) ?_
  refine L_assign (rfl : _ = Value.bool (true)) (by decide) ?_
  refine L_nil ?_
  refine then_n ?_
  refine W_ret ?_
  obtain rfl := Option.some.inj hr
  exact done1 (Or.inl rfl) Try.results70 rfl ⟨_, _, rfl, rfl, hE5, Vbool⟩
 ·have hr := ite_f hb8 hr
  refine L_gt (e := 6) (by rfl) (by decide) (rfl : _ = Value.bool (decide (a0.Kind = 2))) hb8 ?_
  refine L_fieldAddr fld64_0 Deed.of_Kind (rfl : _ = p2) hp3 (by decide) ?_
  intro p9 hp10
  refine L_gt (e := 6) (by rfl) (by decide) (rfl : _ = Value.bool (decide (a0.Kind = 2))) hb8 ?_
  refine L_load_int ty3 (rfl : _ = p9) hp10 (by decide) ?_
  refine L_gt (e := 6) (by rfl) (by decide) (rfl : _ = Value.bool (decide (a0.Kind = 2))) hb8 ?_
  refine L_eql (rfl : _ = Value.int .i64 (a0.Kind)) (rfl : _ = Value.int .i64 (4)) (by decide) ?_
  refine L_pick_f (rfl : _ = Value.bool (decide (a0.Kind = 2))) hb8 (rfl : _ = Value.bool (decide (a0.Kind = 4))) (by decide) ?_
  refine L_assign (rfl : _ = Value.bool (decide (a0.Kind = 4))) (by decide) ?_
  refine L_nil ?_
  refine then_n ?_
  refine W_ret ?_
  obtain rfl := Option.some.inj hr
  exact done1 (Or.inl rfl) Try.results70 rfl ⟨_, _, rfl, rfl, hE5, Vbool⟩

theorem dead_open_ok (N : Nat) (s0 : St) (w0 : Value) (a0 : Deed) (h0 : V s0 w0 a0) (r : Bool) (hr : dead_open N a0 = some r) :
  Calls Try.prog 37 #[w0] s0.w (Ret s0 fun v s => V s v r) := by
 unfold dead_open at hr
 have hE0 := Ext.refl s0
 refine Calls_of (n := 10) (args := [w0]) Try.func37 rfl rfl (by simp) ?_
 refine W_seq ?_
 refine W_region ?_
 refine L_box (rfl : _ = w0) h0 (by decide) ?_
 intro s4 p2 e1 hp3
 have hE5 := Tch.ext hE0 e1
 refine L_assign (rfl : _ = Value.bool (false)) (by decide) ?_
 refine L_nil ?_
 refine then_n ?_
 refine W_seq ?_
 refine W_region ?_
 refine L_load ty64 (rfl : _ = p2) hp3 (by decide) ?_
 intro v6 hv7
 obtain ⟨y8, hy9, hr⟩ := bind_some hr
 refine L_calls cal70 (args1 (rfl : _ = v6)) (dead_receives_ok N _ _ _ hv7 y8 hy9) (by decide) ?_
 intro v10 s13 e11 hv12
 have hE14 := Tch.ext hE5 e11
 obtain rfl := hv12.bool
 refine L_move (rfl : _ = Value.bool (y8)) (by decide) ?_
 rcases Bool.eq_false_or_eq_true (y8) with hb15 | hb15
 ·have hr := ite_t hb15 hr
  refine L_gt (e := 5) (by rfl) (by decide) (rfl : _ = Value.bool (y8)) hb15 ?_
  refine L_fieldAddr fld64_1 Deed.of_Peer (rfl : _ = p2) (hp3.mono e11.le) (by decide) ?_
  intro p16 hp17
  refine L_gt (e := 5) (by rfl) (by decide) (rfl : _ = Value.bool (y8)) hb15 ?_
  refine L_load_int ty3 (rfl : _ = p16) hp17 (by decide) ?_
  refine L_gt (e := 5) (by rfl) (by decide) (rfl : _ = Value.bool (y8)) hb15 ?_
  refine L_eql (rfl : _ = Value.int .i64 (a0.Peer)) (rfl : _ = Value.int .i64 (-1)) (by decide) ?_
  refine L_pick_t (rfl : _ = Value.bool (y8)) hb15 (rfl : _ = Value.bool (decide (a0.Peer = (-1)))) (by decide) ?_
  refine L_assign (rfl : _ = Value.bool (decide (a0.Peer = (-1)))) (by decide) ?_
  refine L_nil ?_
  refine then_n ?_
  refine W_ret ?_
  obtain rfl := Option.some.inj hr
  exact done1 (Or.inl rfl) Try.results37 rfl ⟨_, _, rfl, rfl, hE14, Vbool⟩
 ·have hr := ite_f hb15 hr
  refine L_gf (e := 5) (by rfl) (by decide) (rfl : _ = Value.bool (y8)) hb15 (by decide) ?_
  refine L_gf (e := 5) (by rfl) (by decide) (rfl : _ = Value.bool (y8)) hb15 (by decide) ?_
  refine L_gf (e := 5) (by rfl) (by decide) (rfl : _ = Value.bool (y8)) hb15 (by decide) ?_
  refine L_pick_f (rfl : _ = Value.bool (y8)) hb15 (rfl : _ = Value.bool (false)) (by decide) ?_
  refine L_assign (rfl : _ = Value.bool (false)) (by decide) ?_
  refine L_nil ?_
  refine then_n ?_
  refine W_ret ?_
  obtain rfl := Option.some.inj hr
  exact done1 (Or.inl rfl) Try.results37 rfl ⟨_, _, rfl, rfl, hE14, Vbool⟩

theorem slices_IndexFunc_Llang_Deed_lang_Deed_ok (N : Nat) (s0 : St) (w0 : Value) (a0 : List Deed) (h0 : V s0 w0 a0) (w1 : Value) (a1 : Deed → Option Bool) (h1 : Fn1 Try.prog s0 w1 a1) (r : Int) (hr : slices_IndexFunc_Llang_Deed_lang_Deed N a0 a1 = some r) :
  Calls Try.prog 71 #[w0, w1] s0.w (Ret s0 fun v s => V s v r) := by
 unfold slices_IndexFunc_Llang_Deed_lang_Deed at hr
 have hE0 := Ext.refl s0
 refine Calls_of (n := 19) (args := [w0, w1]) Try.func71 rfl rfl (by simp) ?_
 refine W_seq ?_
 refine W_region ?_
 refine L_assign (rfl : _ = Value.int .i64 (0)) (by decide) ?_
 refine L_nil ?_
 refine then_n ?_
 refine W_seq ?_
 refine W_seq ?_
 refine W_region ?_
 refine L_move (rfl : _ = w0) (by decide) ?_
 refine L_len Try.underlying59 (rfl : _ = w0) h0 (by decide) ?_
 refine L_move (rfl : _ = Value.int .i64 (0)) (by decide) ?_
 refine L_nil ?_
 refine then_n ?_
 obtain ⟨o2, ho3, hq5⟩ := bind_some hr
 refine W_cut (fun f w => ∃ (s : St), s.w = w ∧ Ext s0 s ∧ Le s0 s ∧ Sum.inl () = o2) ?_ ?_
 ·refine W_block ?_
  refine W_loop (fun m f w => ∃ (s : St) (x1 : Int), s.w = w ∧ Ext s0 s ∧ Le s0 s ∧ slices_IndexFunc_Llang_Deed_lang_Deed_l1 N a0 a1 m x1 = some o2 ∧ f 8 = Value.int .i64 x1 ∧ f 0 = w0 ∧ f 1 = w1 ∧ f 7 = Value.int .i64 ((a0.length : Int))) N ⟨s0, 0, rfl, hE0, (Le.refl _), ho3, rfl, rfl, rfl, rfl⟩ ?_
  rintro m4 f29 w30 ⟨s7, x1, rfl, hE9, l8, hr, g10_8, g10_0, g10_1, g10_7⟩
  cases m4 with
  | zero => exact absurd hr (by simp [slices_IndexFunc_Llang_Deed_lang_Deed_l1])
  | succ m4 =>
   rw [slices_IndexFunc_Llang_Deed_lang_Deed_l1.eq_2] at hr
   refine W_seq ?_
   refine W_region ?_
   refine L_lss g10_8 g10_7 (by decide) ?_
   refine L_nil ?_
   refine then_n ?_
   refine W_seq ?_
   refine W_cond _ (rfl : _ = Value.bool (decide (x1 < (a0.length : Int)))) (fun hb11 => ?_) (fun hb11 => ?_)
   ·have hr := ite_t hb11 hr
    refine W_skip ?_
    refine then_n ?_
    refine W_seq ?_
    refine W_block ?_
    refine W_seq ?_
    refine W_region ?_
    refine L_move g10_8 (by decide) ?_
    refine L_assign (rfl : _ = Value.int .i64 (x1)) (by decide) ?_
    refine L_nil ?_
    refine then_n ?_
    refine W_seq ?_
    refine W_region ?_
    refine L_move g10_1 (by decide) ?_
    refine L_move g10_0 (by decide) ?_
    refine L_move (rfl : _ = Value.int .i64 (x1)) (by decide) ?_
    obtain ⟨y12, hy13, hr⟩ := bind_some hr
    refine L_index Try.underlying59 ty64.inf (rfl : _ = w0) (h0.mono l8) (rfl : _ = Value.int .i64 (x1)) hy13 (by decide) ?_
    intro p14 hp15
    refine L_load ty64 (rfl : _ = p14) hp15 (by decide) ?_
    intro v16 hv17
    obtain ⟨y18, hy19, hr⟩ := bind_some hr
    refine L_call1 (rfl : _ = w1) (h1.mono l8) (rfl : _ = v16) hv17 hy19 (by decide) ?_
    intro v20 s23 e21 hv22
    have hE24 := Tch.ext hE9 e21
    obtain rfl := hv22.bool
    refine L_nil ?_
    refine then_n ?_
    refine W_cond _ (rfl : _ = Value.bool (y18)) (fun hb25 => ?_) (fun hb25 => ?_)
    ·have hr := ite_t hb25 hr
     refine W_seq ?_
     refine W_region ?_
     refine L_move (rfl : _ = Value.int .i64 (x1)) (by decide) ?_
     refine L_assign (rfl : _ = Value.int .i64 (x1)) (by decide) ?_
     refine L_nil ?_
     refine then_n ?_
     refine W_ret ?_
     refine block_r ?_
     refine then_r ?_
     refine then_r ?_
     refine block_r ?_
     obtain rfl := Option.some.inj hr
     have hr := hq5
     try dsimp only at hr
     refine then_r ?_
     refine then_r ?_
     obtain rfl := Option.some.inj hr
     exact done1 (Or.inl rfl) Try.results71 rfl ⟨_, _, rfl, rfl, hE24, Vint⟩
    ·have hr := ite_f hb25 hr
     refine W_skip ?_
     refine block_n ?_
     refine then_n ?_
     refine W_region ?_
     obtain ⟨hc26, hr⟩ := chk_some hr
     refine L_add g10_8 (rfl : _ = Value.int .i64 (1)) hc26 (by decide) ?_
     refine L_move (rfl : _ = Value.int .i64 (x1 + 1)) (by decide) ?_
     refine L_nil ?_
     exact then_n ⟨m4, Nat.lt_succ_self _, ⟨s23, (x1 + 1), rfl, hE24, (l8.trans e21.le), hr, rfl, g10_0, g10_1, g10_7⟩⟩
   ·have hr := ite_f hb11 hr
    refine W_exit ?_
    refine then_x ?_
    refine then_x ?_
    refine block_here ?_
    exact then_n ⟨s7, rfl, hE9, l8, Option.some.inj hr⟩
 ·rintro f27 w28 ⟨s31, rfl, hE33, l32, ho3⟩
  subst ho3
  have hr := hq5
  try dsimp only at hr
  refine then_n ?_
  refine W_seq ?_
  refine W_region ?_
  refine L_assign (rfl : _ = Value.int .i64 (-1)) (by decide) ?_
  refine L_nil ?_
  refine then_n ?_
  refine W_ret ?_
  obtain rfl := Option.some.inj hr
  exact done1 (Or.inl rfl) Try.results71 rfl ⟨_, _, rfl, rfl, hE33, Vint⟩

theorem slices_ContainsFunc_Llang_Deed_lang_Deed_ok (N : Nat) (s0 : St) (w0 : Value) (a0 : List Deed) (h0 : V s0 w0 a0) (w1 : Value) (a1 : Deed → Option Bool) (h1 : Fn1 Try.prog s0 w1 a1) (r : Bool) (hr : slices_ContainsFunc_Llang_Deed_lang_Deed N a0 a1 = some r) :
  Calls Try.prog 38 #[w0, w1] s0.w (Ret s0 fun v s => V s v r) := by
 unfold slices_ContainsFunc_Llang_Deed_lang_Deed at hr
 have hE0 := Ext.refl s0
 refine Calls_of (n := 9) (args := [w0, w1]) Try.func38 rfl rfl (by simp) ?_
 refine W_seq ?_
 refine W_region ?_
 refine L_assign (rfl : _ = Value.bool (false)) (by decide) ?_
 refine L_nil ?_
 refine then_n ?_
 refine W_seq ?_
 refine W_region ?_
 refine L_move (rfl : _ = w0) (by decide) ?_
 refine L_move (rfl : _ = w1) (by decide) ?_
 obtain ⟨y1, hy2, hr⟩ := bind_some hr
 refine L_calls cal71 (args2 (rfl : _ = w0) (rfl : _ = w1)) (slices_IndexFunc_Llang_Deed_lang_Deed_ok N _ _ _ h0 _ a1 h1 y1 hy2) (by decide) ?_
 intro v3 s6 e4 hv5
 have hE7 := Tch.ext hE0 e4
 obtain rfl := hv5.int
 refine L_geq (rfl : _ = Value.int .i64 (y1)) (rfl : _ = Value.int .i64 (0)) (by decide) ?_
 refine L_assign (rfl : _ = Value.bool (decide (0 ≤ y1))) (by decide) ?_
 refine L_nil ?_
 refine then_n ?_
 refine W_ret ?_
 obtain rfl := Option.some.inj hr
 exact done1 (Or.inl rfl) Try.results38 rfl ⟨_, _, rfl, rfl, hE7, Vbool⟩

theorem dead_newRun_ok (N : Nat) (s0 : St) (w0 : Value) (a0 : List (List Deed)) (h0 : V s0 w0 a0) (a1 : Int) (r : (Option Run) × Int) (hr : dead_newRun N a0 a1 = some r) :
  Calls Try.prog 31 #[w0, .int .i64 a1] s0.w (Ret s0 fun v s => ∃ a b, v = .tuple #[a, b] ∧ ObjO Run.with_at_ 2 Run.at_ 3 s0.w.heap.size s a r.1 ∧ V s b r.2) := by
 unfold dead_newRun at hr
 have hE0 := Ext.refl s0
 refine Calls_of (n := 32) (args := [w0, .int .i64 a1]) Try.func31 rfl rfl (by simp) ?_
 refine W_seq ?_
 refine W_region ?_
 refine L_assign (rfl : _ = Value.pointer none) (by decide) ?_
 refine L_assign (rfl : _ = Value.int .i64 (0)) (by decide) ?_
 refine L_nil ?_
 refine then_n ?_
 refine W_seq ?_
 refine W_seq ?_
 refine W_region ?_
 refine L_move (rfl : _ = w0) (by decide) ?_
 obtain ⟨y1, hy2, hr⟩ := bind_some hr
 refine L_calls cal27 (args1 (rfl : _ = w0)) (dead_Check_ok N _ _ _ h0 y1 hy2) (by decide) ?_
 intro v3 s6 e4 hv5
 have hE7 := Tch.ext hE0 e4
 obtain rfl := hv5.int
 refine L_assign (rfl : _ = Value.int .i64 (y1)) (by decide) ?_
 refine L_nil ?_
 refine then_n ?_
 refine W_seq ?_
 refine W_region ?_
 refine L_move (rfl : _ = Value.int .i64 (y1)) (by decide) ?_
 refine L_neq (rfl : _ = Value.int .i64 (y1)) (rfl : _ = Value.int .i64 (0)) (by decide) ?_
 refine L_nil ?_
 refine then_n ?_
 refine W_cond _ (rfl : _ = Value.bool (!decide (y1 = 0))) (fun hb8 => ?_) (fun hb8 => ?_)
 ·have hr := ite_t hb8 hr
  refine W_seq ?_
  refine W_region ?_
  refine L_move (rfl : _ = Value.int .i64 (y1)) (by decide) ?_
  refine L_assign (rfl : _ = Value.pointer none) (by decide) ?_
  refine L_assign (rfl : _ = Value.int .i64 (y1)) (by decide) ?_
  refine L_nil ?_
  refine then_n ?_
  refine W_ret ?_
  refine then_r ?_
  obtain rfl := Option.some.inj hr
  exact done2 (Or.inl rfl) Try.results31 rfl rfl ⟨_, _, rfl, rfl, hE7, _, _, rfl, Or.inl ⟨rfl, rfl⟩, Vint⟩
 ·have hr := ite_f hb8 hr
  refine W_skip ?_
  refine then_n ?_
  refine W_seq ?_
  refine W_seq ?_
  refine W_region ?_
  refine L_move (rfl : _ = w0) (by decide) ?_
  refine L_len Try.underlying29 (rfl : _ = w0) (h0.mono e4.le) (by decide) ?_
  refine L_move (rfl : _ = Value.int .i64 (0)) (by decide) ?_
  refine L_nil ?_
  refine then_n ?_
  obtain ⟨o10, ho11, hq13⟩ := bind_some hr
  refine W_cut (fun f w => ∃ (s : St), s.w = w ∧ Ext s0 s ∧ Le s6 s ∧ Sum.inl () = o10 ∧ f 0 = w0 ∧ f 1 = Value.int .i64 (a1)) ?_ ?_
  ·refine W_block ?_
   refine W_loop (fun m f w => ∃ (s : St) (x9 : Int), s.w = w ∧ Ext s0 s ∧ Le s6 s ∧ dead_newRun_l1 N a0 m x9 = some o10 ∧ f 16 = Value.int .i64 x9 ∧ f 0 = w0 ∧ f 1 = Value.int .i64 (a1) ∧ f 14 = w0 ∧ f 15 = Value.int .i64 ((a0.length : Int))) N ⟨s6, 0, rfl, hE7, (Le.refl _), ho11, rfl, rfl, rfl, rfl, rfl⟩ ?_
   rintro m12 f37 w38 ⟨s15, x9, rfl, hE17, l16, hr, g18_16, g18_0, g18_1, g18_14, g18_15⟩
   cases m12 with
   | zero => exact absurd hr (by simp [dead_newRun_l1])
   | succ m12 =>
    rw [dead_newRun_l1.eq_2] at hr
    refine W_seq ?_
    refine W_region ?_
    refine L_lss g18_16 g18_15 (by decide) ?_
    refine L_nil ?_
    refine then_n ?_
    refine W_seq ?_
    refine W_cond _ (rfl : _ = Value.bool (decide (x9 < (a0.length : Int)))) (fun hb19 => ?_) (fun hb19 => ?_)
    ·have hr := ite_t hb19 hr
     refine W_skip ?_
     refine then_n ?_
     refine W_seq ?_
     refine W_block ?_
     refine W_seq ?_
     refine W_region ?_
     obtain ⟨y20, hy21, hr⟩ := bind_some hr
     refine L_index Try.underlying29 ty59.inf g18_14 (h0.mono (e4.le.trans l16)) g18_16 hy21 (by decide) ?_
     intro p22 hp23
     refine L_load ty59 (rfl : _ = p22) hp23 (by decide) ?_
     intro v24 hv25
     refine L_assign (rfl : _ = v24) (by decide) ?_
     refine L_nil ?_
     refine then_n ?_
     refine W_seq ?_
     refine W_region ?_
     refine L_move (rfl : _ = v24) (by decide) ?_
     obtain ⟨y26, hy27, hr⟩ := bind_some hr
     refine L_calls cal38 (args2 (rfl : _ = v24) (rfl : _ = Value.func (.func 37) #[] #[])) (slices_ContainsFunc_Llang_Deed_lang_Deed_ok N _ _ _ hv25 _ (fun x => dead_open N x ) (Fn1.mk0 cal37 fun t vx x r hl hv hr => dead_open_ok N t vx x hv  r hr) y26 hy27) (by decide) ?_
     intro v28 s31 e29 hv30
     have hE32 := Tch.ext hE17 e29
     obtain rfl := hv30.bool
     refine L_nil ?_
     refine then_n ?_
     refine W_cond _ (rfl : _ = Value.bool (y26)) (fun hb33 => ?_) (fun hb33 => ?_)
     ·have hr := ite_t hb33 hr
      refine W_seq ?_
      refine W_region ?_
      refine L_assign (rfl : _ = Value.pointer none) (by decide) ?_
      refine L_assign (rfl : _ = Value.int .i64 (6)) (by decide) ?_
      refine L_nil ?_
      refine then_n ?_
      refine W_ret ?_
      refine block_r ?_
      refine then_r ?_
      refine then_r ?_
      refine block_r ?_
      obtain rfl := Option.some.inj hr
      have hr := hq13
      try dsimp only at hr
      refine then_r ?_
      refine then_r ?_
      obtain rfl := Option.some.inj hr
      exact done2 (Or.inl rfl) Try.results31 rfl rfl ⟨_, _, rfl, rfl, hE32, _, _, rfl, Or.inl ⟨rfl, rfl⟩, Vint⟩
     ·have hr := ite_f hb33 hr
      refine W_skip ?_
      refine block_n ?_
      refine then_n ?_
      refine W_region ?_
      obtain ⟨hc34, hr⟩ := chk_some hr
      refine L_add g18_16 (rfl : _ = Value.int .i64 (1)) hc34 (by decide) ?_
      refine L_move (rfl : _ = Value.int .i64 (x9 + 1)) (by decide) ?_
      refine L_nil ?_
      exact then_n ⟨m12, Nat.lt_succ_self _, ⟨s31, (x9 + 1), rfl, hE32, (l16.trans e29.le), hr, rfl, g18_0, g18_1, g18_14, g18_15⟩⟩
    ·have hr := ite_f hb19 hr
     refine W_exit ?_
     refine then_x ?_
     refine then_x ?_
     refine block_here ?_
     exact then_n ⟨s15, rfl, hE17, l16, Option.some.inj hr, g18_0, g18_1⟩
  ·rintro f35 w36 ⟨s39, rfl, hE41, l40, ho11, g42_0, g42_1⟩
   subst ho11
   have hr := hq13
   try dsimp only at hr
   refine then_n ?_
   refine W_seq ?_
   refine W_seq ?_
   refine W_region ?_
   refine L_move g42_1 (by decide) ?_
   refine L_lss (rfl : _ = Value.int .i64 (a1)) (rfl : _ = Value.int .i64 (0)) (by decide) ?_
   refine L_nil ?_
   refine then_n ?_
   refine W_cond _ (rfl : _ = Value.bool (decide (a1 < 0))) (fun hb43 => ?_) (fun hb43 => ?_)
   ·have hr := ite_t hb43 hr
    refine W_seq ?_
    refine W_region ?_
    refine L_assign (rfl : _ = Value.pointer none) (by decide) ?_
    refine L_assign (rfl : _ = Value.int .i64 (3)) (by decide) ?_
    refine L_nil ?_
    refine then_n ?_
    refine W_ret ?_
    refine then_r ?_
    obtain rfl := Option.some.inj hr
    exact done2 (Or.inl rfl) Try.results31 rfl rfl ⟨_, _, rfl, rfl, hE41, _, _, rfl, Or.inl ⟨rfl, rfl⟩, Vint⟩
   ·have hr := ite_f hb43 hr
    refine W_skip ?_
    refine then_n ?_
    refine W_seq ?_
    refine W_region ?_
    refine L_move g42_0 (by decide) ?_
    refine L_move g42_1 (by decide) ?_
    refine L_move g42_0 (by decide) ?_
    refine L_len Try.underlying29 (rfl : _ = w0) (h0.mono (e4.le.trans l40)) (by decide) ?_
    obtain ⟨hc44, hr⟩ := chk_some hr
    refine L_makeArr (x0 := (0 : Int)) Try.underlying23 tyz3 (rfl : _ = Value.int .i64 ((a0.length : Int))) hc44.1 hc44.2.1 hc44.2.2 (fun _ => rfl) (by decide) ?_
    intro s49 b46 e45 hb47 hv48
    have hE50 := Tch.ext hE41 e45
    refine L_raw72 (rfl : _ = w0) (rfl : _ = Value.int .i64 (a1)) (rfl : _ = Value.slice (some ⟨b46, 0, none⟩) ((a0.length : Int)).toNat ((a0.length : Int)).toNat) ((h0.mono (e4.le.trans (l40.trans e45.le))) : V s49 _ (a0 : List (List Deed))) (Vint : V s49 _ (a1 : Int)) (by decide) ?_
    refine L_box_raw (cs := [w0, Value.int .i64 (a1), Value.slice (some ⟨b46, 0, none⟩) ((a0.length : Int)).toNat ((a0.length : Int)).toNat]) (rfl : _ = Value.agg #[w0, Value.int .i64 (a1), Value.slice (some ⟨b46, 0, none⟩) ((a0.length : Int)).toNat ((a0.length : Int)).toNat]) (by decide) ?_
    intro s55 b52 e51 hp53
    have hE56 := Tch.ext hE50 e51
    have hs54 := Run.shell (x := (⟨a0, a1, (List.replicate ((a0.length : Int)).toNat (0 : Int))⟩ : Run)) hp53 (((h0.mono (e4.le.trans (l40.trans e45.le))) : V s49 _ (a0 : List (List Deed))).mono e51.le) ((Vint : V s49 _ (a1 : Int)).mono e51.le)
    refine L_assign (rfl : _ = (Value.pointer (some ⟨b52, 0, none⟩))) (by decide) ?_
    refine L_assign (rfl : _ = Value.int .i64 (0)) (by decide) ?_
    refine L_nil ?_
    refine then_n ?_
    refine W_ret ?_
    obtain rfl := Option.some.inj hr
    exact done2 (Or.inl rfl) Try.results31 rfl rfl ⟨_, _, rfl, rfl, hE56, _, _, rfl, Or.inr ⟨_, _, rfl, (Nat.le_trans hE41.size hb47), hs54.at (fun _ => rfl) ((hv48).ext e51), ((hv48).ext e51).self⟩, Vint⟩

theorem dead_sends_ok (N : Nat) (s0 : St) (w0 : Value) (a0 : Deed) (h0 : V s0 w0 a0) (r : Bool) (hr : dead_sends N a0 = some r) :
  Calls Try.prog 40 #[w0] s0.w (Ret s0 fun v s => V s v r) := by
 unfold dead_sends at hr
 have hE0 := Ext.refl s0
 refine Calls_of (n := 11) (args := [w0]) Try.func40 rfl rfl (by simp) ?_
 refine W_seq ?_
 refine W_region ?_
 refine L_box (rfl : _ = w0) h0 (by decide) ?_
 intro s4 p2 e1 hp3
 have hE5 := Tch.ext hE0 e1
 refine L_assign (rfl : _ = Value.bool (false)) (by decide) ?_
 refine L_nil ?_
 refine then_n ?_
 refine W_seq ?_
 refine W_region ?_
 refine L_fieldAddr fld64_0 Deed.of_Kind (rfl : _ = p2) hp3 (by decide) ?_
 intro p6 hp7
 refine L_load_int ty3 (rfl : _ = p6) hp7 (by decide) ?_
 refine L_eql (rfl : _ = Value.int .i64 (a0.Kind)) (rfl : _ = Value.int .i64 (1)) (by decide) ?_
 refine L_move (rfl : _ = Value.bool (decide (a0.Kind = 1))) (by decide) ?_
 rcases Bool.eq_false_or_eq_true (decide (a0.Kind = 1)) with hb8 | hb8
 ·have hr := ite_t hb8 hr
  refine L_gf (e := 6) (by rfl) (by decide) (rfl : _ = Value.bool (decide (a0.Kind = 1))) hb8 (by decide) ?_
  refine L_gf (e := 6) (by rfl) (by decide) (rfl : _ = Value.bool (decide (a0.Kind = 1))) hb8 (by decide) ?_
  refine L_gf (e := 6) (by rfl) (by decide) (rfl : _ = Value.bool (decide (a0.Kind = 1))) hb8 (by decide) ?_
  refine L_pick_t (rfl : _ = Value.bool (decide (a0.Kind = 1))) hb8 (rfl : _ = Value.bool (true)) (by decide) ?_
  refine L_assign (rfl : _ = Value.bool (true)) (by decide) ?_
  refine L_nil ?_
  refine then_n ?_
  refine W_ret ?_
  obtain rfl := Option.some.inj hr
  exact done1 (Or.inl rfl) Try.results40 rfl ⟨_, _, rfl, rfl, hE5, Vbool⟩
 ·have hr := ite_f hb8 hr
  refine L_gt (e := 6) (by rfl) (by decide) (rfl : _ = Value.bool (decide (a0.Kind = 1))) hb8 ?_
  refine L_fieldAddr fld64_0 Deed.of_Kind (rfl : _ = p2) hp3 (by decide) ?_
  intro p9 hp10
  refine L_gt (e := 6) (by rfl) (by decide) (rfl : _ = Value.bool (decide (a0.Kind = 1))) hb8 ?_
  refine L_load_int ty3 (rfl : _ = p9) hp10 (by decide) ?_
  refine L_gt (e := 6) (by rfl) (by decide) (rfl : _ = Value.bool (decide (a0.Kind = 1))) hb8 ?_
  refine L_eql (rfl : _ = Value.int .i64 (a0.Kind)) (rfl : _ = Value.int .i64 (3)) (by decide) ?_
  refine L_pick_f (rfl : _ = Value.bool (decide (a0.Kind = 1))) hb8 (rfl : _ = Value.bool (decide (a0.Kind = 3))) (by decide) ?_
  refine L_assign (rfl : _ = Value.bool (decide (a0.Kind = 3))) (by decide) ?_
  refine L_nil ?_
  refine then_n ?_
  refine W_ret ?_
  obtain rfl := Option.some.inj hr
  exact done1 (Or.inl rfl) Try.results40 rfl ⟨_, _, rfl, rfl, hE5, Vbool⟩

theorem dead_fits_ok (N : Nat) (s0 : St) (w0 : Value) (a0 : Deed) (h0 : V s0 w0 a0) (w1 : Value) (a1 : Deed) (h1 : V s0 w1 a1) (r : Bool) (hr : dead_fits N a0 a1 = some r) :
  Calls Try.prog 41 #[w0, w1] s0.w (Ret s0 fun v s => V s v r) := by
 unfold dead_fits at hr
 have hE0 := Ext.refl s0
 refine Calls_of (n := 15) (args := [w0, w1]) Try.func41 rfl rfl (by simp) ?_
 refine W_seq ?_
 refine W_region ?_
 refine L_box (rfl : _ = w0) h0 (by decide) ?_
 intro s4 p2 e1 hp3
 have hE5 := Tch.ext hE0 e1
 refine L_box (rfl : _ = w1) (h1.mono e1.le) (by decide) ?_
 intro s9 p7 e6 hp8
 have hE10 := Tch.ext hE5 e6
 refine L_assign (rfl : _ = Value.bool (false)) (by decide) ?_
 refine L_nil ?_
 refine then_n ?_
 refine W_seq ?_
 refine W_region ?_
 refine L_fieldAddr fld64_2 Deed.of_Tag (rfl : _ = p7) hp8 (by decide) ?_
 intro p11 hp12
 refine L_load_int ty3 (rfl : _ = p11) hp12 (by decide) ?_
 refine L_eql (rfl : _ = Value.int .i64 (a1.Tag)) (rfl : _ = Value.int .i64 (-1)) (by decide) ?_
 refine L_move (rfl : _ = Value.bool (decide (a1.Tag = (-1)))) (by decide) ?_
 rcases Bool.eq_false_or_eq_true (decide (a1.Tag = (-1))) with hb13 | hb13
 ·have hr := ite_t hb13 hr
  refine L_gf (e := 8) (by rfl) (by decide) (rfl : _ = Value.bool (decide (a1.Tag = (-1)))) hb13 (by decide) ?_
  refine L_gf (e := 8) (by rfl) (by decide) (rfl : _ = Value.bool (decide (a1.Tag = (-1)))) hb13 (by decide) ?_
  refine L_gf (e := 8) (by rfl) (by decide) (rfl : _ = Value.bool (decide (a1.Tag = (-1)))) hb13 (by decide) ?_
  refine L_gf (e := 8) (by rfl) (by decide) (rfl : _ = Value.bool (decide (a1.Tag = (-1)))) hb13 (by decide) ?_
  refine L_gf (e := 8) (by rfl) (by decide) (rfl : _ = Value.bool (decide (a1.Tag = (-1)))) hb13 (by decide) ?_
  refine L_pick_t (rfl : _ = Value.bool (decide (a1.Tag = (-1)))) hb13 (rfl : _ = Value.bool (true)) (by decide) ?_
  refine L_assign (rfl : _ = Value.bool (true)) (by decide) ?_
  refine L_nil ?_
  refine then_n ?_
  refine W_ret ?_
  obtain rfl := Option.some.inj hr
  exact done1 (Or.inl rfl) Try.results41 rfl ⟨_, _, rfl, rfl, hE10, Vbool⟩
 ·have hr := ite_f hb13 hr
  refine L_gt (e := 8) (by rfl) (by decide) (rfl : _ = Value.bool (decide (a1.Tag = (-1)))) hb13 ?_
  refine L_fieldAddr fld64_2 Deed.of_Tag (rfl : _ = p7) hp8 (by decide) ?_
  intro p14 hp15
  refine L_gt (e := 8) (by rfl) (by decide) (rfl : _ = Value.bool (decide (a1.Tag = (-1)))) hb13 ?_
  refine L_load_int ty3 (rfl : _ = p14) hp15 (by decide) ?_
  refine L_gt (e := 8) (by rfl) (by decide) (rfl : _ = Value.bool (decide (a1.Tag = (-1)))) hb13 ?_
  refine L_fieldAddr fld64_2 Deed.of_Tag (rfl : _ = p2) (hp3.mono e6.le) (by decide) ?_
  intro p16 hp17
  refine L_gt (e := 8) (by rfl) (by decide) (rfl : _ = Value.bool (decide (a1.Tag = (-1)))) hb13 ?_
  refine L_load_int ty3 (rfl : _ = p16) hp17 (by decide) ?_
  refine L_gt (e := 8) (by rfl) (by decide) (rfl : _ = Value.bool (decide (a1.Tag = (-1)))) hb13 ?_
  refine L_eql (rfl : _ = Value.int .i64 (a1.Tag)) (rfl : _ = Value.int .i64 (a0.Tag)) (by decide) ?_
  refine L_pick_f (rfl : _ = Value.bool (decide (a1.Tag = (-1)))) hb13 (rfl : _ = Value.bool (decide (a1.Tag = a0.Tag))) (by decide) ?_
  refine L_assign (rfl : _ = Value.bool (decide (a1.Tag = a0.Tag))) (by decide) ?_
  refine L_nil ?_
  refine then_n ?_
  refine W_ret ?_
  obtain rfl := Option.some.inj hr
  exact done1 (Or.inl rfl) Try.results41 rfl ⟨_, _, rfl, rfl, hE10, Vbool⟩

theorem dead_run_begun_ok (N : Nat) (s0 : St) (w0 : Value) (a0 : Run) (h0 : Ptr s0 w0 a0) (a1 : Int) (r : (List Deed)) (hr : dead_run_begun N a0 a1 = some r) :
  Calls Try.prog 86 #[w0, .int .i64 a1] s0.w (Ret s0 fun v s => V s v r) := by
 unfold dead_run_begun at hr
 have hE0 := Ext.refl s0
 refine Calls_of (n := 30) (args := [w0, .int .i64 a1]) Try.func86 rfl rfl (by simp) ?_
 refine W_seq ?_
 refine W_region ?_
 refine L_assign (rfl : _ = Value.slice none 0 0) (by decide) ?_
 refine L_nil ?_
 refine then_n ?_
 refine W_seq ?_
 obtain ⟨y5, hy6, hr⟩ := bind_some hr
 obtain ⟨y15, hy16, hr⟩ := bind_some hr
 obtain ⟨y25, hy26, hr⟩ := bind_some hr
 obtain ⟨hc29, hr⟩ := chk_some hr
 obtain ⟨y30, hy31, hr⟩ := bind_some hr
 refine W_draws mixed (by kernel_rfl) [PV.ptr (a0 : Run), PV.ptr (a0 : Run), PV.ptr (a0.c : List (List Deed)), PV.data (a0.c : List (List Deed)), PV.eq (Value.int .i64 (a1)), PV.ptr (y5 : List Deed), PV.data (y5 : List Deed), PV.ptr (a0 : Run), PV.ptr (a0 : Run), PV.ptr (a0.c : List (List Deed)), PV.data (a0.c : List (List Deed)), PV.eq (Value.int .i64 (a1)), PV.ptr (y15 : List Deed), PV.data (y15 : List Deed), PV.eq (Value.int .i64 ((y15.length : Int))), PV.ptr (a0 : Run), PV.ptr (a0 : Run), PV.ptr (a0.at_ : List Int), PV.data (a0.at_ : List Int), PV.eq (Value.int .i64 (a1)), PV.ptr (y25 : Int), PV.eq (Value.int .i64 (y25)), PV.eq (Value.int .i64 (y25 + 1)), PV.eq (Value.int .i64 (min (y15.length : Int) (y25 + 1))), PV.data (y30 : List Deed), PV.data (y30 : List Deed)] (Steps_cons ?_ (Steps_cons ?_ (Steps_cons ?_ (Steps_cons ?_ (Steps_cons ?_ (Steps_cons ?_ (Steps_cons ?_ (Steps_cons ?_ (Steps_cons ?_ (Steps_cons ?_ (Steps_cons ?_ (Steps_cons ?_ (Steps_cons ?_ (Steps_cons ?_ (Steps_cons ?_ (Steps_cons ?_ (Steps_cons ?_ (Steps_cons ?_ (Steps_cons ?_ (Steps_cons ?_ (Steps_cons ?_ (Steps_cons ?_ (Steps_cons ?_ (Steps_cons ?_ (Steps_cons ?_ (Steps_cons ?_ Steps_nil)))))))))))))))))))))))))) ?_
 ·intro f36 s34 e35 hA37 hB38 Q hk39
  have ha40 : f36 0 = w0 := (hB38 0 (by kernel_rfl)).trans rfl
  refine L_move ha40 (by decide) ?_
  exact L_nil (hk39 _ _ (Ext.refl s34) (h0.mono e35.le))
 ·intro f43 s41 e42 hA44 hB45 Q hk46
  have ha47 : Ptr _ (f43 5) (a0 : Run) := hA44 0 5 (by kernel_rfl) (by kernel_rfl)
  obtain ⟨v48, q49, hv50⟩ : ∃ v, _ = v ∧ Ptr _ v _ := ⟨_, rfl, ha47⟩
  refine L_nilCheck_ptr q49 hv50 (by decide) ?_
  exact L_nil (hk46 _ _ (Ext.refl s41) hv50)
 ·intro f53 s51 e52 hA54 hB55 Q hk56
  have ha57 : Ptr _ (f53 6) (a0 : Run) := hA54 1 6 (by kernel_rfl) (by kernel_rfl)
  obtain ⟨v58, q59, hv60⟩ : ∃ v, _ = v ∧ Ptr _ v _ := ⟨_, rfl, ha57⟩
  refine L_fieldAddr fld72_0 Run.of_c q59 hv60 (by decide) ?_
  intro p1 hp2
  exact L_nil (hk56 _ _ (Ext.refl s51) hp2)
 ·intro f63 s61 e62 hA64 hB65 Q hk66
  have ha67 : Ptr _ (f63 7) (a0.c : List (List Deed)) := hA64 2 7 (by kernel_rfl) (by kernel_rfl)
  obtain ⟨v68, q69, hv70⟩ : ∃ v, _ = v ∧ Ptr _ v _ := ⟨_, rfl, ha67⟩
  refine L_load ty29 q69 hv70 (by decide) ?_
  intro v3 hv4
  exact L_nil (hk66 _ _ (Ext.refl s61) hv4)
 ·intro f73 s71 e72 hA74 hB75 Q hk76
  have ha77 : f73 1 = Value.int .i64 (a1) := (hB75 1 (by kernel_rfl)).trans rfl
  refine L_move ha77 (by decide) ?_
  exact L_nil (hk76 _ _ (Ext.refl s71) rfl)
 ·intro f80 s78 e79 hA81 hB82 Q hk83
  have ha84 : V _ (f80 8) (a0.c : List (List Deed)) := hA81 3 8 (by kernel_rfl) (by kernel_rfl)
  obtain ⟨v85, q86, hv87⟩ : ∃ v, _ = v ∧ V _ v _ := ⟨_, rfl, ha84⟩
  have ha88 : f80 9 = Value.int .i64 (a1) := hA81 4 9 (by kernel_rfl) (by kernel_rfl)
  refine L_index Try.underlying29 ty59.inf q86 hv87 ha88 hy6 (by decide) ?_
  intro p7 hp8
  exact L_nil (hk83 _ _ (Ext.refl s78) hp8)
 ·intro f91 s89 e90 hA92 hB93 Q hk94
  have ha95 : Ptr _ (f91 10) (y5 : List Deed) := hA92 5 10 (by kernel_rfl) (by kernel_rfl)
  obtain ⟨v96, q97, hv98⟩ : ∃ v, _ = v ∧ Ptr _ v _ := ⟨_, rfl, ha95⟩
  refine L_load ty59 q97 hv98 (by decide) ?_
  intro v9 hv10
  exact L_nil (hk94 _ _ (Ext.refl s89) hv10)
 ·intro f101 s99 e100 hA102 hB103 Q hk104
  have ha105 : f101 0 = w0 := (hB103 0 (by kernel_rfl)).trans rfl
  refine L_move ha105 (by decide) ?_
  exact L_nil (hk104 _ _ (Ext.refl s99) (h0.mono e100.le))
 ·intro f108 s106 e107 hA109 hB110 Q hk111
  have ha112 : Ptr _ (f108 12) (a0 : Run) := hA109 7 12 (by kernel_rfl) (by kernel_rfl)
  obtain ⟨v113, q114, hv115⟩ : ∃ v, _ = v ∧ Ptr _ v _ := ⟨_, rfl, ha112⟩
  refine L_nilCheck_ptr q114 hv115 (by decide) ?_
  exact L_nil (hk111 _ _ (Ext.refl s106) hv115)
 ·intro f118 s116 e117 hA119 hB120 Q hk121
  have ha122 : Ptr _ (f118 13) (a0 : Run) := hA119 8 13 (by kernel_rfl) (by kernel_rfl)
  obtain ⟨v123, q124, hv125⟩ : ∃ v, _ = v ∧ Ptr _ v _ := ⟨_, rfl, ha122⟩
  refine L_fieldAddr fld72_0 Run.of_c q124 hv125 (by decide) ?_
  intro p11 hp12
  exact L_nil (hk121 _ _ (Ext.refl s116) hp12)
 ·intro f128 s126 e127 hA129 hB130 Q hk131
  have ha132 : Ptr _ (f128 14) (a0.c : List (List Deed)) := hA129 9 14 (by kernel_rfl) (by kernel_rfl)
  obtain ⟨v133, q134, hv135⟩ : ∃ v, _ = v ∧ Ptr _ v _ := ⟨_, rfl, ha132⟩
  refine L_load ty29 q134 hv135 (by decide) ?_
  intro v13 hv14
  exact L_nil (hk131 _ _ (Ext.refl s126) hv14)
 ·intro f138 s136 e137 hA139 hB140 Q hk141
  have ha142 : f138 1 = Value.int .i64 (a1) := (hB140 1 (by kernel_rfl)).trans rfl
  refine L_move ha142 (by decide) ?_
  exact L_nil (hk141 _ _ (Ext.refl s136) rfl)
 ·intro f145 s143 e144 hA146 hB147 Q hk148
  have ha149 : V _ (f145 15) (a0.c : List (List Deed)) := hA146 10 15 (by kernel_rfl) (by kernel_rfl)
  obtain ⟨v150, q151, hv152⟩ : ∃ v, _ = v ∧ V _ v _ := ⟨_, rfl, ha149⟩
  have ha153 : f145 16 = Value.int .i64 (a1) := hA146 11 16 (by kernel_rfl) (by kernel_rfl)
  refine L_index Try.underlying29 ty59.inf q151 hv152 ha153 hy16 (by decide) ?_
  intro p17 hp18
  exact L_nil (hk148 _ _ (Ext.refl s143) hp18)
 ·intro f156 s154 e155 hA157 hB158 Q hk159
  have ha160 : Ptr _ (f156 17) (y15 : List Deed) := hA157 12 17 (by kernel_rfl) (by kernel_rfl)
  obtain ⟨v161, q162, hv163⟩ : ∃ v, _ = v ∧ Ptr _ v _ := ⟨_, rfl, ha160⟩
  refine L_load ty59 q162 hv163 (by decide) ?_
  intro v19 hv20
  exact L_nil (hk159 _ _ (Ext.refl s154) hv20)
 ·intro f166 s164 e165 hA167 hB168 Q hk169
  have ha170 : V _ (f166 18) (y15 : List Deed) := hA167 13 18 (by kernel_rfl) (by kernel_rfl)
  obtain ⟨v171, q172, hv173⟩ : ∃ v, _ = v ∧ V _ v _ := ⟨_, rfl, ha170⟩
  refine L_len Try.underlying59 q172 hv173 (by decide) ?_
  exact L_nil (hk169 _ _ (Ext.refl s164) rfl)
 ·intro f176 s174 e175 hA177 hB178 Q hk179
  have ha180 : f176 0 = w0 := (hB178 0 (by kernel_rfl)).trans rfl
  refine L_move ha180 (by decide) ?_
  exact L_nil (hk179 _ _ (Ext.refl s174) (h0.mono e175.le))
 ·intro f183 s181 e182 hA184 hB185 Q hk186
  have ha187 : Ptr _ (f183 20) (a0 : Run) := hA184 15 20 (by kernel_rfl) (by kernel_rfl)
  obtain ⟨v188, q189, hv190⟩ : ∃ v, _ = v ∧ Ptr _ v _ := ⟨_, rfl, ha187⟩
  refine L_nilCheck_ptr q189 hv190 (by decide) ?_
  exact L_nil (hk186 _ _ (Ext.refl s181) hv190)
 ·intro f193 s191 e192 hA194 hB195 Q hk196
  have ha197 : Ptr _ (f193 21) (a0 : Run) := hA194 16 21 (by kernel_rfl) (by kernel_rfl)
  obtain ⟨v198, q199, hv200⟩ : ∃ v, _ = v ∧ Ptr _ v _ := ⟨_, rfl, ha197⟩
  refine L_fieldAddr fld72_2 Run.of_at_ q199 hv200 (by decide) ?_
  intro p21 hp22
  exact L_nil (hk196 _ _ (Ext.refl s191) hp22)
 ·intro f203 s201 e202 hA204 hB205 Q hk206
  have ha207 : Ptr _ (f203 22) (a0.at_ : List Int) := hA204 17 22 (by kernel_rfl) (by kernel_rfl)
  obtain ⟨v208, q209, hv210⟩ : ∃ v, _ = v ∧ Ptr _ v _ := ⟨_, rfl, ha207⟩
  refine L_load ty23 q209 hv210 (by decide) ?_
  intro v23 hv24
  exact L_nil (hk206 _ _ (Ext.refl s201) hv24)
 ·intro f213 s211 e212 hA214 hB215 Q hk216
  have ha217 : f213 1 = Value.int .i64 (a1) := (hB215 1 (by kernel_rfl)).trans rfl
  refine L_move ha217 (by decide) ?_
  exact L_nil (hk216 _ _ (Ext.refl s211) rfl)
 ·intro f220 s218 e219 hA221 hB222 Q hk223
  have ha224 : V _ (f220 23) (a0.at_ : List Int) := hA221 18 23 (by kernel_rfl) (by kernel_rfl)
  obtain ⟨v225, q226, hv227⟩ : ∃ v, _ = v ∧ V _ v _ := ⟨_, rfl, ha224⟩
  have ha228 : f220 24 = Value.int .i64 (a1) := hA221 19 24 (by kernel_rfl) (by kernel_rfl)
  refine L_index Try.underlying23 ty3.inf q226 hv227 ha228 hy26 (by decide) ?_
  intro p27 hp28
  exact L_nil (hk223 _ _ (Ext.refl s218) hp28)
 ·intro f231 s229 e230 hA232 hB233 Q hk234
  have ha235 : Ptr _ (f231 25) (y25 : Int) := hA232 20 25 (by kernel_rfl) (by kernel_rfl)
  obtain ⟨v236, q237, hv238⟩ : ∃ v, _ = v ∧ Ptr _ v _ := ⟨_, rfl, ha235⟩
  refine L_load_int ty3 q237 hv238 (by decide) ?_
  exact L_nil (hk234 _ _ (Ext.refl s229) rfl)
 ·intro f241 s239 e240 hA242 hB243 Q hk244
  have ha245 : f241 26 = Value.int .i64 (y25) := hA242 21 26 (by kernel_rfl) (by kernel_rfl)
  refine L_add ha245 (rfl : _ = Value.int .i64 (1)) hc29 (by decide) ?_
  exact L_nil (hk244 _ _ (Ext.refl s239) rfl)
 ·intro f248 s246 e247 hA249 hB250 Q hk251
  have ha252 : f248 19 = Value.int .i64 ((y15.length : Int)) := hA249 14 19 (by kernel_rfl) (by kernel_rfl)
  have ha253 : f248 27 = Value.int .i64 (y25 + 1) := hA249 22 27 (by kernel_rfl) (by kernel_rfl)
  refine L_min ha252 ha253 (by decide) ?_
  exact L_nil (hk251 _ _ (Ext.refl s246) rfl)
 ·intro f256 s254 e255 hA257 hB258 Q hk259
  have ha260 : V _ (f256 11) (y5 : List Deed) := hA257 6 11 (by kernel_rfl) (by kernel_rfl)
  obtain ⟨v261, q262, hv263⟩ : ∃ v, _ = v ∧ V _ v _ := ⟨_, rfl, ha260⟩
  have ha264 : f256 28 = Value.int .i64 (min (y15.length : Int) (y25 + 1)) := hA257 23 28 (by kernel_rfl) (by kernel_rfl)
  refine L_slice_h Try.underlying59 ty64.inf q262 hv263 ha264 hy31 (by decide) ?_
  intro v32 hv33
  exact L_nil (hk259 _ _ (Ext.refl s254) hv33)
 ·intro f267 s265 e266 hA268 hB269 Q hk270
  have ha271 : V _ (f267 29) (y30 : List Deed) := hA268 24 29 (by kernel_rfl) (by kernel_rfl)
  obtain ⟨v272, q273, hv274⟩ : ∃ v, _ = v ∧ V _ v _ := ⟨_, rfl, ha271⟩
  refine L_assign q273 (by decide) ?_
  exact L_nil (hk270 _ _ (Ext.refl s265) hv274)
 ·intro f277 s275 e276 hA278 hB279
  have hE280 := Tch.ext hE0 e276
  have ha281 : V _ (f277 4) (y30 : List Deed) := hA278 25 4 (by kernel_rfl)
  obtain ⟨v282, q283, hv284⟩ : ∃ v, _ = v ∧ V _ v _ := ⟨_, rfl, ha281⟩
  refine then_n ?_
  refine W_ret ?_
  obtain rfl := Option.some.inj hr
  exact done1 (Or.inl rfl) Try.results86 q283 ⟨_, _, rfl, rfl, hE280, hv284⟩

theorem dead_run_pairs_ok (N : Nat) (s0 : St) (w0 : Value) (a0 : Run) (h0 : Ptr s0 w0 a0) (a1 : Int) (a2 : Int) (r : (GMap Int)) (hr : dead_run_pairs N a0 a1 a2 = some r) :
  Calls Try.prog 81 #[w0, .int .i64 a1, .int .i64 a2] s0.w (Ret s0 fun v s => V s v r) := by
 unfold dead_run_pairs at hr
 have hE0 := Ext.refl s0
 refine Calls_of (n := 77) (args := [w0, .int .i64 a1, .int .i64 a2]) Try.func81 rfl rfl (by simp) ?_
 refine W_seq ?_
 refine W_region ?_
 refine L_assign (rfl : _ = Value.map none) (by decide) ?_
 refine L_nil ?_
 refine then_n ?_
 refine W_seq ?_
 refine W_region ?_
 refine L_makeMap (β := Int) (by decide) ?_
 intro s5 b2 e1 hb3 hv4
 have hE6 := Tch.ext hE0 e1
 refine L_assign (rfl : _ = Value.map (some b2)) (by decide) ?_
 refine L_nil ?_
 refine then_n ?_
 refine W_seq ?_
 refine W_region ?_
 refine L_move (rfl : _ = w0) (by decide) ?_
 refine L_move (rfl : _ = Value.int .i64 (a2)) (by decide) ?_
 obtain ⟨y7, hy8, hr⟩ := bind_some hr
 refine L_calls cal86 (args2 (rfl : _ = w0) (rfl : _ = Value.int .i64 (a2))) (dead_run_begun_ok N _ _ _ (h0.mono e1.le) a2 y7 hy8) (by decide) ?_
 intro v9 s12 e10 hv11
 have hE13 := Tch.ext hE6 e10
 refine L_assign (rfl : _ = v9) (by decide) ?_
 refine L_nil ?_
 refine then_n ?_
 refine W_seq ?_
 refine W_region ?_
 refine L_move (rfl : _ = v9) (by decide) ?_
 refine L_len Try.underlying59 (rfl : _ = v9) hv11 (by decide) ?_
 obtain ⟨hc14, hr⟩ := chk_some hr
 refine L_makeArr (x0 := (false : Bool)) Try.underlying116 tyz4 (rfl : _ = Value.int .i64 ((y7.length : Int))) hc14.1 hc14.2.1 hc14.2.2 (fun _ => rfl) (by decide) ?_
 intro s19 b16 e15 hb17 hv18
 have hE20 := Tch.ext hE13 e15
 have ap21 : ∀ k, (fun k => k = b2) k → ¬ (fun k => k = b16) k := fun k h1 h2 => by have h3 := (fun k (hk : k = b2) => lt_at hk ((hv4).ext e10).lt) k h1; have h4 := hb17; subst h2; omega
 refine L_assign (rfl : _ = Value.slice (some ⟨b16, 0, none⟩) ((y7.length : Int)).toNat ((y7.length : Int)).toNat) (by decide) ?_
 refine L_nil ?_
 refine then_n ?_
 refine W_seq ?_
 refine W_seq ?_
 refine W_region ?_
 refine L_move (rfl : _ = w0) (by decide) ?_
 refine L_move (rfl : _ = Value.int .i64 (a1)) (by decide) ?_
 obtain ⟨y22, hy23, hr⟩ := bind_some hr
 refine L_calls cal86 (args2 (rfl : _ = w0) (rfl : _ = Value.int .i64 (a1))) (dead_run_begun_ok N _ _ _ (h0.mono (e1.le.trans (e10.le.trans e15.le))) a1 y22 hy23) (by decide) ?_
 intro v24 s27 e25 hv26
 have hE28 := Tch.ext hE20 e25
 refine L_len Try.underlying59 (rfl : _ = v24) hv26 (by decide) ?_
 refine L_move (rfl : _ = Value.int .i64 (0)) (by decide) ?_
 refine L_nil ?_
 refine then_n ?_
 obtain ⟨o33, ho34, hq36⟩ := bind_some hr
 refine W_cut (fun f w => ∃ (s : St) (x32 : List (Int × Int)), s.w = w ∧ Ext s0 s ∧ Le s27 s ∧ x32 = o33 ∧ f 7 = Value.map (some b2) ∧ MapX s b2 x32) ?_ ?_
 ·refine W_block ?_
  refine W_loop (fun m f w => ∃ (s : St) (x31 : Int) (x29 : List (Int × Int)) (x30 : List Bool), s.w = w ∧ Ext s0 s ∧ Le s27 s ∧ dead_run_pairs_l1 N a1 a2 y7 y22 m x31 x29 x30 = some o33 ∧ f 25 = Value.int .i64 x31 ∧ f 1 = Value.int .i64 (a1) ∧ f 2 = Value.int .i64 (a2) ∧ f 7 = Value.map (some b2) ∧ f 8 = v9 ∧ f 9 = Value.slice (some ⟨b16, 0, none⟩) ((y7.length : Int)).toNat ((y7.length : Int)).toNat ∧ f 23 = v24 ∧ f 24 = Value.int .i64 ((y22.length : Int)) ∧ MapX s b2 x29 ∧ Arr s b16 4 ((y7.length : Int)).toNat x30) N ⟨s27, 0, ([] : List (Int × Int)), (List.replicate ((y7.length : Int)).toNat (false : Bool)), rfl, hE28, (Le.refl _), ho34, rfl, rfl, rfl, rfl, rfl, rfl, rfl, rfl, (((hv4).ext e10).ext e15).ext e25, (hv18).ext e25⟩ ?_
  rintro m35 f194 w195 ⟨s38, x31, x29, x30, rfl, hE40, l39, hr, g41_25, g41_1, g41_2, g41_7, g41_8, g41_9, g41_23, g41_24, hx42, hx43⟩
  cases m35 with
  | zero => exact absurd hr (by simp [dead_run_pairs_l1])
  | succ m35 =>
   rw [dead_run_pairs_l1.eq_2] at hr
   refine W_seq ?_
   refine W_region ?_
   refine L_lss g41_25 g41_24 (by decide) ?_
   refine L_nil ?_
   refine then_n ?_
   refine W_seq ?_
   refine W_cond _ (rfl : _ = Value.bool (decide (x31 < (y22.length : Int)))) (fun hb44 => ?_) (fun hb44 => ?_)
   ·have hr := ite_t hb44 hr
    refine W_skip ?_
    refine then_n ?_
    refine W_seq ?_
    refine W_block ?_
    refine W_seq ?_
    refine W_region ?_
    refine L_move g41_25 (by decide) ?_
    obtain ⟨y45, hy46, hr⟩ := bind_some hr
    refine L_index Try.underlying59 ty64.inf g41_23 (hv26.mono l39) g41_25 hy46 (by decide) ?_
    intro p47 hp48
    refine L_load ty64 (rfl : _ = p47) hp48 (by decide) ?_
    intro v49 hv50
    refine L_alloc (α := Deed) (x := ⟨0, 0, 0, 0, false⟩) zero64 Deed.zero_rel (by decide) ?_
    intro s55 b52 e51 hb53 hv54
    have hE56 := Tch.ext hE40 e51
    have ap57 : ∀ k, (fun k => k = b2) k → ¬ (fun k => k = b52) k := fun k h1 h2 => by have h3 := (fun k (hk : k = b2) => lt_at hk (hx42).lt) k h1; have h4 := hb53; subst h2; omega
    have ap58 : ∀ k, (fun k => k = b16) k → ¬ (fun k => k = b52) k := fun k h1 h2 => by have h3 := (fun k (hk : k = b16) => lt_at hk (hx43).lt) k h1; have h4 := hb53; subst h2; omega
    refine L_assign (rfl : _ = Value.int .i64 (x31)) (by decide) ?_
    refine L_store_ro ty64 (rfl : _ = Value.pointer (some ⟨b52, 0, none⟩)) (rfl : _ = v49) (hv50.mono e51.le) (hv54) ?_
    intro s61 e59 hv60
    have hE62 := Tch.trans hE56 e59 (fun k hk => Or.inr (by subst hk; exact (Nat.le_trans hE40.size hb53)))
    refine L_nil ?_
    refine then_n ?_
    refine W_seq ?_
    obtain ⟨o64, ho65, hq66⟩ := bind_some hr
    refine W_seq_cut (fun f w => ∃ (s : St) (x63 : Bool), s.w = w ∧ Ext s0 s ∧ Le s61 s ∧ x63 = o64 ∧ f 38 = Value.bool x63 ∧ f 1 = Value.int .i64 (a1) ∧ f 2 = Value.int .i64 (a2) ∧ f 7 = Value.map (some b2) ∧ f 8 = v9 ∧ f 9 = Value.slice (some ⟨b16, 0, none⟩) ((y7.length : Int)).toNat ((y7.length : Int)).toNat ∧ f 10 = Value.int .i64 (x31) ∧ f 11 = Value.pointer (some ⟨b52, 0, none⟩) ∧ f 23 = v24 ∧ f 24 = Value.int .i64 ((y22.length : Int)) ∧ f 25 = Value.int .i64 (x31) ∧ MapX s b2 x29 ∧ Arr s b16 4 ((y7.length : Int)).toNat x30) ?_ ?_
    ·have hr := ho65
     refine W_region ?_
     refine L_load ty64 (rfl : _ = Value.pointer (some ⟨b52, 0, none⟩)) hv60 (by decide) ?_
     intro v67 hv68
     obtain ⟨y69, hy70, hr⟩ := bind_some hr
     refine L_calls cal40 (args1 (rfl : _ = v67)) (dead_sends_ok N _ _ _ hv68 y69 hy70) (by decide) ?_
     intro v71 s74 e72 hv73
     have hE75 := Tch.ext hE62 e72
     obtain rfl := hv73.bool
     refine L_not (rfl : _ = Value.bool (y69)) (by decide) ?_
     refine L_move (rfl : _ = Value.bool (!y69)) (by decide) ?_
     rcases Bool.eq_false_or_eq_true (!y69) with hb76 | hb76
     ·have hr := ite_t hb76 hr
      refine L_gf (e := 33) (by rfl) (by decide) (rfl : _ = Value.bool (!y69)) hb76 (by decide) ?_
      refine L_gf (e := 33) (by rfl) (by decide) (rfl : _ = Value.bool (!y69)) hb76 (by decide) ?_
      refine L_gf (e := 33) (by rfl) (by decide) (rfl : _ = Value.bool (!y69)) hb76 (by decide) ?_
      refine L_gf (e := 33) (by rfl) (by decide) (rfl : _ = Value.bool (!y69)) hb76 (by decide) ?_
      refine L_pick_t (rfl : _ = Value.bool (!y69)) hb76 (rfl : _ = Value.bool (true)) (by decide) ?_
      refine L_nil ?_
      exact then_n ⟨s74, true, rfl, hE75, e72.le, Option.some.inj hr, rfl, g41_1, g41_2, g41_7, g41_8, g41_9, rfl, rfl, g41_23, g41_24, g41_25, (((hx42).ext e51).tch e59 ((fun k hk => ap57 k hk) b2 rfl)).ext e72, (((hx43).ext e51).tch e59 ((fun k hk => ap58 k hk) b16 rfl)).ext e72⟩
     ·have hr := ite_f hb76 hr
      refine L_gt (e := 33) (by rfl) (by decide) (rfl : _ = Value.bool (!y69)) hb76 ?_
      refine L_fieldAddr fld64_1 Deed.of_Peer (rfl : _ = Value.pointer (some ⟨b52, 0, none⟩)) (hv60.mono e72.le) (by decide) ?_
      intro p77 hp78
      refine L_gt (e := 33) (by rfl) (by decide) (rfl : _ = Value.bool (!y69)) hb76 ?_
      refine L_load_int ty3 (rfl : _ = p77) hp78 (by decide) ?_
      refine L_gt (e := 33) (by rfl) (by decide) (rfl : _ = Value.bool (!y69)) hb76 ?_
      refine L_move g41_2 (by decide) ?_
      refine L_gt (e := 33) (by rfl) (by decide) (rfl : _ = Value.bool (!y69)) hb76 ?_
      refine L_neq (rfl : _ = Value.int .i64 (y45.Peer)) (rfl : _ = Value.int .i64 (a2)) (by decide) ?_
      refine L_pick_f (rfl : _ = Value.bool (!y69)) hb76 (rfl : _ = Value.bool (!decide (y45.Peer = a2))) (by decide) ?_
      refine L_nil ?_
      exact then_n ⟨s74, (!decide (y45.Peer = a2)), rfl, hE75, e72.le, Option.some.inj hr, rfl, g41_1, g41_2, g41_7, g41_8, g41_9, rfl, rfl, g41_23, g41_24, g41_25, (((hx42).ext e51).tch e59 ((fun k hk => ap57 k hk) b2 rfl)).ext e72, (((hx43).ext e51).tch e59 ((fun k hk => ap58 k hk) b16 rfl)).ext e72⟩
    ·rintro f190 w191 ⟨s79, x63, rfl, hE81, l80, ho65, g82_38, g82_1, g82_2, g82_7, g82_8, g82_9, g82_10, g82_11, g82_23, g82_24, g82_25, hx83, hx84⟩
     subst ho65
     have hr := hq66
     try dsimp only at hr
     refine W_cond _ g82_38 (fun hb85 => ?_) (fun hb85 => ?_)
     ·have hr := ite_t hb85 hr
      refine W_exit ?_
      refine then_x ?_
      refine block_here ?_
      refine then_n ?_
      refine W_region ?_
      obtain ⟨hc86, hr⟩ := chk_some hr
      refine L_add g82_25 (rfl : _ = Value.int .i64 (1)) hc86 (by decide) ?_
      refine L_move (rfl : _ = Value.int .i64 (x31 + 1)) (by decide) ?_
      refine L_nil ?_
      exact then_n ⟨m35, Nat.lt_succ_self _, ⟨s79, (x31 + 1), x29, x30, rfl, hE81, (l39.trans (e51.le.trans (e59.le.trans l80))), hr, rfl, g82_1, g82_2, g82_7, g82_8, g82_9, g82_23, g82_24, hx83, hx84⟩⟩
     ·have hr := ite_f hb85 hr
      refine W_skip ?_
      refine then_n ?_
      refine W_seq ?_
      refine W_region ?_
      refine L_move g82_7 (by decide) ?_
      refine L_move g82_10 (by decide) ?_
      refine L_mapUpdate (m := x29) Try.underlying92 Try.underlying3 (rfl : _ = Value.map (some b2)) (rfl : _ = Value.int .i64 (x31)) (rfl : _ = Value.int .i64 (-1)) (hx83) (Vint : V _ _ (-1 : Int)) ?_
      intro s89 e87 hv88
      have hE90 := Tch.trans hE81 e87 (fun k hk => Or.inr (by subst hk; exact (Nat.le_trans hE0.size hb3)))
      refine L_nil ?_
      refine then_n ?_
      refine W_seq ?_
      refine W_region ?_
      refine L_move g82_8 (by decide) ?_
      refine L_len Try.underlying59 (rfl : _ = v9) (hv11.mono (e15.le.trans (e25.le.trans (l39.trans (e51.le.trans (e59.le.trans (l80.trans e87.le))))))) (by decide) ?_
      refine L_move (rfl : _ = Value.int .i64 (0)) (by decide) ?_
      refine L_nil ?_
      refine then_n ?_
      obtain ⟨o96, ho97, hq99⟩ := bind_some hr
      refine W_cut (fun f w => ∃ (s : St) (x94 : List (Int × Int)) (x95 : List Bool), s.w = w ∧ Ext s0 s ∧ Le s89 s ∧ (x94, x95) = o96 ∧ f 1 = Value.int .i64 (a1) ∧ f 2 = Value.int .i64 (a2) ∧ f 7 = Value.map (some b2) ∧ f 8 = v9 ∧ f 9 = Value.slice (some ⟨b16, 0, none⟩) ((y7.length : Int)).toNat ((y7.length : Int)).toNat ∧ f 23 = v24 ∧ f 24 = Value.int .i64 ((y22.length : Int)) ∧ f 25 = Value.int .i64 (x31) ∧ MapX s b2 x94 ∧ Arr s b16 4 ((y7.length : Int)).toNat x95) ?_ ?_
      ·refine W_block ?_
       refine W_loop (fun m f w => ∃ (s : St) (x93 : Int) (x91 : List (Int × Int)) (x92 : List Bool), s.w = w ∧ Ext s0 s ∧ Le s89 s ∧ dead_run_pairs_l2 N a1 y7 x31 y45 m x93 x91 x92 = some o96 ∧ f 43 = Value.int .i64 x93 ∧ f 1 = Value.int .i64 (a1) ∧ f 2 = Value.int .i64 (a2) ∧ f 7 = Value.map (some b2) ∧ f 8 = v9 ∧ f 9 = Value.slice (some ⟨b16, 0, none⟩) ((y7.length : Int)).toNat ((y7.length : Int)).toNat ∧ f 10 = Value.int .i64 (x31) ∧ f 11 = Value.pointer (some ⟨b52, 0, none⟩) ∧ f 23 = v24 ∧ f 24 = Value.int .i64 ((y22.length : Int)) ∧ f 25 = Value.int .i64 (x31) ∧ f 41 = v9 ∧ f 42 = Value.int .i64 ((y7.length : Int)) ∧ MapX s b2 x91 ∧ Arr s b16 4 ((y7.length : Int)).toNat x92) N ⟨s89, 0, (mset x29 x31 (-1)), x30, rfl, hE90, (Le.refl _), ho97, rfl, g82_1, g82_2, g82_7, g82_8, g82_9, g82_10, g82_11, g82_23, g82_24, g82_25, rfl, rfl, hv88, (hx84).tch e87 ((fun k hk hm => ap21 k hm hk) b16 rfl)⟩ ?_
       rintro m98 f181 w182 ⟨s101, x93, x91, x92, rfl, hE103, l102, hr, g104_43, g104_1, g104_2, g104_7, g104_8, g104_9, g104_10, g104_11, g104_23, g104_24, g104_25, g104_41, g104_42, hx105, hx106⟩
       cases m98 with
       | zero => exact absurd hr (by simp [dead_run_pairs_l2])
       | succ m98 =>
        rw [dead_run_pairs_l2.eq_2] at hr
        refine W_seq ?_
        refine W_region ?_
        refine L_lss g104_43 g104_42 (by decide) ?_
        refine L_nil ?_
        refine then_n ?_
        refine W_seq ?_
        refine W_cond _ (rfl : _ = Value.bool (decide (x93 < (y7.length : Int)))) (fun hb107 => ?_) (fun hb107 => ?_)
        ·have hr := ite_t hb107 hr
         refine W_skip ?_
         refine then_n ?_
         refine W_seq ?_
         refine W_block ?_
         refine W_seq ?_
         refine W_region ?_
         refine L_move g104_43 (by decide) ?_
         obtain ⟨y108, hy109, hr⟩ := bind_some hr
         refine L_index Try.underlying59 ty64.inf g104_41 (hv11.mono (e15.le.trans (e25.le.trans (l39.trans (e51.le.trans (e59.le.trans (l80.trans (e87.le.trans l102)))))))) g104_43 hy109 (by decide) ?_
         intro p110 hp111
         refine L_load ty64 (rfl : _ = p110) hp111 (by decide) ?_
         intro v112 hv113
         refine L_alloc (α := Deed) (x := ⟨0, 0, 0, 0, false⟩) zero64 Deed.zero_rel (by decide) ?_
         intro s118 b115 e114 hb116 hv117
         have hE119 := Tch.ext hE103 e114
         have ap120 : ∀ k, (fun k => k = b2) k → ¬ (fun k => k = b115) k := fun k h1 h2 => by have h3 := (fun k (hk : k = b2) => lt_at hk (hx105).lt) k h1; have h4 := hb116; subst h2; omega
         have ap121 : ∀ k, (fun k => k = b16) k → ¬ (fun k => k = b115) k := fun k h1 h2 => by have h3 := (fun k (hk : k = b16) => lt_at hk (hx106).lt) k h1; have h4 := hb116; subst h2; omega
         refine L_assign (rfl : _ = Value.int .i64 (x93)) (by decide) ?_
         refine L_store_ro ty64 (rfl : _ = Value.pointer (some ⟨b115, 0, none⟩)) (rfl : _ = v112) (hv113.mono e114.le) (hv117) ?_
         intro s124 e122 hv123
         have hE125 := Tch.trans hE119 e122 (fun k hk => Or.inr (by subst hk; exact (Nat.le_trans hE103.size hb116)))
         refine L_nil ?_
         refine then_n ?_
         obtain ⟨o127, ho128, hq129⟩ := bind_some hr
         refine W_seq_cut (fun f w => ∃ (s : St) (x126 : Bool), s.w = w ∧ Ext s0 s ∧ Le s124 s ∧ x126 = o127 ∧ f 67 = Value.bool x126 ∧ f 1 = Value.int .i64 (a1) ∧ f 2 = Value.int .i64 (a2) ∧ f 7 = Value.map (some b2) ∧ f 8 = v9 ∧ f 9 = Value.slice (some ⟨b16, 0, none⟩) ((y7.length : Int)).toNat ((y7.length : Int)).toNat ∧ f 10 = Value.int .i64 (x31) ∧ f 11 = Value.pointer (some ⟨b52, 0, none⟩) ∧ f 12 = Value.int .i64 (x93) ∧ f 23 = v24 ∧ f 24 = Value.int .i64 ((y22.length : Int)) ∧ f 25 = Value.int .i64 (x31) ∧ f 41 = v9 ∧ f 42 = Value.int .i64 ((y7.length : Int)) ∧ f 43 = Value.int .i64 (x93) ∧ MapX s b2 x91 ∧ Arr s b16 4 ((y7.length : Int)).toNat x92) ?_ ?_
         ·have hr := ho128
          refine W_region ?_
          refine L_load ty64 (rfl : _ = Value.pointer (some ⟨b115, 0, none⟩)) hv123 (by decide) ?_
          intro v130 hv131
          obtain ⟨y132, hy133, hr⟩ := bind_some hr
          refine L_calls cal70 (args1 (rfl : _ = v130)) (dead_receives_ok N _ _ _ hv131 y132 hy133) (by decide) ?_
          intro v134 s137 e135 hv136
          have hE138 := Tch.ext hE125 e135
          obtain rfl := hv136.bool
          refine L_move (rfl : _ = Value.bool (y132)) (by decide) ?_
          rcases Bool.eq_false_or_eq_true (y132) with hb139 | hb139
          ·have hr := ite_t hb139 hr
           refine L_gt (e := 50) (by rfl) (by decide) (rfl : _ = Value.bool (y132)) hb139 ?_
           refine L_fieldAddr fld64_1 Deed.of_Peer (rfl : _ = Value.pointer (some ⟨b115, 0, none⟩)) (hv123.mono e135.le) (by decide) ?_
           intro p140 hp141
           refine L_gt (e := 50) (by rfl) (by decide) (rfl : _ = Value.bool (y132)) hb139 ?_
           refine L_load_int ty3 (rfl : _ = p140) hp141 (by decide) ?_
           refine L_gt (e := 50) (by rfl) (by decide) (rfl : _ = Value.bool (y132)) hb139 ?_
           refine L_move g104_1 (by decide) ?_
           refine L_gt (e := 50) (by rfl) (by decide) (rfl : _ = Value.bool (y132)) hb139 ?_
           refine L_eql (rfl : _ = Value.int .i64 (y108.Peer)) (rfl : _ = Value.int .i64 (a1)) (by decide) ?_
           refine L_pick_t (rfl : _ = Value.bool (y132)) hb139 (rfl : _ = Value.bool (decide (y108.Peer = a1))) (by decide) ?_
           refine L_move (rfl : _ = Value.bool (decide (y108.Peer = a1))) (by decide) ?_
           rcases Bool.eq_false_or_eq_true (decide (y108.Peer = a1)) with hb142 | hb142
           ·have hr := ite_t hb142 hr
            refine L_gt (e := 56) (by rfl) (by decide) (rfl : _ = Value.bool (decide (y108.Peer = a1))) hb142 ?_
            refine L_move g104_9 (by decide) ?_
            refine L_gt (e := 56) (by rfl) (by decide) (rfl : _ = Value.bool (decide (y108.Peer = a1))) hb142 ?_
            refine L_move (rfl : _ = Value.int .i64 (x93)) (by decide) ?_
            refine L_gt (e := 56) (by rfl) (by decide) (rfl : _ = Value.bool (decide (y108.Peer = a1))) hb142 ?_
            obtain ⟨y143, hy144, hr⟩ := bind_some hr
            refine L_indexA (sz := 1) Try.underlying116 ty4.inf (rfl : _ = Value.slice (some ⟨b16, 0, none⟩) ((y7.length : Int)).toNat ((y7.length : Int)).toNat) (rfl : _ = Value.int .i64 (x93)) (idx_some hy144).1 (by have := (idx_some hy144).2.1; have := ((((hx106).ext e114).tch e122 ((fun k hk => ap121 k hk) b16 rfl)).ext e135).1; omega) (by decide) ?_
            refine L_gt (e := 56) (by rfl) (by decide) (rfl : _ = Value.bool (decide (y108.Peer = a1))) hb142 ?_
            refine L_loadA (xs := x92) ty4 (rfl : _ = Value.pointer (some ⟨b16, (x93).toNat * 1, none⟩)) ((((hx106).ext e114).tch e122 ((fun k hk => ap121 k hk) b16 rfl)).ext e135) hy144 (by decide) ?_
            intro v145 hv146
            obtain rfl := hv146.bool
            refine L_gt (e := 56) (by rfl) (by decide) (rfl : _ = Value.bool (decide (y108.Peer = a1))) hb142 ?_
            refine L_not (rfl : _ = Value.bool (y143)) (by decide) ?_
            refine L_pick_t (rfl : _ = Value.bool (decide (y108.Peer = a1))) hb142 (rfl : _ = Value.bool (!y143)) (by decide) ?_
            refine L_move (rfl : _ = Value.bool (!y143)) (by decide) ?_
            rcases Bool.eq_false_or_eq_true (!y143) with hb147 | hb147
            ·have hr := ite_t hb147 hr
             refine L_gt (e := 63) (by rfl) (by decide) (rfl : _ = Value.bool (!y143)) hb147 ?_
             refine L_load ty64 g104_11 (hv60.mono (l80.trans (e87.le.trans (l102.trans (e114.le.trans (e122.le.trans e135.le)))))) (by decide) ?_
             intro v148 hv149
             refine L_gt (e := 63) (by rfl) (by decide) (rfl : _ = Value.bool (!y143)) hb147 ?_
             refine L_load ty64 (rfl : _ = Value.pointer (some ⟨b115, 0, none⟩)) (hv123.mono e135.le) (by decide) ?_
             intro v150 hv151
             refine L_gt (e := 63) (by rfl) (by decide) (rfl : _ = Value.bool (!y143)) hb147 ?_
             obtain ⟨y152, hy153, hr⟩ := bind_some hr
             refine L_calls cal41 (args2 (rfl : _ = v148) (rfl : _ = v150)) (dead_fits_ok N _ _ _ hv149 _ _ hv151 y152 hy153) (by decide) ?_
             intro v154 s157 e155 hv156
             have hE158 := Tch.ext hE138 e155
             obtain rfl := hv156.bool
             refine L_pick_t (rfl : _ = Value.bool (!y143)) hb147 (rfl : _ = Value.bool (y152)) (by decide) ?_
             refine L_nil ?_
             exact then_n ⟨s157, y152, rfl, hE158, (e135.le.trans e155.le), Option.some.inj hr, rfl, g104_1, g104_2, g104_7, g104_8, g104_9, g104_10, g104_11, rfl, g104_23, g104_24, g104_25, g104_41, g104_42, g104_43, ((((hx105).ext e114).tch e122 ((fun k hk => ap120 k hk) b2 rfl)).ext e135).ext e155, ((((hx106).ext e114).tch e122 ((fun k hk => ap121 k hk) b16 rfl)).ext e135).ext e155⟩
            ·have hr := ite_f hb147 hr
             refine L_gf (e := 63) (by rfl) (by decide) (rfl : _ = Value.bool (!y143)) hb147 (by decide) ?_
             refine L_gf (e := 63) (by rfl) (by decide) (rfl : _ = Value.bool (!y143)) hb147 (by decide) ?_
             refine L_gf (e := 63) (by rfl) (by decide) (rfl : _ = Value.bool (!y143)) hb147 (by decide) ?_
             refine L_pick_f (rfl : _ = Value.bool (!y143)) hb147 (rfl : _ = Value.bool (false)) (by decide) ?_
             refine L_nil ?_
             exact then_n ⟨s137, false, rfl, hE138, e135.le, Option.some.inj hr, rfl, g104_1, g104_2, g104_7, g104_8, g104_9, g104_10, g104_11, rfl, g104_23, g104_24, g104_25, g104_41, g104_42, g104_43, (((hx105).ext e114).tch e122 ((fun k hk => ap120 k hk) b2 rfl)).ext e135, (((hx106).ext e114).tch e122 ((fun k hk => ap121 k hk) b16 rfl)).ext e135⟩
           ·have hr := ite_f hb142 hr
            refine L_gf (e := 56) (by rfl) (by decide) (rfl : _ = Value.bool (decide (y108.Peer = a1))) hb142 (by decide) ?_
            refine L_gf (e := 56) (by rfl) (by decide) (rfl : _ = Value.bool (decide (y108.Peer = a1))) hb142 (by decide) ?_
            refine L_gf (e := 56) (by rfl) (by decide) (rfl : _ = Value.bool (decide (y108.Peer = a1))) hb142 (by decide) ?_
            refine L_gf (e := 56) (by rfl) (by decide) (rfl : _ = Value.bool (decide (y108.Peer = a1))) hb142 (by decide) ?_
            refine L_gf (e := 56) (by rfl) (by decide) (rfl : _ = Value.bool (decide (y108.Peer = a1))) hb142 (by decide) ?_
            refine L_pick_f (rfl : _ = Value.bool (decide (y108.Peer = a1))) hb142 (rfl : _ = Value.bool (false)) (by decide) ?_
            refine L_move (rfl : _ = Value.bool (false)) (by decide) ?_
            refine L_gf (e := 63) (by rfl) (by decide) (rfl : _ = Value.bool (false)) rfl (by decide) ?_
            refine L_gf (e := 63) (by rfl) (by decide) (rfl : _ = Value.bool (false)) rfl (by decide) ?_
            refine L_gf (e := 63) (by rfl) (by decide) (rfl : _ = Value.bool (false)) rfl (by decide) ?_
            refine L_pick_f (rfl : _ = Value.bool (false)) rfl (rfl : _ = Value.bool (false)) (by decide) ?_
            refine L_nil ?_
            exact then_n ⟨s137, false, rfl, hE138, e135.le, Option.some.inj hr, rfl, g104_1, g104_2, g104_7, g104_8, g104_9, g104_10, g104_11, rfl, g104_23, g104_24, g104_25, g104_41, g104_42, g104_43, (((hx105).ext e114).tch e122 ((fun k hk => ap120 k hk) b2 rfl)).ext e135, (((hx106).ext e114).tch e122 ((fun k hk => ap121 k hk) b16 rfl)).ext e135⟩
          ·have hr := ite_f hb139 hr
           refine L_gf (e := 50) (by rfl) (by decide) (rfl : _ = Value.bool (y132)) hb139 (by decide) ?_
           refine L_gf (e := 50) (by rfl) (by decide) (rfl : _ = Value.bool (y132)) hb139 (by decide) ?_
           refine L_gf (e := 50) (by rfl) (by decide) (rfl : _ = Value.bool (y132)) hb139 (by decide) ?_
           refine L_gf (e := 50) (by rfl) (by decide) (rfl : _ = Value.bool (y132)) hb139 (by decide) ?_
           refine L_pick_f (rfl : _ = Value.bool (y132)) hb139 (rfl : _ = Value.bool (false)) (by decide) ?_
           refine L_move (rfl : _ = Value.bool (false)) (by decide) ?_
           refine L_gf (e := 56) (by rfl) (by decide) (rfl : _ = Value.bool (false)) rfl (by decide) ?_
           refine L_gf (e := 56) (by rfl) (by decide) (rfl : _ = Value.bool (false)) rfl (by decide) ?_
           refine L_gf (e := 56) (by rfl) (by decide) (rfl : _ = Value.bool (false)) rfl (by decide) ?_
           refine L_gf (e := 56) (by rfl) (by decide) (rfl : _ = Value.bool (false)) rfl (by decide) ?_
           refine L_gf (e := 56) (by rfl) (by decide) (rfl : _ = Value.bool (false)) rfl (by decide) ?_
           refine L_pick_f (rfl : _ = Value.bool (false)) rfl (rfl : _ = Value.bool (false)) (by decide) ?_
           refine L_move (rfl : _ = Value.bool (false)) (by decide) ?_
           refine L_gf (e := 63) (by rfl) (by decide) (rfl : _ = Value.bool (false)) rfl (by decide) ?_
           refine L_gf (e := 63) (by rfl) (by decide) (rfl : _ = Value.bool (false)) rfl (by decide) ?_
           refine L_gf (e := 63) (by rfl) (by decide) (rfl : _ = Value.bool (false)) rfl (by decide) ?_
           refine L_pick_f (rfl : _ = Value.bool (false)) rfl (rfl : _ = Value.bool (false)) (by decide) ?_
           refine L_nil ?_
           exact then_n ⟨s137, false, rfl, hE138, e135.le, Option.some.inj hr, rfl, g104_1, g104_2, g104_7, g104_8, g104_9, g104_10, g104_11, rfl, g104_23, g104_24, g104_25, g104_41, g104_42, g104_43, (((hx105).ext e114).tch e122 ((fun k hk => ap120 k hk) b2 rfl)).ext e135, (((hx106).ext e114).tch e122 ((fun k hk => ap121 k hk) b16 rfl)).ext e135⟩
         ·rintro f177 w178 ⟨s159, x126, rfl, hE161, l160, ho128, g162_67, g162_1, g162_2, g162_7, g162_8, g162_9, g162_10, g162_11, g162_12, g162_23, g162_24, g162_25, g162_41, g162_42, g162_43, hx163, hx164⟩
          subst ho128
          have hr := hq129
          try dsimp only at hr
          refine W_cond _ g162_67 (fun hb165 => ?_) (fun hb165 => ?_)
          ·have hr := ite_t hb165 hr
           refine W_seq ?_
           refine W_region ?_
           refine L_move g162_7 (by decide) ?_
           refine L_move g162_10 (by decide) ?_
           refine L_move g162_9 (by decide) ?_
           refine L_move g162_12 (by decide) ?_
           refine L_move g162_12 (by decide) ?_
           refine L_mapUpdate (m := x91) Try.underlying92 Try.underlying3 (rfl : _ = Value.map (some b2)) (rfl : _ = Value.int .i64 (x31)) (rfl : _ = Value.int .i64 (x93)) (hx163) (Vint : V _ _ (x93 : Int)) ?_
           intro s168 e166 hv167
           have hE169 := Tch.trans hE161 e166 (fun k hk => Or.inr (by subst hk; exact (Nat.le_trans hE0.size hb3)))
           obtain ⟨y170, hy171, hr⟩ := bind_some hr
           refine L_indexA (sz := 1) Try.underlying116 ty4.inf (rfl : _ = Value.slice (some ⟨b16, 0, none⟩) ((y7.length : Int)).toNat ((y7.length : Int)).toNat) (rfl : _ = Value.int .i64 (x93)) (idx_some hy171).1 (by have := (idx_some hy171).2.1; have := ((hx164).tch e166 ((fun k hk hm => ap21 k hm hk) b16 rfl)).1; omega) (by decide) ?_
           refine L_storeA (xs := x92) ty4 (rfl : _ = Value.pointer (some ⟨b16, (x93).toNat * 1, none⟩)) (rfl : _ = Value.bool (true)) Vbool ((hx164).tch e166 ((fun k hk hm => ap21 k hm hk) b16 rfl)) hy171 ?_
           intro s174 e172 hv173
           have hE175 := Tch.trans hE169 e172 (fun k hk => Or.inr (by subst hk; exact (Nat.le_trans hE13.size hb17)))
           refine L_nil ?_
           refine then_n ?_
           refine W_exit ?_
           refine block_x (by decide) ?_
           refine then_x ?_
           refine then_x ?_
           refine block_here ?_
           exact then_n ⟨s174, (mset x91 x31 x93), (x92.set (x93).toNat true), rfl, hE175, (l102.trans (e114.le.trans (e122.le.trans (l160.trans (e166.le.trans e172.le))))), Option.some.inj hr, g162_1, g162_2, g162_7, g162_8, g162_9, g162_23, g162_24, g162_25, (hv167).tch e172 ((fun k hk => ap21 k hk) b2 rfl), hv173⟩
          ·have hr := ite_f hb165 hr
           refine W_skip ?_
           refine block_n ?_
           refine then_n ?_
           refine W_region ?_
           obtain ⟨hc176, hr⟩ := chk_some hr
           refine L_add g162_43 (rfl : _ = Value.int .i64 (1)) hc176 (by decide) ?_
           refine L_move (rfl : _ = Value.int .i64 (x93 + 1)) (by decide) ?_
           refine L_nil ?_
           exact then_n ⟨m98, Nat.lt_succ_self _, ⟨s159, (x93 + 1), x91, x92, rfl, hE161, (l102.trans (e114.le.trans (e122.le.trans l160))), hr, rfl, g162_1, g162_2, g162_7, g162_8, g162_9, g162_10, g162_11, g162_23, g162_24, g162_25, g162_41, g162_42, hx163, hx164⟩⟩
        ·have hr := ite_f hb107 hr
         refine W_exit ?_
         refine then_x ?_
         refine then_x ?_
         refine block_here ?_
         exact then_n ⟨s101, x91, x92, rfl, hE103, l102, Option.some.inj hr, g104_1, g104_2, g104_7, g104_8, g104_9, g104_23, g104_24, g104_25, hx105, hx106⟩
      ·rintro f179 w180 ⟨s183, x94, x95, rfl, hE185, l184, ho97, g186_1, g186_2, g186_7, g186_8, g186_9, g186_23, g186_24, g186_25, hx187, hx188⟩
       subst ho97
       have hr := hq99
       try dsimp only at hr
       refine block_n ?_
       refine then_n ?_
       refine W_region ?_
       obtain ⟨hc189, hr⟩ := chk_some hr
       refine L_add g186_25 (rfl : _ = Value.int .i64 (1)) hc189 (by decide) ?_
       refine L_move (rfl : _ = Value.int .i64 (x31 + 1)) (by decide) ?_
       refine L_nil ?_
       exact then_n ⟨m35, Nat.lt_succ_self _, ⟨s183, (x31 + 1), x94, x95, rfl, hE185, (l39.trans (e51.le.trans (e59.le.trans (l80.trans (e87.le.trans l184))))), hr, rfl, g186_1, g186_2, g186_7, g186_8, g186_9, g186_23, g186_24, hx187, hx188⟩⟩
   ·have hr := ite_f hb44 hr
    refine W_exit ?_
    refine then_x ?_
    refine then_x ?_
    refine block_here ?_
    exact then_n ⟨s38, x29, rfl, hE40, l39, Option.some.inj hr, g41_7, hx42⟩
 ·rintro f192 w193 ⟨s196, x32, rfl, hE198, l197, ho34, g199_7, hx200⟩
  subst ho34
  have hr := hq36
  try dsimp only at hr
  refine then_n ?_
  refine W_seq ?_
  refine W_region ?_
  refine L_move g199_7 (by decide) ?_
  refine L_assign (rfl : _ = Value.map (some b2)) (by decide) ?_
  refine L_nil ?_
  refine then_n ?_
  refine W_ret ?_
  obtain rfl := Option.some.inj hr
  obtain ⟨s201, ez202, tz203, fz204⟩ := (hx200).freeze
  have hE205 := Tch.trans hE198 tz203 (fun k hk => Or.inr (by subst hk; exact (Nat.le_trans hE0.size hb3)))
  exact done1 (Or.inl rfl) Try.results81 rfl ⟨_, _, rfl, ez202, hE205, fz204.toV⟩

theorem dead_run_taken_ok (N : Nat) (s0 : St) (w0 : Value) (a0 : Run) (h0 : Ptr s0 w0 a0) (a1 : Int) (a2 : Int) (r : Bool) (hr : dead_run_taken N a0 a1 a2 = some r) :
  Calls Try.prog 60 #[w0, .int .i64 a1, .int .i64 a2] s0.w (Ret s0 fun v s => V s v r) := by
 unfold dead_run_taken at hr
 have hE0 := Ext.refl s0
 refine Calls_of (n := 72) (args := [w0, .int .i64 a1, .int .i64 a2]) Try.func60 rfl rfl (by simp) ?_
 refine W_seq ?_
 refine W_region ?_
 refine L_assign (rfl : _ = Value.bool (false)) (by decide) ?_
 refine L_nil ?_
 refine then_n ?_
 refine W_seq ?_
 refine W_region ?_
 refine L_move (rfl : _ = w0) (by decide) ?_
 refine L_nilCheck_ptr (rfl : _ = w0) h0 (by decide) ?_
 refine L_fieldAddr fld72_0 Run.of_c (rfl : _ = w0) h0 (by decide) ?_
 intro p1 hp2
 refine L_load ty29 (rfl : _ = p1) hp2 (by decide) ?_
 intro v3 hv4
 refine L_move (rfl : _ = Value.int .i64 (a1)) (by decide) ?_
 obtain ⟨y5, hy6, hr⟩ := bind_some hr
 refine L_index Try.underlying29 ty59.inf (rfl : _ = v3) hv4 (rfl : _ = Value.int .i64 (a1)) hy6 (by decide) ?_
 intro p7 hp8
 refine L_load ty59 (rfl : _ = p7) hp8 (by decide) ?_
 intro v9 hv10
 refine L_move (rfl : _ = Value.int .i64 (a2)) (by decide) ?_
 obtain ⟨y11, hy12, hr⟩ := bind_some hr
 refine L_index Try.underlying59 ty64.inf (rfl : _ = v9) hv10 (rfl : _ = Value.int .i64 (a2)) hy12 (by decide) ?_
 intro p13 hp14
 refine L_load ty64 (rfl : _ = p13) hp14 (by decide) ?_
 intro v15 hv16
 refine L_alloc (α := Deed) (x := ⟨0, 0, 0, 0, false⟩) zero64 Deed.zero_rel (by decide) ?_
 intro s21 b18 e17 hb19 hv20
 have hE22 := Tch.ext hE0 e17
 refine L_store_ro ty64 (rfl : _ = Value.pointer (some ⟨b18, 0, none⟩)) (rfl : _ = v15) (hv16.mono e17.le) (hv20) ?_
 intro s25 e23 hv24
 have hE26 := Tch.trans hE22 e23 (fun k hk => Or.inr (by subst hk; exact (Nat.le_trans hE0.size hb19)))
 refine L_nil ?_
 refine then_n ?_
 refine W_seq ?_
 refine W_region ?_
 refine L_move (rfl : _ = w0) (by decide) ?_
 refine L_move (rfl : _ = Value.int .i64 (a1)) (by decide) ?_
 refine L_fieldAddr fld64_1 Deed.of_Peer (rfl : _ = Value.pointer (some ⟨b18, 0, none⟩)) hv24 (by decide) ?_
 intro p27 hp28
 refine L_load_int ty3 (rfl : _ = p27) hp28 (by decide) ?_
 obtain ⟨y29, hy30, hr⟩ := bind_some hr
 refine L_calls cal81 (args3 (rfl : _ = w0) (rfl : _ = Value.int .i64 (a1)) (rfl : _ = Value.int .i64 (y11.Peer))) (dead_run_pairs_ok N _ _ _ (h0.mono (e17.le.trans e23.le)) a1 y11.Peer y29 hy30) (by decide) ?_
 intro v31 s34 e32 hv33
 have hE35 := Tch.ext hE26 e32
 refine L_assign (rfl : _ = v31) (by decide) ?_
 refine L_nil ?_
 refine then_n ?_
 refine W_seq ?_
 refine W_seq ?_
 refine W_region ?_
 refine L_move (rfl : _ = v31) (by decide) ?_
 refine L_move (rfl : _ = Value.int .i64 (a2)) (by decide) ?_
 refine L_lookup (m := y29.l) (z0 := (0 : Int)) Try.underlying92 Try.underlying3 zero3 Vint (rfl : _ = v31) (rfl : _ = Value.int .i64 (a2)) (hv33).toMap (by decide) ?_
 intro v36 hv37
 obtain rfl := hv37.int
 refine L_geq (rfl : _ = Value.int .i64 ((mget y29.l a2).getD (0 : Int))) (rfl : _ = Value.int .i64 (0)) (by decide) ?_
 refine L_nil ?_
 refine then_n ?_
 refine W_cond _ (rfl : _ = Value.bool (decide (0 ≤ ((mget y29.l a2).getD (0 : Int))))) (fun hb38 => ?_) (fun hb38 => ?_)
 ·have hr := ite_t hb38 hr
  refine W_seq ?_
  refine W_region ?_
  refine L_assign (rfl : _ = Value.bool (true)) (by decide) ?_
  refine L_nil ?_
  refine then_n ?_
  refine W_ret ?_
  refine then_r ?_
  obtain rfl := Option.some.inj hr
  exact done1 (Or.inl rfl) Try.results60 rfl ⟨_, _, rfl, rfl, hE35, Vbool⟩
 ·have hr := ite_f hb38 hr
  refine W_skip ?_
  refine then_n ?_
  refine W_seq ?_
  refine W_region ?_
  refine L_assign (rfl : _ = Value.int .i64 (0)) (by decide) ?_
  refine L_nil ?_
  refine then_n ?_
  refine W_seq ?_
  refine W_seq ?_
  refine W_region ?_
  refine L_move (rfl : _ = v31) (by decide) ?_
  refine L_range (m := y29.l) Try.underlying92 (rfl : _ = v31) (hv33).toMap (by decide) ?_
  intro s43 b40 e39 hb41 hv42
  have hE44 := Tch.ext hE35 e39
  refine L_nil ?_
  refine then_n ?_
  obtain ⟨o48, ho49, hq51⟩ := bind_some hr
  refine W_cut (fun f w => ∃ (s : St) (x47 : Int), s.w = w ∧ Ext s0 s ∧ Le s43 s ∧ Sum.inl x47 = o48 ∧ f 9 = Value.int .i64 x47 ∧ f 0 = w0 ∧ f 7 = Value.pointer (some ⟨b18, 0, none⟩)) ?_ ?_
  ·refine W_block ?_
   refine W_loop (fun m f w => ∃ (R52 : List (Int × Int)) (s : St) (x46 : Int), s.w = w ∧ Ext s0 s ∧ Le s43 s ∧ (∀ l : List (Int × Int), l.Perm R52 → foldE (ρ := Bool) (dead_run_taken_l1 N a0 a1 a2) (fun (q : Int) => match q with | x46 => x46) l x46 = some o48) ∧ Iter s b40 R52 ∧ R52.length = m ∧ f 9 = Value.int .i64 x46 ∧ f 0 = w0 ∧ f 1 = Value.int .i64 (a1) ∧ f 2 = Value.int .i64 (a2) ∧ f 7 = Value.pointer (some ⟨b18, 0, none⟩) ∧ f 32 = Value.pointer (some ⟨b40, 0, none⟩)) y29.l.length ⟨y29.l, s43, 0, rfl, hE44, (Le.refl _), (fun l hl => (foldE_perm (dead_run_taken_l1_comm N a0 a1 a2) hl _).trans ho49), hv42, rfl, rfl, rfl, rfl, rfl, rfl, rfl⟩ ?_
   rintro m50 f100 w101 ⟨R52, s61, x46, rfl, hE63, l62, hall53, hI54, hm55, g64_9, g64_0, g64_1, g64_2, g64_7, g64_32⟩
   refine W_seq ?_
   refine W_region ?_
   refine L_next g64_32 (hI54) (by decide) (fun hR65 => ?_) (fun kv56 R60 s70 u69 hP59 e67 hI68 => ?_)
   ·have hr := hall53 [] (by rw [hR65])
    unfold foldE at hr
    refine L_extract (rfl : _ = Value.tuple #[Value.bool (false)]) (k := 0) rfl (by decide) ?_
    refine L_nil ?_
    refine then_n ?_
    refine W_seq ?_
    refine W_cond _ (rfl : _ = Value.bool (false)) (fun h => absurd (h.symm.trans rfl) (by decide)) (fun _ => ?_)
    refine W_exit ?_
    refine then_x ?_
    refine then_x ?_
    refine block_here ?_
    exact then_n ⟨s61, x46, rfl, hE63, l62, Option.some.inj hr, g64_9, g64_0, g64_7⟩
   ·have hE71 := Tch.trans hE63 e67 (fun k hk => Or.inr (by subst hk; exact (Nat.le_trans hE35.size hb41)))
    obtain ⟨q57, hr, hk58⟩ := foldE_cons hall53 hP59
    unfold dead_run_taken_l1 at hr
    try dsimp only at hr
    refine L_extract (rfl : _ = Value.tuple #[Value.bool (true), Value.int .i64 (kv56.1), u69]) (k := 0) rfl (by decide) ?_
    refine L_nil ?_
    refine then_n ?_
    refine W_seq ?_
    refine W_cond _ (rfl : _ = Value.bool (true)) (fun _ => ?_) (fun h => absurd (h.symm.trans rfl) (by decide))
    refine W_skip ?_
    refine then_n ?_
    refine W_block ?_
    refine W_seq ?_
    refine W_region ?_
    refine L_entry g64_32 (hI68) (by decide) ?_
    intro v74 hv75
    obtain rfl := hv75.int
    refine L_extract (rfl : _ = Value.tuple #[Value.int .i64 (kv56.1), Value.int .i64 (kv56.2)]) (k := 0) rfl (by decide) ?_
    refine L_extract (rfl : _ = Value.tuple #[Value.int .i64 (kv56.1), Value.int .i64 (kv56.2)]) (k := 1) rfl (by decide) ?_
    refine L_assign (rfl : _ = Value.int .i64 (kv56.1)) (by decide) ?_
    refine L_assign (rfl : _ = Value.int .i64 (kv56.2)) (by decide) ?_
    refine L_nil ?_
    refine then_n ?_
    refine W_seq ?_
    refine W_region ?_
    refine L_move (rfl : _ = Value.int .i64 (kv56.1)) (by decide) ?_
    refine L_move g64_2 (by decide) ?_
    refine L_lss (rfl : _ = Value.int .i64 (kv56.1)) (rfl : _ = Value.int .i64 (a2)) (by decide) ?_
    refine L_move (rfl : _ = Value.bool (decide (kv56.1 < a2))) (by decide) ?_
    rcases Bool.eq_false_or_eq_true (decide (kv56.1 < a2)) with hb76 | hb76
    ·have hr := ite_t hb76 hr
     refine L_gt (e := 41) (by rfl) (by decide) (rfl : _ = Value.bool (decide (kv56.1 < a2))) hb76 ?_
     refine L_move (rfl : _ = Value.int .i64 (kv56.2)) (by decide) ?_
     refine L_gt (e := 41) (by rfl) (by decide) (rfl : _ = Value.bool (decide (kv56.1 < a2))) hb76 ?_
     refine L_lss (rfl : _ = Value.int .i64 (kv56.2)) (rfl : _ = Value.int .i64 (0)) (by decide) ?_
     refine L_pick_t (rfl : _ = Value.bool (decide (kv56.1 < a2))) hb76 (rfl : _ = Value.bool (decide (kv56.2 < 0))) (by decide) ?_
     refine L_move (rfl : _ = Value.bool (decide (kv56.2 < 0))) (by decide) ?_
     rcases Bool.eq_false_or_eq_true (decide (kv56.2 < 0)) with hb77 | hb77
     ·have hr := ite_t hb77 hr
      refine L_gt (e := 45) (by rfl) (by decide) (rfl : _ = Value.bool (decide (kv56.2 < 0))) hb77 ?_
      refine L_move g64_0 (by decide) ?_
      refine L_gt (e := 45) (by rfl) (by decide) (rfl : _ = Value.bool (decide (kv56.2 < 0))) hb77 ?_
      refine L_nilCheck_ptr (rfl : _ = w0) (h0.mono (e17.le.trans (e23.le.trans (e32.le.trans (e39.le.trans (l62.trans e67.le)))))) (by decide) ?_
      refine L_gt (e := 45) (by rfl) (by decide) (rfl : _ = Value.bool (decide (kv56.2 < 0))) hb77 ?_
      refine L_fieldAddr fld72_0 Run.of_c (rfl : _ = w0) (h0.mono (e17.le.trans (e23.le.trans (e32.le.trans (e39.le.trans (l62.trans e67.le)))))) (by decide) ?_
      intro p78 hp79
      refine L_gt (e := 45) (by rfl) (by decide) (rfl : _ = Value.bool (decide (kv56.2 < 0))) hb77 ?_
      refine L_load ty29 (rfl : _ = p78) hp79 (by decide) ?_
      intro v80 hv81
      refine L_gt (e := 45) (by rfl) (by decide) (rfl : _ = Value.bool (decide (kv56.2 < 0))) hb77 ?_
      refine L_move g64_1 (by decide) ?_
      refine L_gt (e := 45) (by rfl) (by decide) (rfl : _ = Value.bool (decide (kv56.2 < 0))) hb77 ?_
      obtain ⟨y82, hy83, hr⟩ := bind_some hr
      refine L_index Try.underlying29 ty59.inf (rfl : _ = v80) hv81 (rfl : _ = Value.int .i64 (a1)) hy83 (by decide) ?_
      intro p84 hp85
      refine L_gt (e := 45) (by rfl) (by decide) (rfl : _ = Value.bool (decide (kv56.2 < 0))) hb77 ?_
      refine L_load ty59 (rfl : _ = p84) hp85 (by decide) ?_
      intro v86 hv87
      refine L_gt (e := 45) (by rfl) (by decide) (rfl : _ = Value.bool (decide (kv56.2 < 0))) hb77 ?_
      refine L_move (rfl : _ = Value.int .i64 (kv56.1)) (by decide) ?_
      refine L_gt (e := 45) (by rfl) (by decide) (rfl : _ = Value.bool (decide (kv56.2 < 0))) hb77 ?_
      obtain ⟨y88, hy89, hr⟩ := bind_some hr
      refine L_index Try.underlying59 ty64.inf (rfl : _ = v86) hv87 (rfl : _ = Value.int .i64 (kv56.1)) hy89 (by decide) ?_
      intro p90 hp91
      refine L_gt (e := 45) (by rfl) (by decide) (rfl : _ = Value.bool (decide (kv56.2 < 0))) hb77 ?_
      refine L_fieldAddr fld64_4 Deed.of_Sync (rfl : _ = p90) hp91 (by decide) ?_
      intro p92 hp93
      refine L_gt (e := 45) (by rfl) (by decide) (rfl : _ = Value.bool (decide (kv56.2 < 0))) hb77 ?_
      refine L_load_bool ty4 (rfl : _ = p92) hp93 (by decide) ?_
      refine L_gt (e := 45) (by rfl) (by decide) (rfl : _ = Value.bool (decide (kv56.2 < 0))) hb77 ?_
      refine L_not (rfl : _ = Value.bool (y88.Sync)) (by decide) ?_
      refine L_pick_t (rfl : _ = Value.bool (decide (kv56.2 < 0))) hb77 (rfl : _ = Value.bool (!y88.Sync)) (by decide) ?_
      refine L_nil ?_
      refine then_n ?_
      refine W_cond _ (rfl : _ = Value.bool (!y88.Sync)) (fun hb94 => ?_) (fun hb94 => ?_)
      ·have hr := ite_t hb94 hr
       refine W_region ?_
       refine L_move g64_9 (by decide) ?_
       obtain ⟨hc95, hr⟩ := chk_some hr
       refine L_add (rfl : _ = Value.int .i64 (x46)) (rfl : _ = Value.int .i64 (1)) hc95 (by decide) ?_
       refine L_assign (rfl : _ = Value.int .i64 (x46 + 1)) (by decide) ?_
       refine L_nil ?_
       refine block_n ?_
       obtain rfl := Option.some.inj hr
       exact then_n ⟨R60.length, by have := hP59.length_eq; have := hm55; simp at *; omega, ⟨R60, s70, (x46 + 1), rfl, hE71, (l62.trans e67.le), hk58, ((hI68)).iter, rfl, rfl, g64_0, g64_1, g64_2, g64_7, g64_32⟩⟩
      ·have hr := ite_f hb94 hr
       refine W_skip ?_
       refine block_n ?_
       obtain rfl := Option.some.inj hr
       exact then_n ⟨R60.length, by have := hP59.length_eq; have := hm55; simp at *; omega, ⟨R60, s70, x46, rfl, hE71, (l62.trans e67.le), hk58, ((hI68)).iter, rfl, g64_9, g64_0, g64_1, g64_2, g64_7, g64_32⟩⟩
     ·have hr := ite_f hb77 hr
      refine L_gf (e := 45) (by rfl) (by decide) (rfl : _ = Value.bool (decide (kv56.2 < 0))) hb77 (by decide) ?_
      refine L_gf (e := 45) (by rfl) (by decide) (rfl : _ = Value.bool (decide (kv56.2 < 0))) hb77 (by decide) ?_
      refine L_gf (e := 45) (by rfl) (by decide) (rfl : _ = Value.bool (decide (kv56.2 < 0))) hb77 (by decide) ?_
      refine L_gf (e := 45) (by rfl) (by decide) (rfl : _ = Value.bool (decide (kv56.2 < 0))) hb77 (by decide) ?_
      refine L_gf (e := 45) (by rfl) (by decide) (rfl : _ = Value.bool (decide (kv56.2 < 0))) hb77 (by decide) ?_
      refine L_gf (e := 45) (by rfl) (by decide) (rfl : _ = Value.bool (decide (kv56.2 < 0))) hb77 (by decide) ?_
      refine L_gf (e := 45) (by rfl) (by decide) (rfl : _ = Value.bool (decide (kv56.2 < 0))) hb77 (by decide) ?_
      refine L_gf (e := 45) (by rfl) (by decide) (rfl : _ = Value.bool (decide (kv56.2 < 0))) hb77 (by decide) ?_
      refine L_gf (e := 45) (by rfl) (by decide) (rfl : _ = Value.bool (decide (kv56.2 < 0))) hb77 (by decide) ?_
      refine L_gf (e := 45) (by rfl) (by decide) (rfl : _ = Value.bool (decide (kv56.2 < 0))) hb77 (by decide) ?_
      refine L_gf (e := 45) (by rfl) (by decide) (rfl : _ = Value.bool (decide (kv56.2 < 0))) hb77 (by decide) ?_
      refine L_gf (e := 45) (by rfl) (by decide) (rfl : _ = Value.bool (decide (kv56.2 < 0))) hb77 (by decide) ?_
      refine L_pick_f (rfl : _ = Value.bool (decide (kv56.2 < 0))) hb77 (rfl : _ = Value.bool (false)) (by decide) ?_
      refine L_nil ?_
      refine then_n ?_
      refine W_cond _ (rfl : _ = Value.bool (false)) (fun h => absurd (h.symm.trans rfl) (by decide)) (fun _ => ?_)
      refine W_skip ?_
      refine block_n ?_
      obtain rfl := Option.some.inj hr
      exact then_n ⟨R60.length, by have := hP59.length_eq; have := hm55; simp at *; omega, ⟨R60, s70, x46, rfl, hE71, (l62.trans e67.le), hk58, ((hI68)).iter, rfl, g64_9, g64_0, g64_1, g64_2, g64_7, g64_32⟩⟩
    ·have hr := ite_f hb76 hr
     refine L_gf (e := 41) (by rfl) (by decide) (rfl : _ = Value.bool (decide (kv56.1 < a2))) hb76 (by decide) ?_
     refine L_gf (e := 41) (by rfl) (by decide) (rfl : _ = Value.bool (decide (kv56.1 < a2))) hb76 (by decide) ?_
     refine L_pick_f (rfl : _ = Value.bool (decide (kv56.1 < a2))) hb76 (rfl : _ = Value.bool (false)) (by decide) ?_
     refine L_move (rfl : _ = Value.bool (false)) (by decide) ?_
     refine L_gf (e := 45) (by rfl) (by decide) (rfl : _ = Value.bool (false)) rfl (by decide) ?_
     refine L_gf (e := 45) (by rfl) (by decide) (rfl : _ = Value.bool (false)) rfl (by decide) ?_
     refine L_gf (e := 45) (by rfl) (by decide) (rfl : _ = Value.bool (false)) rfl (by decide) ?_
     refine L_gf (e := 45) (by rfl) (by decide) (rfl : _ = Value.bool (false)) rfl (by decide) ?_
     refine L_gf (e := 45) (by rfl) (by decide) (rfl : _ = Value.bool (false)) rfl (by decide) ?_
     refine L_gf (e := 45) (by rfl) (by decide) (rfl : _ = Value.bool (false)) rfl (by decide) ?_
     refine L_gf (e := 45) (by rfl) (by decide) (rfl : _ = Value.bool (false)) rfl (by decide) ?_
     refine L_gf (e := 45) (by rfl) (by decide) (rfl : _ = Value.bool (false)) rfl (by decide) ?_
     refine L_gf (e := 45) (by rfl) (by decide) (rfl : _ = Value.bool (false)) rfl (by decide) ?_
     refine L_gf (e := 45) (by rfl) (by decide) (rfl : _ = Value.bool (false)) rfl (by decide) ?_
     refine L_gf (e := 45) (by rfl) (by decide) (rfl : _ = Value.bool (false)) rfl (by decide) ?_
     refine L_gf (e := 45) (by rfl) (by decide) (rfl : _ = Value.bool (false)) rfl (by decide) ?_
     refine L_pick_f (rfl : _ = Value.bool (false)) rfl (rfl : _ = Value.bool (false)) (by decide) ?_
     refine L_nil ?_
     refine then_n ?_
     refine W_cond _ (rfl : _ = Value.bool (false)) (fun h => absurd (h.symm.trans rfl) (by decide)) (fun _ => ?_)
     refine W_skip ?_
     refine block_n ?_
     obtain rfl := Option.some.inj hr
     exact then_n ⟨R60.length, by have := hP59.length_eq; have := hm55; simp at *; omega, ⟨R60, s70, x46, rfl, hE71, (l62.trans e67.le), hk58, ((hI68)).iter, rfl, g64_9, g64_0, g64_1, g64_2, g64_7, g64_32⟩⟩
  ·rintro f98 w99 ⟨s102, x47, rfl, hE104, l103, ho49, g105_9, g105_0, g105_7⟩
   subst ho49
   have hr := hq51
   try dsimp only at hr
   refine then_n ?_
   refine W_seq ?_
   refine W_region ?_
   refine L_fieldAddr fld64_4 Deed.of_Sync g105_7 (hv24.mono (e32.le.trans (e39.le.trans l103))) (by decide) ?_
   intro p106 hp107
   refine L_load_bool ty4 (rfl : _ = p106) hp107 (by decide) ?_
   refine L_not (rfl : _ = Value.bool (y11.Sync)) (by decide) ?_
   refine L_move (rfl : _ = Value.bool (!y11.Sync)) (by decide) ?_
   rcases Bool.eq_false_or_eq_true (!y11.Sync) with hb108 | hb108
   ·have hr := ite_t hb108 hr
    refine L_gt (e := 64) (by rfl) (by decide) (rfl : _ = Value.bool (!y11.Sync)) hb108 ?_
    refine L_move g105_9 (by decide) ?_
    refine L_gt (e := 64) (by rfl) (by decide) (rfl : _ = Value.bool (!y11.Sync)) hb108 ?_
    refine L_move g105_0 (by decide) ?_
    refine L_gt (e := 64) (by rfl) (by decide) (rfl : _ = Value.bool (!y11.Sync)) hb108 ?_
    refine L_nilCheck_ptr (rfl : _ = w0) (h0.mono (e17.le.trans (e23.le.trans (e32.le.trans (e39.le.trans l103))))) (by decide) ?_
    refine L_gt (e := 64) (by rfl) (by decide) (rfl : _ = Value.bool (!y11.Sync)) hb108 ?_
    refine L_fieldAddr fld72_1 Run.of_room (rfl : _ = w0) (h0.mono (e17.le.trans (e23.le.trans (e32.le.trans (e39.le.trans l103))))) (by decide) ?_
    intro p109 hp110
    refine L_gt (e := 64) (by rfl) (by decide) (rfl : _ = Value.bool (!y11.Sync)) hb108 ?_
    refine L_load_int ty3 (rfl : _ = p109) hp110 (by decide) ?_
    refine L_gt (e := 64) (by rfl) (by decide) (rfl : _ = Value.bool (!y11.Sync)) hb108 ?_
    refine L_lss (rfl : _ = Value.int .i64 (x47)) (rfl : _ = Value.int .i64 (a0.room)) (by decide) ?_
    refine L_pick_t (rfl : _ = Value.bool (!y11.Sync)) hb108 (rfl : _ = Value.bool (decide (x47 < a0.room))) (by decide) ?_
    refine L_assign (rfl : _ = Value.bool (decide (x47 < a0.room))) (by decide) ?_
    refine L_nil ?_
    refine then_n ?_
    refine W_ret ?_
    obtain rfl := Option.some.inj hr
    exact done1 (Or.inl rfl) Try.results60 rfl ⟨_, _, rfl, rfl, hE104, Vbool⟩
   ·have hr := ite_f hb108 hr
    refine L_gf (e := 64) (by rfl) (by decide) (rfl : _ = Value.bool (!y11.Sync)) hb108 (by decide) ?_
    refine L_gf (e := 64) (by rfl) (by decide) (rfl : _ = Value.bool (!y11.Sync)) hb108 (by decide) ?_
    refine L_gf (e := 64) (by rfl) (by decide) (rfl : _ = Value.bool (!y11.Sync)) hb108 (by decide) ?_
    refine L_gf (e := 64) (by rfl) (by decide) (rfl : _ = Value.bool (!y11.Sync)) hb108 (by decide) ?_
    refine L_gf (e := 64) (by rfl) (by decide) (rfl : _ = Value.bool (!y11.Sync)) hb108 (by decide) ?_
    refine L_gf (e := 64) (by rfl) (by decide) (rfl : _ = Value.bool (!y11.Sync)) hb108 (by decide) ?_
    refine L_pick_f (rfl : _ = Value.bool (!y11.Sync)) hb108 (rfl : _ = Value.bool (false)) (by decide) ?_
    refine L_assign (rfl : _ = Value.bool (false)) (by decide) ?_
    refine L_nil ?_
    refine then_n ?_
    refine W_ret ?_
    obtain rfl := Option.some.inj hr
    exact done1 (Or.inl rfl) Try.results60 rfl ⟨_, _, rfl, rfl, hE104, Vbool⟩

theorem dead_run_can_1_ok (N : Nat) (s0 : St) (w0 : Value) (a0 : Ref Run) (h0 : Ptr s0 w0 a0) (w1 : Value) (a1 : Int) (h1 : Ptr s0 w1 a1) (w2 : Value) (a2 : Int) (h2 : Ptr s0 w2 a2) (r : Bool) (hr : dead_run_can_1 N a0 a1 a2 = some r) :
  Calls Try.prog 59 #[w0, w1, w2] s0.w (Ret s0 fun v s => V s v r) := by
 unfold dead_run_can_1 at hr
 have hE0 := Ext.refl s0
 refine Calls_of (n := 8) (args := [w0, w1, w2]) Try.func59 rfl rfl (by simp) ?_
 refine W_seq ?_
 refine W_region ?_
 refine L_assign (rfl : _ = Value.bool (false)) (by decide) ?_
 refine L_nil ?_
 refine then_n ?_
 refine W_seq ?_
 refine W_region ?_
 refine L_load ty67 (rfl : _ = w0) h0 (by decide) ?_
 intro v1 hv2
 refine L_load_int ty3 (rfl : _ = w1) h1 (by decide) ?_
 refine L_load_int ty3 (rfl : _ = w2) h2 (by decide) ?_
 obtain ⟨y3, hy4, hr⟩ := bind_some hr
 refine L_calls cal60 (args3 (rfl : _ = v1) (rfl : _ = Value.int .i64 (a1)) (rfl : _ = Value.int .i64 (a2))) (dead_run_taken_ok N _ _ _ hv2.toPtr a1 a2 y3 hy4) (by decide) ?_
 intro v5 s8 e6 hv7
 have hE9 := Tch.ext hE0 e6
 obtain rfl := hv7.bool
 refine L_assign (rfl : _ = Value.bool (y3)) (by decide) ?_
 refine L_nil ?_
 refine then_n ?_
 refine W_ret ?_
 obtain rfl := Option.some.inj hr
 exact done1 (Or.inl rfl) Try.results59 rfl ⟨_, _, rfl, rfl, hE9, Vbool⟩

theorem dead_run_received_ok (N : Nat) (s0 : St) (w0 : Value) (a0 : Run) (h0 : Ptr s0 w0 a0) (a1 : Int) (a2 : Int) (r : Bool) (hr : dead_run_received N a0 a1 a2 = some r) :
  Calls Try.prog 62 #[w0, .int .i64 a1, .int .i64 a2] s0.w (Ret s0 fun v s => V s v r) := by
 unfold dead_run_received at hr
 have hE0 := Ext.refl s0
 refine Calls_of (n := 31) (args := [w0, .int .i64 a1, .int .i64 a2]) Try.func62 rfl rfl (by simp) ?_
 refine W_seq ?_
 refine W_region ?_
 refine L_assign (rfl : _ = Value.bool (false)) (by decide) ?_
 refine L_nil ?_
 refine then_n ?_
 refine W_seq ?_
 refine W_seq ?_
 refine W_region ?_
 refine L_move (rfl : _ = w0) (by decide) ?_
 refine L_move (rfl : _ = w0) (by decide) ?_
 refine L_nilCheck_ptr (rfl : _ = w0) h0 (by decide) ?_
 refine L_fieldAddr fld72_0 Run.of_c (rfl : _ = w0) h0 (by decide) ?_
 intro p1 hp2
 refine L_load ty29 (rfl : _ = p1) hp2 (by decide) ?_
 intro v3 hv4
 refine L_move (rfl : _ = Value.int .i64 (a1)) (by decide) ?_
 obtain ⟨y5, hy6, hr⟩ := bind_some hr
 refine L_index Try.underlying29 ty59.inf (rfl : _ = v3) hv4 (rfl : _ = Value.int .i64 (a1)) hy6 (by decide) ?_
 intro p7 hp8
 refine L_load ty59 (rfl : _ = p7) hp8 (by decide) ?_
 intro v9 hv10
 refine L_move (rfl : _ = Value.int .i64 (a2)) (by decide) ?_
 obtain ⟨y11, hy12, hr⟩ := bind_some hr
 refine L_index Try.underlying59 ty64.inf (rfl : _ = v9) hv10 (rfl : _ = Value.int .i64 (a2)) hy12 (by decide) ?_
 intro p13 hp14
 refine L_fieldAddr fld64_1 Deed.of_Peer (rfl : _ = p13) hp14 (by decide) ?_
 intro p15 hp16
 refine L_load_int ty3 (rfl : _ = p15) hp16 (by decide) ?_
 refine L_move (rfl : _ = Value.int .i64 (a1)) (by decide) ?_
 obtain ⟨y17, hy18, hr⟩ := bind_some hr
 refine L_calls cal81 (args3 (rfl : _ = w0) (rfl : _ = Value.int .i64 (y11.Peer)) (rfl : _ = Value.int .i64 (a1))) (dead_run_pairs_ok N _ _ _ h0 y11.Peer a1 y17 hy18) (by decide) ?_
 intro v19 s22 e20 hv21
 have hE23 := Tch.ext hE0 e20
 refine L_range (m := y17.l) Try.underlying92 (rfl : _ = v19) (hv21).toMap (by decide) ?_
 intro s28 b25 e24 hb26 hv27
 have hE29 := Tch.ext hE23 e24
 refine L_nil ?_
 refine then_n ?_
 obtain ⟨o31, ho32, hq34⟩ := bind_some hr
 refine W_cut (fun f w => ∃ (s : St), s.w = w ∧ Ext s0 s ∧ Le s28 s ∧ Sum.inl () = o31) ?_ ?_
 ·refine W_block ?_
  refine W_loop (fun m f w => ∃ (R35 : List (Int × Int)) (s : St), s.w = w ∧ Ext s0 s ∧ Le s28 s ∧ (∀ l : List (Int × Int), l.Perm R35 → foldE (ρ := Bool) (dead_run_received_l1 N a2) (fun (q : Unit) => match q with | () => ()) l () = some o31) ∧ Iter s b25 R35 ∧ R35.length = m ∧ f 2 = Value.int .i64 (a2) ∧ f 23 = Value.pointer (some ⟨b25, 0, none⟩)) y17.l.length ⟨y17.l, s28, rfl, hE29, (Le.refl _), (fun l hl => (foldE_perm (dead_run_received_l1_comm N a2) hl _).trans ho32), hv27, rfl, rfl, rfl⟩ ?_
  rintro m33 f62 w63 ⟨R35, s44, rfl, hE46, l45, hall36, hI37, hm38, g47_2, g47_23⟩
  refine W_seq ?_
  refine W_region ?_
  refine L_next g47_23 (hI37) (by decide) (fun hR48 => ?_) (fun kv39 R43 s53 u52 hP42 e50 hI51 => ?_)
  ·have hr := hall36 [] (by rw [hR48])
   unfold foldE at hr
   refine L_extract (rfl : _ = Value.tuple #[Value.bool (false)]) (k := 0) rfl (by decide) ?_
   refine L_nil ?_
   refine then_n ?_
   refine W_seq ?_
   refine W_cond _ (rfl : _ = Value.bool (false)) (fun h => absurd (h.symm.trans rfl) (by decide)) (fun _ => ?_)
   refine W_exit ?_
   refine then_x ?_
   refine then_x ?_
   refine block_here ?_
   exact then_n ⟨s44, rfl, hE46, l45, Option.some.inj hr⟩
  ·have hE54 := Tch.trans hE46 e50 (fun k hk => Or.inr (by subst hk; exact (Nat.le_trans hE23.size hb26)))
   obtain ⟨q40, hr, hk41⟩ := foldE_cons hall36 hP42
   unfold dead_run_received_l1 at hr
   try dsimp only at hr
   refine L_extract (rfl : _ = Value.tuple #[Value.bool (true), Value.int .i64 (kv39.1), u52]) (k := 0) rfl (by decide) ?_
   refine L_nil ?_
   refine then_n ?_
   refine W_seq ?_
   refine W_cond _ (rfl : _ = Value.bool (true)) (fun _ => ?_) (fun h => absurd (h.symm.trans rfl) (by decide))
   refine W_skip ?_
   refine then_n ?_
   refine W_block ?_
   refine W_seq ?_
   refine W_region ?_
   refine L_entry g47_23 (hI51) (by decide) ?_
   intro v57 hv58
   obtain rfl := hv58.int
   refine L_extract (rfl : _ = Value.tuple #[Value.int .i64 (kv39.1), Value.int .i64 (kv39.2)]) (k := 1) rfl (by decide) ?_
   refine L_assign (rfl : _ = Value.int .i64 (kv39.2)) (by decide) ?_
   refine L_nil ?_
   refine then_n ?_
   refine W_seq ?_
   refine W_region ?_
   refine L_move (rfl : _ = Value.int .i64 (kv39.2)) (by decide) ?_
   refine L_move g47_2 (by decide) ?_
   refine L_eql (rfl : _ = Value.int .i64 (kv39.2)) (rfl : _ = Value.int .i64 (a2)) (by decide) ?_
   refine L_nil ?_
   refine then_n ?_
   refine W_cond _ (rfl : _ = Value.bool (decide (kv39.2 = a2))) (fun hb59 => ?_) (fun hb59 => ?_)
   ·have hr := ite_t hb59 hr
    refine W_seq ?_
    refine W_region ?_
    refine L_assign (rfl : _ = Value.bool (true)) (by decide) ?_
    refine L_nil ?_
    refine then_n ?_
    refine W_ret ?_
    refine block_r ?_
    refine then_r ?_
    refine block_r ?_
    obtain rfl := Option.some.inj hr
    have hr := hk41 _ (List.Perm.refl _)
    unfold foldK at hr
    try dsimp only at hr
    obtain rfl := Option.some.inj hr
    have hr := hq34
    try dsimp only at hr
    refine then_r ?_
    refine then_r ?_
    obtain rfl := Option.some.inj hr
    exact done1 (Or.inl rfl) Try.results62 rfl ⟨_, _, rfl, rfl, hE54, Vbool⟩
   ·have hr := ite_f hb59 hr
    refine W_skip ?_
    refine block_n ?_
    obtain rfl := Option.some.inj hr
    exact then_n ⟨R43.length, by have := hP42.length_eq; have := hm38; simp at *; omega, ⟨R43, s53, rfl, hE54, (l45.trans e50.le), hk41, ((hI51)).iter, rfl, g47_2, g47_23⟩⟩
 ·rintro f60 w61 ⟨s64, rfl, hE66, l65, ho32⟩
  subst ho32
  have hr := hq34
  try dsimp only at hr
  refine then_n ?_
  refine W_seq ?_
  refine W_region ?_
  refine L_assign (rfl : _ = Value.bool (false)) (by decide) ?_
  refine L_nil ?_
  refine then_n ?_
  refine W_ret ?_
  obtain rfl := Option.some.inj hr
  exact done1 (Or.inl rfl) Try.results62 rfl ⟨_, _, rfl, rfl, hE66, Vbool⟩

theorem dead_run_can_2_ok (N : Nat) (s0 : St) (w0 : Value) (a0 : Ref Run) (h0 : Ptr s0 w0 a0) (w1 : Value) (a1 : Int) (h1 : Ptr s0 w1 a1) (w2 : Value) (a2 : Int) (h2 : Ptr s0 w2 a2) (r : Bool) (hr : dead_run_can_2 N a0 a1 a2 = some r) :
  Calls Try.prog 61 #[w0, w1, w2] s0.w (Ret s0 fun v s => V s v r) := by
 unfold dead_run_can_2 at hr
 have hE0 := Ext.refl s0
 refine Calls_of (n := 8) (args := [w0, w1, w2]) Try.func61 rfl rfl (by simp) ?_
 refine W_seq ?_
 refine W_region ?_
 refine L_assign (rfl : _ = Value.bool (false)) (by decide) ?_
 refine L_nil ?_
 refine then_n ?_
 refine W_seq ?_
 refine W_region ?_
 refine L_load ty67 (rfl : _ = w0) h0 (by decide) ?_
 intro v1 hv2
 refine L_load_int ty3 (rfl : _ = w1) h1 (by decide) ?_
 refine L_load_int ty3 (rfl : _ = w2) h2 (by decide) ?_
 obtain ⟨y3, hy4, hr⟩ := bind_some hr
 refine L_calls cal62 (args3 (rfl : _ = v1) (rfl : _ = Value.int .i64 (a1)) (rfl : _ = Value.int .i64 (a2))) (dead_run_received_ok N _ _ _ hv2.toPtr a1 a2 y3 hy4) (by decide) ?_
 intro v5 s8 e6 hv7
 have hE9 := Tch.ext hE0 e6
 obtain rfl := hv7.bool
 refine L_assign (rfl : _ = Value.bool (y3)) (by decide) ?_
 refine L_nil ?_
 refine then_n ?_
 refine W_ret ?_
 obtain rfl := Option.some.inj hr
 exact done1 (Or.inl rfl) Try.results61 rfl ⟨_, _, rfl, rfl, hE9, Vbool⟩

theorem dead_run_meetings_1_ok (N : Nat) (s0 : St) (w0 : Value) (a0 : Deed) (h0 : V s0 w0 a0) (r : Bool) (hr : dead_run_meetings_1 N a0 = some r) :
  Calls Try.prog 87 #[w0] s0.w (Ret s0 fun v s => V s v r) := by
 unfold dead_run_meetings_1 at hr
 have hE0 := Ext.refl s0
 refine Calls_of (n := 6) (args := [w0]) Try.func87 rfl rfl (by simp) ?_
 refine W_seq ?_
 refine W_region ?_
 refine L_box (rfl : _ = w0) h0 (by decide) ?_
 intro s4 p2 e1 hp3
 have hE5 := Tch.ext hE0 e1
 refine L_assign (rfl : _ = Value.bool (false)) (by decide) ?_
 refine L_nil ?_
 refine then_n ?_
 refine W_seq ?_
 refine W_region ?_
 refine L_fieldAddr fld64_0 Deed.of_Kind (rfl : _ = p2) hp3 (by decide) ?_
 intro p6 hp7
 refine L_load_int ty3 (rfl : _ = p6) hp7 (by decide) ?_
 refine L_eql (rfl : _ = Value.int .i64 (a0.Kind)) (rfl : _ = Value.int .i64 (6)) (by decide) ?_
 refine L_assign (rfl : _ = Value.bool (decide (a0.Kind = 6))) (by decide) ?_
 refine L_nil ?_
 refine then_n ?_
 refine W_ret ?_
 obtain rfl := Option.some.inj hr
 exact done1 (Or.inl rfl) Try.results87 rfl ⟨_, _, rfl, rfl, hE5, Vbool⟩

theorem dead_run_meetings_ok (N : Nat) (s0 : St) (w0 : Value) (a0 : Run) (h0 : Ptr s0 w0 a0) (a1 : Int) (r : Int) (hr : dead_run_meetings N a0 a1 = some r) :
  Calls Try.prog 76 #[w0, .int .i64 a1] s0.w (Ret s0 fun v s => V s v r) := by
 unfold dead_run_meetings at hr
 have hE0 := Ext.refl s0
 refine Calls_of (n := 9) (args := [w0, .int .i64 a1]) Try.func76 rfl rfl (by simp) ?_
 refine W_seq ?_
 refine W_region ?_
 refine L_assign (rfl : _ = Value.int .i64 (0)) (by decide) ?_
 refine L_nil ?_
 refine then_n ?_
 refine W_seq ?_
 refine W_region ?_
 refine L_move (rfl : _ = w0) (by decide) ?_
 refine L_move (rfl : _ = Value.int .i64 (a1)) (by decide) ?_
 obtain ⟨y1, hy2, hr⟩ := bind_some hr
 refine L_calls cal86 (args2 (rfl : _ = w0) (rfl : _ = Value.int .i64 (a1))) (dead_run_begun_ok N _ _ _ h0 a1 y1 hy2) (by decide) ?_
 intro v3 s6 e4 hv5
 have hE7 := Tch.ext hE0 e4
 obtain ⟨y8, hy9, hr⟩ := bind_some hr
 refine L_calls cal79 (args2 (rfl : _ = v3) (rfl : _ = Value.func (.func 87) #[] #[])) (dead_count_lang_Deed_ok N _ _ _ hv5 _ (fun x => dead_run_meetings_1 N x ) (Fn1.mk0 cal87 fun t vx x r hl hv hr => dead_run_meetings_1_ok N t vx x hv  r hr) y8 hy9) (by decide) ?_
 intro v10 s13 e11 hv12
 have hE14 := Tch.ext hE7 e11
 obtain rfl := hv12.int
 refine L_assign (rfl : _ = Value.int .i64 (y8)) (by decide) ?_
 refine L_nil ?_
 refine then_n ?_
 refine W_ret ?_
 obtain rfl := Option.some.inj hr
 exact done1 (Or.inl rfl) Try.results76 rfl ⟨_, _, rfl, rfl, hE14, Vint⟩

theorem dead_run_late_ok (N : Nat) (s0 : St) (w0 : Value) (a0 : Run) (h0 : Ptr s0 w0 a0) (a1 : Int) (r : (List Int)) (hr : dead_run_late N a0 a1 = some r) :
  Calls Try.prog 51 #[w0, .int .i64 a1] s0.w (Ret s0 fun v s => V s v r) := by
 unfold dead_run_late at hr
 have hE0 := Ext.refl s0
 refine Calls_of (n := 28) (args := [w0, .int .i64 a1]) Try.func51 rfl rfl (by simp) ?_
 refine W_seq ?_
 refine W_region ?_
 refine L_assign (rfl : _ = Value.slice none 0 0) (by decide) ?_
 refine L_nil ?_
 refine then_n ?_
 refine W_seq ?_
 refine W_region ?_
 refine L_assign (rfl : _ = Value.slice none 0 0) (by decide) ?_
 refine L_nil ?_
 refine then_n ?_
 refine W_seq ?_
 refine W_seq ?_
 refine W_region ?_
 refine L_move (rfl : _ = w0) (by decide) ?_
 refine L_nilCheck_ptr (rfl : _ = w0) h0 (by decide) ?_
 refine L_fieldAddr fld72_0 Run.of_c (rfl : _ = w0) h0 (by decide) ?_
 intro p1 hp2
 refine L_load ty29 (rfl : _ = p1) hp2 (by decide) ?_
 intro v3 hv4
 refine L_len Try.underlying29 (rfl : _ = v3) hv4 (by decide) ?_
 refine L_move (rfl : _ = Value.int .i64 (0)) (by decide) ?_
 refine L_nil ?_
 refine then_n ?_
 obtain ⟨o10, ho11, hq13⟩ := bind_some hr
 refine W_cut (fun f w => ∃ (s : St) (v9 : Value) (x8 : List Int), s.w = w ∧ Ext s0 s ∧ Le s0 s ∧ x8 = o10 ∧ f 5 = v9 ∧ Bld s s0.w.heap.size 3 v9 x8) ?_ ?_
 ·refine W_block ?_
  refine W_loop (fun m f w => ∃ (s : St) (v6 : Value) (x5 : List Int) (x7 : Int), s.w = w ∧ Ext s0 s ∧ Le s0 s ∧ dead_run_late_l1 N a0 a1 m x5 x7 = some o10 ∧ f 5 = v6 ∧ Bld s s0.w.heap.size 3 v6 x5 ∧ f 12 = Value.int .i64 x7 ∧ f 0 = w0 ∧ f 1 = Value.int .i64 (a1) ∧ f 11 = Value.int .i64 ((a0.c.length : Int))) N ⟨s0, (Value.slice none 0 0), ([]), 0, rfl, hE0, (Le.refl _), ho11, rfl, Bld.nil, rfl, rfl, rfl, rfl⟩ ?_
  rintro m12 f51 w52 ⟨s15, v6, x5, x7, rfl, hE17, l16, hr, g18_5, hb19, g18_12, g18_0, g18_1, g18_11⟩
  cases m12 with
  | zero => exact absurd hr (by simp [dead_run_late_l1])
  | succ m12 =>
   rw [dead_run_late_l1.eq_2] at hr
   refine W_seq ?_
   refine W_region ?_
   refine L_lss g18_12 g18_11 (by decide) ?_
   refine L_nil ?_
   refine then_n ?_
   refine W_seq ?_
   refine W_cond _ (rfl : _ = Value.bool (decide (x7 < (a0.c.length : Int)))) (fun hb20 => ?_) (fun hb20 => ?_)
   ·have hr := ite_t hb20 hr
    refine W_skip ?_
    refine then_n ?_
    refine W_seq ?_
    refine W_block ?_
    refine W_seq ?_
    refine W_region ?_
    refine L_move g18_12 (by decide) ?_
    refine L_assign (rfl : _ = Value.int .i64 (x7)) (by decide) ?_
    refine L_nil ?_
    refine then_n ?_
    refine W_seq ?_
    refine W_region ?_
    refine L_move g18_0 (by decide) ?_
    refine L_move (rfl : _ = Value.int .i64 (x7)) (by decide) ?_
    obtain ⟨y21, hy22, hr⟩ := bind_some hr
    refine L_calls cal76 (args2 (rfl : _ = w0) (rfl : _ = Value.int .i64 (x7))) (dead_run_meetings_ok N _ _ _ (h0.mono l16) x7 y21 hy22) (by decide) ?_
    intro v23 s26 e24 hv25
    have hE27 := Tch.ext hE17 e24
    obtain rfl := hv25.int
    refine L_move g18_0 (by decide) ?_
    refine L_move g18_1 (by decide) ?_
    obtain ⟨y28, hy29, hr⟩ := bind_some hr
    refine L_calls cal76 (args2 (rfl : _ = w0) (rfl : _ = Value.int .i64 (a1))) (dead_run_meetings_ok N _ _ _ (h0.mono (l16.trans e24.le)) a1 y28 hy29) (by decide) ?_
    intro v30 s33 e31 hv32
    have hE34 := Tch.ext hE27 e31
    obtain rfl := hv32.int
    refine L_lss (rfl : _ = Value.int .i64 (y21)) (rfl : _ = Value.int .i64 (y28)) (by decide) ?_
    refine L_nil ?_
    refine then_n ?_
    refine W_cond _ (rfl : _ = Value.bool (decide (y21 < y28))) (fun hb35 => ?_) (fun hb35 => ?_)
    ·have hr := ite_t hb35 hr
     refine W_region ?_
     refine L_move g18_5 (by decide) ?_
     refine L_move (rfl : _ = Value.int .i64 (x7)) (by decide) ?_
     refine L_buildSlice (xs := ([x7] : List Int)) Try.underlying23 tyz3 (Parts_cons rfl (rfl : _ = Value.int .i64 (x7)) Parts_nil) (Vs.cons Vint Vs.nil) rfl (by decide) (by decide) ?_
     intro s40 v37 e36 hb38 hv39
     have hE41 := Tch.ext hE34 e36
     obtain ⟨hc42, hr⟩ := chk_some hr
     refine L_append (xs := x5) (B := s0.w.heap.size) Try.underlying23 tyz3 (rfl : _ = v6) (rfl : _ = v37) ((((hb19).ext e24).ext e31).ext e36) (hE41.size) hv39 hc42.1 hc42.2 (by decide) ?_
     intro v43 s45 g44
     have hE46 := g44.tchM ((((hb19).ext e24).ext e31).ext e36) hE41 (Nat.le_refl _)
     refine L_assign (rfl : _ = v43) (by decide) ?_
     refine L_nil ?_
     refine block_n ?_
     refine then_n ?_
     refine W_region ?_
     obtain ⟨hc47, hr⟩ := chk_some hr
     refine L_add g18_12 (rfl : _ = Value.int .i64 (1)) hc47 (by decide) ?_
     refine L_move (rfl : _ = Value.int .i64 (x7 + 1)) (by decide) ?_
     refine L_nil ?_
     exact then_n ⟨m12, Nat.lt_succ_self _, ⟨s45, v43, (x5 ++ ([x7] : List Int)), (x7 + 1), rfl, hE46, (l16.trans (e24.le.trans (e31.le.trans (e36.le.trans g44.tch.le)))), hr, rfl, g44.bld, rfl, g18_0, g18_1, g18_11⟩⟩
    ·have hr := ite_f hb35 hr
     refine W_skip ?_
     refine block_n ?_
     refine then_n ?_
     refine W_region ?_
     obtain ⟨hc48, hr⟩ := chk_some hr
     refine L_add g18_12 (rfl : _ = Value.int .i64 (1)) hc48 (by decide) ?_
     refine L_move (rfl : _ = Value.int .i64 (x7 + 1)) (by decide) ?_
     refine L_nil ?_
     exact then_n ⟨m12, Nat.lt_succ_self _, ⟨s33, v6, x5, (x7 + 1), rfl, hE34, (l16.trans (e24.le.trans e31.le)), hr, g18_5, ((hb19).ext e24).ext e31, rfl, g18_0, g18_1, g18_11⟩⟩
   ·have hr := ite_f hb20 hr
    refine W_exit ?_
    refine then_x ?_
    refine then_x ?_
    refine block_here ?_
    exact then_n ⟨s15, v6, x5, rfl, hE17, l16, Option.some.inj hr, g18_5, hb19⟩
 ·rintro f49 w50 ⟨s53, v9, x8, rfl, hE55, l54, ho11, g56_5, hb57⟩
  subst ho11
  have hr := hq13
  try dsimp only at hr
  refine then_n ?_
  refine W_seq ?_
  refine W_region ?_
  refine L_move g56_5 (by decide) ?_
  refine L_assign (rfl : _ = v9) (by decide) ?_
  refine L_nil ?_
  refine then_n ?_
  refine W_ret ?_
  obtain rfl := Option.some.inj hr
  exact done1 (Or.inl rfl) Try.results51 rfl ⟨_, _, rfl, rfl, hE55, (hb57).toV⟩

theorem dead_run_can_3_ok (N : Nat) (s0 : St) (w0 : Value) (a0 : Ref Run) (h0 : Ptr s0 w0 a0) (w1 : Value) (a1 : Int) (h1 : Ptr s0 w1 a1) (r : Bool) (hr : dead_run_can_3 N a0 a1 = some r) :
  Calls Try.prog 63 #[w0, w1] s0.w (Ret s0 fun v s => V s v r) := by
 unfold dead_run_can_3 at hr
 have hE0 := Ext.refl s0
 refine Calls_of (n := 8) (args := [w0, w1]) Try.func63 rfl rfl (by simp) ?_
 refine W_seq ?_
 refine W_region ?_
 refine L_assign (rfl : _ = Value.bool (false)) (by decide) ?_
 refine L_nil ?_
 refine then_n ?_
 refine W_seq ?_
 refine W_region ?_
 refine L_load ty67 (rfl : _ = w0) h0 (by decide) ?_
 intro v1 hv2
 refine L_load_int ty3 (rfl : _ = w1) h1 (by decide) ?_
 obtain ⟨y3, hy4, hr⟩ := bind_some hr
 refine L_calls cal51 (args2 (rfl : _ = v1) (rfl : _ = Value.int .i64 (a1))) (dead_run_late_ok N _ _ _ hv2.toPtr a1 y3 hy4) (by decide) ?_
 intro v5 s8 e6 hv7
 have hE9 := Tch.ext hE0 e6
 refine L_len Try.underlying23 (rfl : _ = v5) hv7 (by decide) ?_
 refine L_eql (rfl : _ = Value.int .i64 ((y3.length : Int))) (rfl : _ = Value.int .i64 (0)) (by decide) ?_
 refine L_assign (rfl : _ = Value.bool (decide ((y3.length : Int) = 0))) (by decide) ?_
 refine L_nil ?_
 refine then_n ?_
 refine W_ret ?_
 obtain rfl := Option.some.inj hr
 exact done1 (Or.inl rfl) Try.results63 rfl ⟨_, _, rfl, rfl, hE9, Vbool⟩

theorem dead_run_request_1_ok (N : Nat) (s0 : St) (w0 : Value) (a0 : Deed) (h0 : V s0 w0 a0) (w1 : Value) (a1 : Int) (h1 : Ptr s0 w1 a1) (r : Bool) (hr : dead_run_request_1 N a0 a1 = some r) :
  Calls Try.prog 74 #[w0, w1] s0.w (Ret s0 fun v s => V s v r) := by
 unfold dead_run_request_1 at hr
 have hE0 := Ext.refl s0
 refine Calls_of (n := 12) (args := [w0, w1]) Try.func74 rfl rfl (by simp) ?_
 refine W_seq ?_
 refine W_region ?_
 refine L_box (rfl : _ = w0) h0 (by decide) ?_
 intro s4 p2 e1 hp3
 have hE5 := Tch.ext hE0 e1
 refine L_assign (rfl : _ = Value.bool (false)) (by decide) ?_
 refine L_nil ?_
 refine then_n ?_
 refine W_seq ?_
 refine W_region ?_
 refine L_load ty64 (rfl : _ = p2) hp3 (by decide) ?_
 intro v6 hv7
 obtain ⟨y8, hy9, hr⟩ := bind_some hr
 refine L_calls cal75 (args1 (rfl : _ = v6)) (dead_begins_ok N _ _ _ hv7 y8 hy9) (by decide) ?_
 intro v10 s13 e11 hv12
 have hE14 := Tch.ext hE5 e11
 obtain rfl := hv12.bool
 refine L_move (rfl : _ = Value.bool (y8)) (by decide) ?_
 rcases Bool.eq_false_or_eq_true (y8) with hb15 | hb15
 ·have hr := ite_t hb15 hr
  refine L_gt (e := 6) (by rfl) (by decide) (rfl : _ = Value.bool (y8)) hb15 ?_
  refine L_fieldAddr fld64_3 Deed.of_Req (rfl : _ = p2) (hp3.mono e11.le) (by decide) ?_
  intro p16 hp17
  refine L_gt (e := 6) (by rfl) (by decide) (rfl : _ = Value.bool (y8)) hb15 ?_
  refine L_load_int ty3 (rfl : _ = p16) hp17 (by decide) ?_
  refine L_gt (e := 6) (by rfl) (by decide) (rfl : _ = Value.bool (y8)) hb15 ?_
  refine L_load_int ty3 (rfl : _ = w1) (h1.mono (e1.le.trans e11.le)) (by decide) ?_
  refine L_gt (e := 6) (by rfl) (by decide) (rfl : _ = Value.bool (y8)) hb15 ?_
  refine L_eql (rfl : _ = Value.int .i64 (a0.Req)) (rfl : _ = Value.int .i64 (a1)) (by decide) ?_
  refine L_pick_t (rfl : _ = Value.bool (y8)) hb15 (rfl : _ = Value.bool (decide (a0.Req = a1))) (by decide) ?_
  refine L_assign (rfl : _ = Value.bool (decide (a0.Req = a1))) (by decide) ?_
  refine L_nil ?_
  refine then_n ?_
  refine W_ret ?_
  obtain rfl := Option.some.inj hr
  exact done1 (Or.inl rfl) Try.results74 rfl ⟨_, _, rfl, rfl, hE14, Vbool⟩
 ·have hr := ite_f hb15 hr
  refine L_gf (e := 6) (by rfl) (by decide) (rfl : _ = Value.bool (y8)) hb15 (by decide) ?_
  refine L_gf (e := 6) (by rfl) (by decide) (rfl : _ = Value.bool (y8)) hb15 (by decide) ?_
  refine L_gf (e := 6) (by rfl) (by decide) (rfl : _ = Value.bool (y8)) hb15 (by decide) ?_
  refine L_gf (e := 6) (by rfl) (by decide) (rfl : _ = Value.bool (y8)) hb15 (by decide) ?_
  refine L_pick_f (rfl : _ = Value.bool (y8)) hb15 (rfl : _ = Value.bool (false)) (by decide) ?_
  refine L_assign (rfl : _ = Value.bool (false)) (by decide) ?_
  refine L_nil ?_
  refine then_n ?_
  refine W_ret ?_
  obtain rfl := Option.some.inj hr
  exact done1 (Or.inl rfl) Try.results74 rfl ⟨_, _, rfl, rfl, hE14, Vbool⟩

theorem dead_run_request_ok (N : Nat) (s0 : St) (w0 : Value) (a0 : Run) (h0 : Ptr s0 w0 a0) (a1 : Int) (a2 : Int) (r : Int) (hr : dead_run_request N a0 a1 a2 = some r) :
  Calls Try.prog 50 #[w0, .int .i64 a1, .int .i64 a2] s0.w (Ret s0 fun v s => V s v r) := by
 unfold dead_run_request at hr
 have hE0 := Ext.refl s0
 refine Calls_of (n := 16) (args := [w0, .int .i64 a1, .int .i64 a2]) Try.func50 rfl rfl (by simp) ?_
 refine W_seq ?_
 refine W_region ?_
 refine L_box (rfl : _ = Value.int .i64 (a2)) Vint (by decide) ?_
 intro s4 p2 e1 hp3
 have hE5 := Tch.ext hE0 e1
 refine L_assign (rfl : _ = Value.int .i64 (0)) (by decide) ?_
 refine L_nil ?_
 refine then_n ?_
 refine W_seq ?_
 refine W_region ?_
 refine L_move (rfl : _ = w0) (by decide) ?_
 refine L_nilCheck_ptr (rfl : _ = w0) (h0.mono e1.le) (by decide) ?_
 refine L_fieldAddr fld72_0 Run.of_c (rfl : _ = w0) (h0.mono e1.le) (by decide) ?_
 intro p6 hp7
 refine L_load ty29 (rfl : _ = p6) hp7 (by decide) ?_
 intro v8 hv9
 refine L_move (rfl : _ = Value.int .i64 (a1)) (by decide) ?_
 obtain ⟨y10, hy11, hr⟩ := bind_some hr
 refine L_index Try.underlying29 ty59.inf (rfl : _ = v8) hv9 (rfl : _ = Value.int .i64 (a1)) hy11 (by decide) ?_
 intro p12 hp13
 refine L_load ty59 (rfl : _ = p12) hp13 (by decide) ?_
 intro v14 hv15
 refine L_makeFunc (args1 (rfl : _ = p2)) (by decide) ?_
 obtain ⟨y16, hy17, hr⟩ := bind_some hr
 refine L_calls cal71 (args2 (rfl : _ = v14) (rfl : _ = Value.func (.func 74) #[] #[p2])) (slices_IndexFunc_Llang_Deed_lang_Deed_ok N _ _ _ hv15 _ (fun x => dead_run_request_1 N x a2) (Fn1.mk1 cal74 fun t vx x r hl hv hr => dead_run_request_1_ok N t vx x hv _ _ ((hp3).mono hl) r hr) y16 hy17) (by decide) ?_
 intro v18 s21 e19 hv20
 have hE22 := Tch.ext hE5 e19
 obtain rfl := hv20.int
 refine L_assign (rfl : _ = Value.int .i64 (y16)) (by decide) ?_
 refine L_nil ?_
 refine then_n ?_
 refine W_ret ?_
 obtain rfl := Option.some.inj hr
 exact done1 (Or.inl rfl) Try.results50 rfl ⟨_, _, rfl, rfl, hE22, Vint⟩

theorem dead_run_can_4_ok (N : Nat) (s0 : St) (w0 : Value) (a0 : Ref Run) (h0 : Ptr s0 w0 a0) (w1 : Value) (a1 : Int) (h1 : Ptr s0 w1 a1) (w2 : Value) (a2 : Int) (h2 : Ptr s0 w2 a2) (r : Bool) (hr : dead_run_can_4 N a0 a1 a2 = some r) :
  Calls Try.prog 64 #[w0, w1, w2] s0.w (Ret s0 fun v s => V s v r) := by
 unfold dead_run_can_4 at hr
 have hE0 := Ext.refl s0
 refine Calls_of (n := 38) (args := [w0, w1, w2]) Try.func64 rfl rfl (by simp) ?_
 refine W_seq ?_
 refine W_region ?_
 refine L_assign (rfl : _ = Value.bool (false)) (by decide) ?_
 refine L_nil ?_
 refine then_n ?_
 refine W_seq ?_
 obtain ⟨y9, hy10, hr⟩ := bind_some hr
 obtain ⟨y15, hy16, hr⟩ := bind_some hr
 obtain ⟨y21, hy22, hr⟩ := bind_some hr
 refine W_draws mixed (by kernel_rfl) [PV.ptr (a0.x : Run), PV.eq (Value.int .i64 (a1)), PV.ptr (a0.x : Run), PV.ptr (a0.x : Run), PV.ptr (a0.x.c : List (List Deed)), PV.data (a0.x.c : List (List Deed)), PV.eq (Value.int .i64 (a1)), PV.ptr (y9 : List Deed), PV.data (y9 : List Deed), PV.eq (Value.int .i64 (a2)), PV.ptr (y15 : Deed), PV.ptr (y15.Req : Int), PV.eq (Value.int .i64 (y15.Req)), PV.eq (Value.int .i64 (y21)), PV.eq (Value.int .i64 (y21))] (Steps_cons ?_ (Steps_cons ?_ (Steps_cons ?_ (Steps_cons ?_ (Steps_cons ?_ (Steps_cons ?_ (Steps_cons ?_ (Steps_cons ?_ (Steps_cons ?_ (Steps_cons ?_ (Steps_cons ?_ (Steps_cons ?_ (Steps_cons ?_ (Steps_cons ?_ (Steps_cons ?_ Steps_nil))))))))))))))) ?_
 ·intro f30 s28 e29 hA31 hB32 Q hk33
  have ha34 : f30 0 = w0 := (hB32 0 (by kernel_rfl)).trans rfl
  refine L_load ty67 ha34 (h0.mono e29.le) (by decide) ?_
  intro v1 hv2
  exact L_nil (hk33 _ _ (Ext.refl s28) hv2.toPtr)
 ·intro f37 s35 e36 hA38 hB39 Q hk40
  have ha41 : f37 1 = w1 := (hB39 1 (by kernel_rfl)).trans rfl
  refine L_load_int ty3 ha41 (h1.mono e36.le) (by decide) ?_
  exact L_nil (hk40 _ _ (Ext.refl s35) rfl)
 ·intro f44 s42 e43 hA45 hB46 Q hk47
  have ha48 : f44 0 = w0 := (hB46 0 (by kernel_rfl)).trans rfl
  refine L_load ty67 ha48 (h0.mono e43.le) (by decide) ?_
  intro v3 hv4
  exact L_nil (hk47 _ _ (Ext.refl s42) hv4.toPtr)
 ·intro f51 s49 e50 hA52 hB53 Q hk54
  have ha55 : Ptr _ (f51 7) (a0.x : Run) := hA52 2 7 (by kernel_rfl) (by kernel_rfl)
  obtain ⟨v56, q57, hv58⟩ : ∃ v, _ = v ∧ Ptr _ v _ := ⟨_, rfl, ha55⟩
  refine L_nilCheck_ptr q57 hv58 (by decide) ?_
  exact L_nil (hk54 _ _ (Ext.refl s49) hv58)
 ·intro f61 s59 e60 hA62 hB63 Q hk64
  have ha65 : Ptr _ (f61 8) (a0.x : Run) := hA62 3 8 (by kernel_rfl) (by kernel_rfl)
  obtain ⟨v66, q67, hv68⟩ : ∃ v, _ = v ∧ Ptr _ v _ := ⟨_, rfl, ha65⟩
  refine L_fieldAddr fld72_0 Run.of_c q67 hv68 (by decide) ?_
  intro p5 hp6
  exact L_nil (hk64 _ _ (Ext.refl s59) hp6)
 ·intro f71 s69 e70 hA72 hB73 Q hk74
  have ha75 : Ptr _ (f71 9) (a0.x.c : List (List Deed)) := hA72 4 9 (by kernel_rfl) (by kernel_rfl)
  obtain ⟨v76, q77, hv78⟩ : ∃ v, _ = v ∧ Ptr _ v _ := ⟨_, rfl, ha75⟩
  refine L_load ty29 q77 hv78 (by decide) ?_
  intro v7 hv8
  exact L_nil (hk74 _ _ (Ext.refl s69) hv8)
 ·intro f81 s79 e80 hA82 hB83 Q hk84
  have ha85 : f81 1 = w1 := (hB83 1 (by kernel_rfl)).trans rfl
  refine L_load_int ty3 ha85 (h1.mono e80.le) (by decide) ?_
  exact L_nil (hk84 _ _ (Ext.refl s79) rfl)
 ·intro f88 s86 e87 hA89 hB90 Q hk91
  have ha92 : V _ (f88 10) (a0.x.c : List (List Deed)) := hA89 5 10 (by kernel_rfl) (by kernel_rfl)
  obtain ⟨v93, q94, hv95⟩ : ∃ v, _ = v ∧ V _ v _ := ⟨_, rfl, ha92⟩
  have ha96 : f88 11 = Value.int .i64 (a1) := hA89 6 11 (by kernel_rfl) (by kernel_rfl)
  refine L_index Try.underlying29 ty59.inf q94 hv95 ha96 hy10 (by decide) ?_
  intro p11 hp12
  exact L_nil (hk91 _ _ (Ext.refl s86) hp12)
 ·intro f99 s97 e98 hA100 hB101 Q hk102
  have ha103 : Ptr _ (f99 12) (y9 : List Deed) := hA100 7 12 (by kernel_rfl) (by kernel_rfl)
  obtain ⟨v104, q105, hv106⟩ : ∃ v, _ = v ∧ Ptr _ v _ := ⟨_, rfl, ha103⟩
  refine L_load ty59 q105 hv106 (by decide) ?_
  intro v13 hv14
  exact L_nil (hk102 _ _ (Ext.refl s97) hv14)
 ·intro f109 s107 e108 hA110 hB111 Q hk112
  have ha113 : f109 2 = w2 := (hB111 2 (by kernel_rfl)).trans rfl
  refine L_load_int ty3 ha113 (h2.mono e108.le) (by decide) ?_
  exact L_nil (hk112 _ _ (Ext.refl s107) rfl)
 ·intro f116 s114 e115 hA117 hB118 Q hk119
  have ha120 : V _ (f116 13) (y9 : List Deed) := hA117 8 13 (by kernel_rfl) (by kernel_rfl)
  obtain ⟨v121, q122, hv123⟩ : ∃ v, _ = v ∧ V _ v _ := ⟨_, rfl, ha120⟩
  have ha124 : f116 14 = Value.int .i64 (a2) := hA117 9 14 (by kernel_rfl) (by kernel_rfl)
  refine L_index Try.underlying59 ty64.inf q122 hv123 ha124 hy16 (by decide) ?_
  intro p17 hp18
  exact L_nil (hk119 _ _ (Ext.refl s114) hp18)
 ·intro f127 s125 e126 hA128 hB129 Q hk130
  have ha131 : Ptr _ (f127 15) (y15 : Deed) := hA128 10 15 (by kernel_rfl) (by kernel_rfl)
  obtain ⟨v132, q133, hv134⟩ : ∃ v, _ = v ∧ Ptr _ v _ := ⟨_, rfl, ha131⟩
  refine L_fieldAddr fld64_3 Deed.of_Req q133 hv134 (by decide) ?_
  intro p19 hp20
  exact L_nil (hk130 _ _ (Ext.refl s125) hp20)
 ·intro f137 s135 e136 hA138 hB139 Q hk140
  have ha141 : Ptr _ (f137 16) (y15.Req : Int) := hA138 11 16 (by kernel_rfl) (by kernel_rfl)
  obtain ⟨v142, q143, hv144⟩ : ∃ v, _ = v ∧ Ptr _ v _ := ⟨_, rfl, ha141⟩
  refine L_load_int ty3 q143 hv144 (by decide) ?_
  exact L_nil (hk140 _ _ (Ext.refl s135) rfl)
 ·intro f147 s145 e146 hA148 hB149 Q hk150
  have ha151 : Ptr _ (f147 5) (a0.x : Run) := hA148 0 5 (by kernel_rfl) (by kernel_rfl)
  obtain ⟨v152, q153, hv154⟩ : ∃ v, _ = v ∧ Ptr _ v _ := ⟨_, rfl, ha151⟩
  have ha155 : f147 6 = Value.int .i64 (a1) := hA148 1 6 (by kernel_rfl) (by kernel_rfl)
  have ha156 : f147 17 = Value.int .i64 (y15.Req) := hA148 12 17 (by kernel_rfl) (by kernel_rfl)
  refine L_calls cal50 (args3 q153 ha155 ha156) (dead_run_request_ok N _ _ _ hv154 a1 y15.Req y21 hy22) (by decide) ?_
  intro v23 s26 e24 hv25
  have hE27 := Tch.ext (Ext.refl s145) e24
  obtain rfl := hv25.int
  exact L_nil (hk150 _ _ hE27 rfl)
 ·intro f159 s157 e158 hA160 hB161 Q hk162
  have ha163 : f159 18 = Value.int .i64 (y21) := hA160 13 18 (by kernel_rfl) (by kernel_rfl)
  refine L_assign ha163 (by decide) ?_
  exact L_nil (hk162 _ _ (Ext.refl s157) rfl)
 ·intro f166 s164 e165 hA167 hB168
  have hE169 := Tch.ext hE0 e165
  have ha170 : f166 0 = w0 := (hB168 0 (by kernel_rfl)).trans rfl
  have ha171 : f166 1 = w1 := (hB168 1 (by kernel_rfl)).trans rfl
  have ha172 : f166 4 = Value.int .i64 (y21) := hA167 14 4 (by kernel_rfl)
  refine then_n ?_
  refine W_seq ?_
  refine W_seq ?_
  obtain ⟨y179, hy180, hr⟩ := bind_some hr
  obtain ⟨y185, hy186, hr⟩ := bind_some hr
  obtain ⟨y191, hy192, hr⟩ := bind_some hr
  refine W_draws mixed (by kernel_rfl) [PV.ptr (a0.x : Run), PV.ptr (a0.x : Run), PV.ptr (a0.x.c : List (List Deed)), PV.data (a0.x.c : List (List Deed)), PV.eq (Value.int .i64 (a1)), PV.ptr (y179 : List Deed), PV.data (y179 : List Deed), PV.eq (Value.int .i64 (y21)), PV.ptr (y185 : Deed), PV.data (y185 : Deed), PV.eq (Value.bool (y191))] (Steps_cons ?_ (Steps_cons ?_ (Steps_cons ?_ (Steps_cons ?_ (Steps_cons ?_ (Steps_cons ?_ (Steps_cons ?_ (Steps_cons ?_ (Steps_cons ?_ (Steps_cons ?_ (Steps_cons ?_ Steps_nil))))))))))) ?_
  ·intro f200 s198 e199 hA201 hB202 Q hk203
   have ha204 : f200 0 = w0 := (hB202 0 (by kernel_rfl)).trans ha170
   refine L_load ty67 ha204 (h0.mono (e165.le.trans e199.le)) (by decide) ?_
   intro v173 hv174
   exact L_nil (hk203 _ _ (Ext.refl s198) hv174.toPtr)
  ·intro f207 s205 e206 hA208 hB209 Q hk210
   have ha211 : Ptr _ (f207 19) (a0.x : Run) := hA208 0 19 (by kernel_rfl) (by kernel_rfl)
   obtain ⟨v212, q213, hv214⟩ : ∃ v, _ = v ∧ Ptr _ v _ := ⟨_, rfl, ha211⟩
   refine L_nilCheck_ptr q213 hv214 (by decide) ?_
   exact L_nil (hk210 _ _ (Ext.refl s205) hv214)
  ·intro f217 s215 e216 hA218 hB219 Q hk220
   have ha221 : Ptr _ (f217 20) (a0.x : Run) := hA218 1 20 (by kernel_rfl) (by kernel_rfl)
   obtain ⟨v222, q223, hv224⟩ : ∃ v, _ = v ∧ Ptr _ v _ := ⟨_, rfl, ha221⟩
   refine L_fieldAddr fld72_0 Run.of_c q223 hv224 (by decide) ?_
   intro p175 hp176
   exact L_nil (hk220 _ _ (Ext.refl s215) hp176)
  ·intro f227 s225 e226 hA228 hB229 Q hk230
   have ha231 : Ptr _ (f227 21) (a0.x.c : List (List Deed)) := hA228 2 21 (by kernel_rfl) (by kernel_rfl)
   obtain ⟨v232, q233, hv234⟩ : ∃ v, _ = v ∧ Ptr _ v _ := ⟨_, rfl, ha231⟩
   refine L_load ty29 q233 hv234 (by decide) ?_
   intro v177 hv178
   exact L_nil (hk230 _ _ (Ext.refl s225) hv178)
  ·intro f237 s235 e236 hA238 hB239 Q hk240
   have ha241 : f237 1 = w1 := (hB239 1 (by kernel_rfl)).trans ha171
   refine L_load_int ty3 ha241 (h1.mono (e165.le.trans e236.le)) (by decide) ?_
   exact L_nil (hk240 _ _ (Ext.refl s235) rfl)
  ·intro f244 s242 e243 hA245 hB246 Q hk247
   have ha248 : V _ (f244 22) (a0.x.c : List (List Deed)) := hA245 3 22 (by kernel_rfl) (by kernel_rfl)
   obtain ⟨v249, q250, hv251⟩ : ∃ v, _ = v ∧ V _ v _ := ⟨_, rfl, ha248⟩
   have ha252 : f244 23 = Value.int .i64 (a1) := hA245 4 23 (by kernel_rfl) (by kernel_rfl)
   refine L_index Try.underlying29 ty59.inf q250 hv251 ha252 hy180 (by decide) ?_
   intro p181 hp182
   exact L_nil (hk247 _ _ (Ext.refl s242) hp182)
  ·intro f255 s253 e254 hA256 hB257 Q hk258
   have ha259 : Ptr _ (f255 24) (y179 : List Deed) := hA256 5 24 (by kernel_rfl) (by kernel_rfl)
   obtain ⟨v260, q261, hv262⟩ : ∃ v, _ = v ∧ Ptr _ v _ := ⟨_, rfl, ha259⟩
   refine L_load ty59 q261 hv262 (by decide) ?_
   intro v183 hv184
   exact L_nil (hk258 _ _ (Ext.refl s253) hv184)
  ·intro f265 s263 e264 hA266 hB267 Q hk268
   have ha269 : f265 4 = Value.int .i64 (y21) := (hB267 4 (by kernel_rfl)).trans ha172
   refine L_move ha269 (by decide) ?_
   exact L_nil (hk268 _ _ (Ext.refl s263) rfl)
  ·intro f272 s270 e271 hA273 hB274 Q hk275
   have ha276 : V _ (f272 25) (y179 : List Deed) := hA273 6 25 (by kernel_rfl) (by kernel_rfl)
   obtain ⟨v277, q278, hv279⟩ : ∃ v, _ = v ∧ V _ v _ := ⟨_, rfl, ha276⟩
   have ha280 : f272 26 = Value.int .i64 (y21) := hA273 7 26 (by kernel_rfl) (by kernel_rfl)
   refine L_index Try.underlying59 ty64.inf q278 hv279 ha280 hy186 (by decide) ?_
   intro p187 hp188
   exact L_nil (hk275 _ _ (Ext.refl s270) hp188)
  ·intro f283 s281 e282 hA284 hB285 Q hk286
   have ha287 : Ptr _ (f283 27) (y185 : Deed) := hA284 8 27 (by kernel_rfl) (by kernel_rfl)
   obtain ⟨v288, q289, hv290⟩ : ∃ v, _ = v ∧ Ptr _ v _ := ⟨_, rfl, ha287⟩
   refine L_load ty64 q289 hv290 (by decide) ?_
   intro v189 hv190
   exact L_nil (hk286 _ _ (Ext.refl s281) hv190)
  ·intro f293 s291 e292 hA294 hB295 Q hk296
   have ha297 : V _ (f293 28) (y185 : Deed) := hA294 9 28 (by kernel_rfl) (by kernel_rfl)
   obtain ⟨v298, q299, hv300⟩ : ∃ v, _ = v ∧ V _ v _ := ⟨_, rfl, ha297⟩
   refine L_calls cal40 (args1 q299) (dead_sends_ok N _ _ _ hv300 y191 hy192) (by decide) ?_
   intro v193 s196 e194 hv195
   have hE197 := Tch.ext (Ext.refl s291) e194
   obtain rfl := hv195.bool
   exact L_nil (hk296 _ _ hE197 rfl)
  ·intro f303 s301 e302 hA304 hB305
   have hE306 := Tch.ext hE169 e302
   have ha307 : f303 0 = w0 := (hB305 0 (by kernel_rfl)).trans ha170
   have ha308 : f303 1 = w1 := (hB305 1 (by kernel_rfl)).trans ha171
   have ha309 : f303 4 = Value.int .i64 (y21) := (hB305 4 (by kernel_rfl)).trans ha172
   have ha310 : f303 29 = Value.bool (y191) := hA304 10 29 (by kernel_rfl)
   refine then_n ?_
   refine W_cond _ ha310 (fun hb311 => ?_) (fun hb311 => ?_)
   ·have hr := ite_t hb311 hr
    refine W_seq ?_
    refine W_region ?_
    refine L_load ty67 ha307 (h0.mono (e165.le.trans e302.le)) (by decide) ?_
    intro v312 hv313
    refine L_load_int ty3 ha308 (h1.mono (e165.le.trans e302.le)) (by decide) ?_
    refine L_move ha309 (by decide) ?_
    obtain ⟨y314, hy315, hr⟩ := bind_some hr
    refine L_calls cal60 (args3 (rfl : _ = v312) (rfl : _ = Value.int .i64 (a1)) (rfl : _ = Value.int .i64 (y21))) (dead_run_taken_ok N _ _ _ hv313.toPtr a1 y21 y314 hy315) (by decide) ?_
    intro v316 s319 e317 hv318
    have hE320 := Tch.ext hE306 e317
    obtain rfl := hv318.bool
    refine L_assign (rfl : _ = Value.bool (y314)) (by decide) ?_
    refine L_nil ?_
    refine then_n ?_
    refine W_ret ?_
    refine then_r ?_
    obtain rfl := Option.some.inj hr
    exact done1 (Or.inl rfl) Try.results64 rfl ⟨_, _, rfl, rfl, hE320, Vbool⟩
   ·have hr := ite_f hb311 hr
    refine W_skip ?_
    refine then_n ?_
    refine W_seq ?_
    refine W_region ?_
    refine L_load ty67 ha307 (h0.mono (e165.le.trans e302.le)) (by decide) ?_
    intro v321 hv322
    refine L_load_int ty3 ha308 (h1.mono (e165.le.trans e302.le)) (by decide) ?_
    refine L_move ha309 (by decide) ?_
    obtain ⟨y323, hy324, hr⟩ := bind_some hr
    refine L_calls cal62 (args3 (rfl : _ = v321) (rfl : _ = Value.int .i64 (a1)) (rfl : _ = Value.int .i64 (y21))) (dead_run_received_ok N _ _ _ hv322.toPtr a1 y21 y323 hy324) (by decide) ?_
    intro v325 s328 e326 hv327
    have hE329 := Tch.ext hE306 e326
    obtain rfl := hv327.bool
    refine L_assign (rfl : _ = Value.bool (y323)) (by decide) ?_
    refine L_nil ?_
    refine then_n ?_
    refine W_ret ?_
    obtain rfl := Option.some.inj hr
    exact done1 (Or.inl rfl) Try.results64 rfl ⟨_, _, rfl, rfl, hE329, Vbool⟩

set_option maxHeartbeats 1046000 in
theorem dead_run_can_ok (N : Nat) (s0 : St) (w0 : Value) (a0 : Run) (h0 : Ptr s0 w0 a0) (a1 : Int) (r : Bool) (hr : dead_run_can N a0 a1 = some r) :
  Calls Try.prog 32 #[w0, .int .i64 a1] s0.w (Ret s0 fun v s => V s v r) := by
 unfold dead_run_can at hr
 have hE0 := Ext.refl s0
 refine Calls_of (n := 52) (args := [w0, .int .i64 a1]) Try.func32 rfl rfl (by simp) ?_
 refine W_seq ?_
 refine W_region ?_
 refine L_box (rfl : _ = w0) (h0).toV (by decide) ?_
 intro s4 p2 e1 hp3
 have hE5 := Tch.ext hE0 e1
 refine L_box (rfl : _ = Value.int .i64 (a1)) Vint (by decide) ?_
 intro s9 p7 e6 hp8
 have hE10 := Tch.ext hE5 e6
 refine L_assign (rfl : _ = Value.bool (false)) (by decide) ?_
 refine L_nil ?_
 refine then_n ?_
 refine W_seq ?_
 obtain ⟨y17, hy18, hr⟩ := bind_some hr
 refine W_drawP mixed 9 [PX.ptr (a0 : Run), PX.ptr (a0 : Run), PX.ptr (a0.at_ : List Int), PX.data (a0.at_ : List Int), PX.eq (Value.int .i64 (a1)), PX.ptr (y17 : Int), PX.eq (Value.int .i64 (y17)), PX.var s0.w.heap.size 3 ((0 : Int) : Int), PX.ptr (y17 : Int)] [8, 9, 10, 11, 12, 13, 14, 5, 5] [[], [], [], [], [], [], [], [], [7]] rfl (by kernel_rfl) (ent0 rfl) (dis0 rfl) (StepsX_cons ?_ (StepsX_cons ?_ (StepsX_cons ?_ (StepsX_cons ?_ (StepsX_cons ?_ (StepsX_cons ?_ (StepsX_cons ?_ (StepsX_cons ?_ (StepsX_cons ?_ StepsX_nil))))))))) ?_
 ·intro f33 s31 hT32 hA34 hB35 Q hk36
  have ha37 : f33 2 = p2 := (hB35 2 (by kernel_rfl)).trans rfl
  refine L_load ty67 ha37 (hp3.mono (e6.le.trans hT32.le)) (by decide) ?_
  intro v11 hv12
  exact L_nil (hk36 _ _ No (Ext.refl s31) (fun _ h => h.elim) hv12.toPtr (fun _ h => h.elim))
 ·intro f40 s38 hT39 hA41 hB42 Q hk43
  have ha44 : Ptr _ (f40 8) (a0 : Run) := hA41 0 (by kernel_rfl) (by show _ < 9; decide)
  obtain ⟨v45, q46, hv47⟩ : ∃ v, _ = v ∧ Ptr _ v _ := ⟨_, rfl, ha44⟩
  refine L_nilCheck_ptr q46 hv47 (by decide) ?_
  exact L_nil (hk43 _ _ No (Ext.refl s38) (fun _ h => h.elim) hv47 (fun _ h => h.elim))
 ·intro f50 s48 hT49 hA51 hB52 Q hk53
  have ha54 : Ptr _ (f50 9) (a0 : Run) := hA51 1 (by kernel_rfl) (by show _ < 9; decide)
  obtain ⟨v55, q56, hv57⟩ : ∃ v, _ = v ∧ Ptr _ v _ := ⟨_, rfl, ha54⟩
  refine L_fieldAddr fld72_2 Run.of_at_ q56 hv57 (by decide) ?_
  intro p13 hp14
  exact L_nil (hk53 _ _ No (Ext.refl s48) (fun _ h => h.elim) hp14 (fun _ h => h.elim))
 ·intro f60 s58 hT59 hA61 hB62 Q hk63
  have ha64 : Ptr _ (f60 10) (a0.at_ : List Int) := hA61 2 (by kernel_rfl) (by show _ < 9; decide)
  obtain ⟨v65, q66, hv67⟩ : ∃ v, _ = v ∧ Ptr _ v _ := ⟨_, rfl, ha64⟩
  refine L_load ty23 q66 hv67 (by decide) ?_
  intro v15 hv16
  exact L_nil (hk63 _ _ No (Ext.refl s58) (fun _ h => h.elim) hv16 (fun _ h => h.elim))
 ·intro f70 s68 hT69 hA71 hB72 Q hk73
  have ha74 : f70 3 = p7 := (hB72 3 (by kernel_rfl)).trans rfl
  refine L_load_int ty3 ha74 (hp8.mono hT69.le) (by decide) ?_
  exact L_nil (hk73 _ _ No (Ext.refl s68) (fun _ h => h.elim) rfl (fun _ h => h.elim))
 ·intro f77 s75 hT76 hA78 hB79 Q hk80
  have ha81 : V _ (f77 11) (a0.at_ : List Int) := hA78 3 (by kernel_rfl) (by show _ < 9; decide)
  obtain ⟨v82, q83, hv84⟩ : ∃ v, _ = v ∧ V _ v _ := ⟨_, rfl, ha81⟩
  have ha85 : f77 12 = Value.int .i64 (a1) := hA78 4 (by kernel_rfl) (by show _ < 9; decide)
  refine L_index Try.underlying23 ty3.inf q83 hv84 ha85 hy18 (by decide) ?_
  intro p19 hp20
  exact L_nil (hk80 _ _ No (Ext.refl s75) (fun _ h => h.elim) hp20 (fun _ h => h.elim))
 ·intro f88 s86 hT87 hA89 hB90 Q hk91
  have ha92 : Ptr _ (f88 13) (y17 : Int) := hA89 5 (by kernel_rfl) (by show _ < 9; decide)
  obtain ⟨v93, q94, hv95⟩ : ∃ v, _ = v ∧ Ptr _ v _ := ⟨_, rfl, ha92⟩
  refine L_load_int ty3 q94 hv95 (by decide) ?_
  exact L_nil (hk91 _ _ No (Ext.refl s86) (fun _ h => h.elim) rfl (fun _ h => h.elim))
 ·intro f98 s96 hT97 hA99 hB100 Q hk101
  refine L_alloc (α := Int) (x := 0) zero3 (fun _ => rfl) (by decide) ?_
  intro s25 b22 e21 hb23 hv24
  have hE26 := Tch.ext (Ext.refl s96) e21
  exact L_nil (hk101 _ _ No hE26 (fun _ h => h.elim) ⟨_, rfl, (Nat.le_trans (Nat.le_trans hE10.size hT97.size) hb23), hv24⟩ (fun k h => Or.inr (by cases h; exact hb23)))
 ·intro f104 s102 hT103 hA105 hB106 Q hk107
  obtain ⟨b109, q110, hb111, hv112⟩ : ∃ b, f104 5 = Value.pointer (some ⟨b, 0, none⟩) ∧ s0.w.heap.size ≤ b ∧ Var s102 b 3 ((0 : Int) : Int) := hA105 7 (by kernel_rfl) (by show _ < 9; decide)
  have ha113 : f104 14 = Value.int .i64 (y17) := hA105 6 (by kernel_rfl) (by show _ < 9; decide)
  refine L_store_ro ty3 q110 ha113 Vint (hv112) ?_
  intro s29 e27 hv28
  exact L_nil (hk107 undef _ _ e27 (fun k h => ⟨7, (List.mem_singleton.2 rfl : (7 : Nat) ∈ [7]), (by show ownP (f104 5) k; rw [q110]; exact congrArg (fun z => Value.pointer (some ⟨z, 0, none⟩)) h.symm)⟩) (by show Ptr _ (f104 5) _; rw [q110]; exact hv28) (fun _ h => h.elim))
 ·intro f116 s114 hT115 hP117 hD118 hB119
  have hE120 := Tch.trans hE10 hT115 (fun k h => absurd h (ent_none (k := 9) rfl rfl k))
  obtain ⟨p121, q122, hp123⟩ : ∃ p, f116 5 = p ∧ Ptr s114 p (y17 : Int) := ⟨_, rfl, hP117 8 (by show _ < 9; decide) (by kernel_rfl)⟩
  have ha124 : f116 2 = p2 := (hB119 2 (by kernel_rfl)).trans rfl
  have ha125 : f116 3 = p7 := (hB119 3 (by kernel_rfl)).trans rfl
  refine then_n ?_
  refine W_seq ?_
  refine W_seq ?_
  obtain ⟨y132, hy133, hr⟩ := bind_some hr
  refine W_draws mixed (by kernel_rfl) [PV.eq (Value.int .i64 (y17)), PV.ptr (a0 : Run), PV.ptr (a0 : Run), PV.ptr (a0.c : List (List Deed)), PV.data (a0.c : List (List Deed)), PV.eq (Value.int .i64 (a1)), PV.ptr (y132 : List Deed), PV.data (y132 : List Deed), PV.eq (Value.int .i64 ((y132.length : Int))), PV.eq (Value.bool (decide (y17 = (y132.length : Int))))] (Steps_cons ?_ (Steps_cons ?_ (Steps_cons ?_ (Steps_cons ?_ (Steps_cons ?_ (Steps_cons ?_ (Steps_cons ?_ (Steps_cons ?_ (Steps_cons ?_ (Steps_cons ?_ Steps_nil)))))))))) ?_
  ·intro f140 s138 e139 hA141 hB142 Q hk143
   have ha144 : f140 5 = p121 := (hB142 5 (by kernel_rfl)).trans q122
   refine L_load_int ty3 ha144 (hp123.mono e139.le) (by decide) ?_
   exact L_nil (hk143 _ _ (Ext.refl s138) rfl)
  ·intro f147 s145 e146 hA148 hB149 Q hk150
   have ha151 : f147 2 = p2 := (hB149 2 (by kernel_rfl)).trans ha124
   refine L_load ty67 ha151 (hp3.mono (e6.le.trans (hT115.le.trans e146.le))) (by decide) ?_
   intro v126 hv127
   exact L_nil (hk150 _ _ (Ext.refl s145) hv127.toPtr)
  ·intro f154 s152 e153 hA155 hB156 Q hk157
   have ha158 : Ptr _ (f154 16) (a0 : Run) := hA155 1 16 (by kernel_rfl) (by kernel_rfl)
   obtain ⟨v159, q160, hv161⟩ : ∃ v, _ = v ∧ Ptr _ v _ := ⟨_, rfl, ha158⟩
   refine L_nilCheck_ptr q160 hv161 (by decide) ?_
   exact L_nil (hk157 _ _ (Ext.refl s152) hv161)
  ·intro f164 s162 e163 hA165 hB166 Q hk167
   have ha168 : Ptr _ (f164 17) (a0 : Run) := hA165 2 17 (by kernel_rfl) (by kernel_rfl)
   obtain ⟨v169, q170, hv171⟩ : ∃ v, _ = v ∧ Ptr _ v _ := ⟨_, rfl, ha168⟩
   refine L_fieldAddr fld72_0 Run.of_c q170 hv171 (by decide) ?_
   intro p128 hp129
   exact L_nil (hk167 _ _ (Ext.refl s162) hp129)
  ·intro f174 s172 e173 hA175 hB176 Q hk177
   have ha178 : Ptr _ (f174 18) (a0.c : List (List Deed)) := hA175 3 18 (by kernel_rfl) (by kernel_rfl)
   obtain ⟨v179, q180, hv181⟩ : ∃ v, _ = v ∧ Ptr _ v _ := ⟨_, rfl, ha178⟩
   refine L_load ty29 q180 hv181 (by decide) ?_
   intro v130 hv131
   exact L_nil (hk177 _ _ (Ext.refl s172) hv131)
  ·intro f184 s182 e183 hA185 hB186 Q hk187
   have ha188 : f184 3 = p7 := (hB186 3 (by kernel_rfl)).trans ha125
   refine L_load_int ty3 ha188 (hp8.mono (hT115.le.trans e183.le)) (by decide) ?_
   exact L_nil (hk187 _ _ (Ext.refl s182) rfl)
  ·intro f191 s189 e190 hA192 hB193 Q hk194
   have ha195 : V _ (f191 19) (a0.c : List (List Deed)) := hA192 4 19 (by kernel_rfl) (by kernel_rfl)
   obtain ⟨v196, q197, hv198⟩ : ∃ v, _ = v ∧ V _ v _ := ⟨_, rfl, ha195⟩
   have ha199 : f191 20 = Value.int .i64 (a1) := hA192 5 20 (by kernel_rfl) (by kernel_rfl)
   refine L_index Try.underlying29 ty59.inf q197 hv198 ha199 hy133 (by decide) ?_
   intro p134 hp135
   exact L_nil (hk194 _ _ (Ext.refl s189) hp135)
  ·intro f202 s200 e201 hA203 hB204 Q hk205
   have ha206 : Ptr _ (f202 21) (y132 : List Deed) := hA203 6 21 (by kernel_rfl) (by kernel_rfl)
   obtain ⟨v207, q208, hv209⟩ : ∃ v, _ = v ∧ Ptr _ v _ := ⟨_, rfl, ha206⟩
   refine L_load ty59 q208 hv209 (by decide) ?_
   intro v136 hv137
   exact L_nil (hk205 _ _ (Ext.refl s200) hv137)
  ·intro f212 s210 e211 hA213 hB214 Q hk215
   have ha216 : V _ (f212 22) (y132 : List Deed) := hA213 7 22 (by kernel_rfl) (by kernel_rfl)
   obtain ⟨v217, q218, hv219⟩ : ∃ v, _ = v ∧ V _ v _ := ⟨_, rfl, ha216⟩
   refine L_len Try.underlying59 q218 hv219 (by decide) ?_
   exact L_nil (hk215 _ _ (Ext.refl s210) rfl)
  ·intro f222 s220 e221 hA223 hB224 Q hk225
   have ha226 : f222 15 = Value.int .i64 (y17) := hA223 0 15 (by kernel_rfl) (by kernel_rfl)
   have ha227 : f222 23 = Value.int .i64 ((y132.length : Int)) := hA223 8 23 (by kernel_rfl) (by kernel_rfl)
   refine L_eql ha226 ha227 (by decide) ?_
   exact L_nil (hk225 _ _ (Ext.refl s220) rfl)
  ·intro f230 s228 e229 hA231 hB232
   have hE233 := Tch.ext hE120 e229
   have ha234 : f230 2 = p2 := (hB232 2 (by kernel_rfl)).trans ha124
   have ha235 : f230 3 = p7 := (hB232 3 (by kernel_rfl)).trans ha125
   have ha236 : f230 5 = p121 := (hB232 5 (by kernel_rfl)).trans q122
   have ha237 : f230 24 = Value.bool (decide (y17 = (y132.length : Int))) := hA231 9 24 (by kernel_rfl)
   refine then_n ?_
   refine W_cond _ ha237 (fun hb238 => ?_) (fun hb238 => ?_)
   ·have hr := ite_t hb238 hr
    refine W_seq ?_
    refine W_region ?_
    refine L_assign (rfl : _ = Value.bool (false)) (by decide) ?_
    refine L_nil ?_
    refine then_n ?_
    refine W_ret ?_
    refine then_r ?_
    obtain rfl := Option.some.inj hr
    exact done1 (Or.inl rfl) Try.results32 rfl ⟨_, _, rfl, rfl, hE233, Vbool⟩
   ·have hr := ite_f hb238 hr
    refine W_skip ?_
    refine then_n ?_
    refine W_seq ?_
    obtain ⟨y245, hy246, hr⟩ := bind_some hr
    obtain ⟨y251, hy252, hr⟩ := bind_some hr
    rcases Bool.eq_false_or_eq_true (decide (y251.Kind = (1 : Int))) with hb257 | hb257
    ·have hr := ite_t hb257 hr
     refine W_drawI mixed (by kernel_rfl) (IM s228.w.heap.size 26 0 9 ([(2, (1 : Int), (⟨Value.func (.func 59) #[] #[p2, p7, p121]⟩ : RawV)), (4, (2 : Int), (⟨Value.func (.func 61) #[] #[p2, p7, p121]⟩ : RawV)), (6, (6 : Int), (⟨Value.func (.func 63) #[] #[p2, p7]⟩ : RawV)), (8, (5 : Int), (⟨Value.func (.func 64) #[] #[p2, p7, p121]⟩ : RawV))] : List (Nat × Int × RawV))) [PL.any, PL.eq (Value.func (.func 59) #[] #[p2, p7, p121]), PL.any, PL.eq (Value.func (.func 61) #[] #[p2, p7, p121]), PL.any, PL.eq (Value.func (.func 63) #[] #[p2, p7]), PL.any, PL.eq (Value.func (.func 64) #[] #[p2, p7, p121]), PL.any, PL.mapq ([((1 : Int), (⟨Value.func (.func 59) #[] #[p2, p7, p121]⟩ : RawV)), ((2 : Int), (⟨Value.func (.func 61) #[] #[p2, p7, p121]⟩ : RawV)), ((6 : Int), (⟨Value.func (.func 63) #[] #[p2, p7]⟩ : RawV)), ((5 : Int), (⟨Value.func (.func 64) #[] #[p2, p7, p121]⟩ : RawV))] : List (Int × RawV)), PL.ptr (a0 : Run), PL.ptr (a0 : Run), PL.ptr (a0.c : List (List Deed)), PL.data (a0.c : List (List Deed)), PL.eq (Value.int .i64 (a1)), PL.ptr (y245 : List Deed), PL.data (y245 : List Deed), PL.eq (Value.int .i64 (y17)), PL.ptr (y251 : Deed), PL.ptr (y251.Kind : Int), PL.eq (Value.int .i64 (y251.Kind)), PL.two (PL.eq (Value.func (.func 59) #[] #[p2, p7, p121])) (PL.eq (Value.bool (true))), PL.two (PL.eq (Value.func (.func 59) #[] #[p2, p7, p121])) (PL.eq (Value.bool (true))), PL.eq (Value.func (.func 59) #[] #[p2, p7, p121]), PL.eq (Value.bool (true)), PL.eq (Value.func (.func 59) #[] #[p2, p7, p121]), PL.eq (Value.bool (true))] (fun _ => IM_none) (StepsI_cons ?_ (StepsI_cons ?_ (StepsI_cons ?_ (StepsI_cons ?_ (StepsI_cons ?_ (StepsI_cons ?_ (StepsI_cons ?_ (StepsI_cons ?_ (StepsI_cons ?_ (StepsI_cons ?_ (StepsI_cons ?_ (StepsI_cons ?_ (StepsI_cons ?_ (StepsI_cons ?_ (StepsI_cons ?_ (StepsI_cons ?_ (StepsI_cons ?_ (StepsI_cons ?_ (StepsI_cons ?_ (StepsI_cons ?_ (StepsI_cons ?_ (StepsI_cons ?_ (StepsI_cons ?_ (StepsI_cons ?_ (StepsI_cons ?_ (StepsI_cons ?_ (StepsI_cons ?_ StepsI_nil))))))))))))))))))))))))))) ?_
     ·intro li264 f260 s258 hl265 hh266 hw267 e259 hA261 hB262 hI268 Q hk263
      refine L_makeMap (β := RawV) (by decide) ?_
      intro s269 b270 e271 hb272 hv273
      exact L_nil (hk263 _ _ (Tch.ext e259 e271) e271.le trivial (IM_new hv273 (Nat.le_trans e259.size hb272) (all_of (wait_of hw267) [2, 4, 6, 8] rfl (by kernel_rfl)) rfl))
     ·intro li280 f276 s274 hl281 hh282 hw283 e275 hA277 hB278 hI284 Q hk279
      have ha285 : f276 2 = p2 := (hB278 2 (by kernel_rfl)).trans ha234
      have ha286 : f276 3 = p7 := (hB278 3 (by kernel_rfl)).trans ha235
      have ha287 : f276 5 = p121 := (hB278 5 (by kernel_rfl)).trans ha236
      refine L_makeFunc (args3 ha285 ha286 ha287) (by decide) ?_
      exact L_nil (hk279 _ _ (Tch.ext e275 (Ext.refl s274)) (Ext.refl s274).le rfl (IM_keep hI284 (Ext.refl s274) rfl rfl rfl rfl))
     ·intro li294 f290 s288 hl295 hh296 hw297 e289 hA291 hB292 hI298 Q hk293
      have ha299 : f290 27 = Value.func (.func 59) #[] #[p2, p7, p121] := hA291 1 27 (by kernel_rfl) (by kernel_rfl)
      refine IM_insert (q := 2) Try.underlying101 Try.underlying3 hI298 (hh296 0 (by kernel_rfl)) (wait_of hw297 9 (by kernel_rfl)) hl295 (rfl : _ = Value.int .i64 (1)) ha299 (Vraw rfl) (List.Mem.head _) (by show List.Nodup [2, 4, 6, 8]; decide) (by show List.Nodup ([1, 2, 6, 5] : List Int); decide) e289 (Nat.le_refl _) ?_
      intro s300 e301 l302 hI303
      exact L_nil (hk293 undef _ e301 l302 trivial hI303)
     ·intro li310 f306 s304 hl311 hh312 hw313 e305 hA307 hB308 hI314 Q hk309
      have ha315 : f306 2 = p2 := (hB308 2 (by kernel_rfl)).trans ha234
      have ha316 : f306 3 = p7 := (hB308 3 (by kernel_rfl)).trans ha235
      have ha317 : f306 5 = p121 := (hB308 5 (by kernel_rfl)).trans ha236
      refine L_makeFunc (args3 ha315 ha316 ha317) (by decide) ?_
      exact L_nil (hk309 _ _ (Tch.ext e305 (Ext.refl s304)) (Ext.refl s304).le rfl (IM_keep hI314 (Ext.refl s304) rfl rfl rfl rfl))
     ·intro li324 f320 s318 hl325 hh326 hw327 e319 hA321 hB322 hI328 Q hk323
      have ha329 : f320 28 = Value.func (.func 61) #[] #[p2, p7, p121] := hA321 3 28 (by kernel_rfl) (by kernel_rfl)
      refine IM_insert (q := 4) Try.underlying101 Try.underlying3 hI328 (hh326 0 (by kernel_rfl)) (wait_of hw327 9 (by kernel_rfl)) hl325 (rfl : _ = Value.int .i64 (2)) ha329 (Vraw rfl) (List.Mem.tail _ (List.Mem.head _)) (by show List.Nodup [2, 4, 6, 8]; decide) (by show List.Nodup ([1, 2, 6, 5] : List Int); decide) e319 (Nat.le_refl _) ?_
      intro s330 e331 l332 hI333
      exact L_nil (hk323 undef _ e331 l332 trivial hI333)
     ·intro li340 f336 s334 hl341 hh342 hw343 e335 hA337 hB338 hI344 Q hk339
      have ha345 : f336 2 = p2 := (hB338 2 (by kernel_rfl)).trans ha234
      have ha346 : f336 3 = p7 := (hB338 3 (by kernel_rfl)).trans ha235
      refine L_makeFunc (args2 ha345 ha346) (by decide) ?_
      exact L_nil (hk339 _ _ (Tch.ext e335 (Ext.refl s334)) (Ext.refl s334).le rfl (IM_keep hI344 (Ext.refl s334) rfl rfl rfl rfl))
     ·intro li353 f349 s347 hl354 hh355 hw356 e348 hA350 hB351 hI357 Q hk352
      have ha358 : f349 29 = Value.func (.func 63) #[] #[p2, p7] := hA350 5 29 (by kernel_rfl) (by kernel_rfl)
      refine IM_insert (q := 6) Try.underlying101 Try.underlying3 hI357 (hh355 0 (by kernel_rfl)) (wait_of hw356 9 (by kernel_rfl)) hl354 (rfl : _ = Value.int .i64 (6)) ha358 (Vraw rfl) (List.Mem.tail _ (List.Mem.tail _ (List.Mem.head _))) (by show List.Nodup [2, 4, 6, 8]; decide) (by show List.Nodup ([1, 2, 6, 5] : List Int); decide) e348 (Nat.le_refl _) ?_
      intro s359 e360 l361 hI362
      exact L_nil (hk352 undef _ e360 l361 trivial hI362)
     ·intro li369 f365 s363 hl370 hh371 hw372 e364 hA366 hB367 hI373 Q hk368
      have ha374 : f365 2 = p2 := (hB367 2 (by kernel_rfl)).trans ha234
      have ha375 : f365 3 = p7 := (hB367 3 (by kernel_rfl)).trans ha235
      have ha376 : f365 5 = p121 := (hB367 5 (by kernel_rfl)).trans ha236
      refine L_makeFunc (args3 ha374 ha375 ha376) (by decide) ?_
      exact L_nil (hk368 _ _ (Tch.ext e364 (Ext.refl s363)) (Ext.refl s363).le rfl (IM_keep hI373 (Ext.refl s363) rfl rfl rfl rfl))
     ·intro li383 f379 s377 hl384 hh385 hw386 e378 hA380 hB381 hI387 Q hk382
      have ha388 : f379 30 = Value.func (.func 64) #[] #[p2, p7, p121] := hA380 7 30 (by kernel_rfl) (by kernel_rfl)
      refine IM_insert (q := 8) Try.underlying101 Try.underlying3 hI387 (hh385 0 (by kernel_rfl)) (wait_of hw386 9 (by kernel_rfl)) hl384 (rfl : _ = Value.int .i64 (5)) ha388 (Vraw rfl) (List.Mem.tail _ (List.Mem.tail _ (List.Mem.tail _ (List.Mem.head _)))) (by show List.Nodup [2, 4, 6, 8]; decide) (by show List.Nodup ([1, 2, 6, 5] : List Int); decide) e378 (Nat.le_refl _) ?_
      intro s389 e390 l391 hI392
      exact L_nil (hk382 undef _ e390 l391 trivial hI392)
     ·intro li399 f395 s393 hl400 hh401 hw402 e394 hA396 hB397 hI403 Q hk398
      obtain ⟨s404, ez405, e406, l407, hq408⟩ := IM_done hI403 (hh401 0 (by kernel_rfl)) hl400 (all_of hh401 [2, 4, 6, 8] rfl (by kernel_rfl)) (by show List.Nodup ([1, 2, 6, 5] : List Int); decide) e394 (Nat.le_refl _)
      rw [← ez405]
      refine L_move (rfl : _ = f395 26) (by decide) ?_
      exact L_nil (hk398 _ _ e406 l407 hq408 (IM_at rfl))
     ·intro li415 f411 s409 hl416 hh417 hw418 e410 hA412 hB413 hI419 Q hk414
      have ha420 : f411 2 = p2 := (hB413 2 (by kernel_rfl)).trans ha234
      refine L_load ty67 ha420 (hp3.mono (e6.le.trans (hT115.le.trans (e229.le.trans e410.le)))) (by decide) ?_
      intro v239 hv240
      exact L_nil (hk414 _ _ (Tch.ext e410 (Ext.refl s409)) (Ext.refl s409).le hv240.toPtr (IM_keep hI419 (Ext.refl s409) rfl rfl rfl rfl))
     ·intro li427 f423 s421 hl428 hh429 hw430 e422 hA424 hB425 hI431 Q hk426
      have ha432 : Ptr _ (f423 32) (a0 : Run) := hA424 10 32 (by kernel_rfl) (by kernel_rfl)
      obtain ⟨v433, q434, hv435⟩ : ∃ v, _ = v ∧ Ptr _ v _ := ⟨_, rfl, ha432⟩
      refine L_nilCheck_ptr q434 hv435 (by decide) ?_
      exact L_nil (hk426 _ _ (Tch.ext e422 (Ext.refl s421)) (Ext.refl s421).le hv435 (IM_keep hI431 (Ext.refl s421) rfl rfl rfl rfl))
     ·intro li442 f438 s436 hl443 hh444 hw445 e437 hA439 hB440 hI446 Q hk441
      have ha447 : Ptr _ (f438 33) (a0 : Run) := hA439 11 33 (by kernel_rfl) (by kernel_rfl)
      obtain ⟨v448, q449, hv450⟩ : ∃ v, _ = v ∧ Ptr _ v _ := ⟨_, rfl, ha447⟩
      refine L_fieldAddr fld72_0 Run.of_c q449 hv450 (by decide) ?_
      intro p241 hp242
      exact L_nil (hk441 _ _ (Tch.ext e437 (Ext.refl s436)) (Ext.refl s436).le hp242 (IM_keep hI446 (Ext.refl s436) rfl rfl rfl rfl))
     ·intro li457 f453 s451 hl458 hh459 hw460 e452 hA454 hB455 hI461 Q hk456
      have ha462 : Ptr _ (f453 34) (a0.c : List (List Deed)) := hA454 12 34 (by kernel_rfl) (by kernel_rfl)
      obtain ⟨v463, q464, hv465⟩ : ∃ v, _ = v ∧ Ptr _ v _ := ⟨_, rfl, ha462⟩
      refine L_load ty29 q464 hv465 (by decide) ?_
      intro v243 hv244
      exact L_nil (hk456 _ _ (Tch.ext e452 (Ext.refl s451)) (Ext.refl s451).le hv244 (IM_keep hI461 (Ext.refl s451) rfl rfl rfl rfl))
     ·intro li472 f468 s466 hl473 hh474 hw475 e467 hA469 hB470 hI476 Q hk471
      have ha477 : f468 3 = p7 := (hB470 3 (by kernel_rfl)).trans ha235
      refine L_load_int ty3 ha477 (hp8.mono (hT115.le.trans (e229.le.trans e467.le))) (by decide) ?_
      exact L_nil (hk471 _ _ (Tch.ext e467 (Ext.refl s466)) (Ext.refl s466).le rfl (IM_keep hI476 (Ext.refl s466) rfl rfl rfl rfl))
     ·intro li484 f480 s478 hl485 hh486 hw487 e479 hA481 hB482 hI488 Q hk483
      have ha489 : V _ (f480 35) (a0.c : List (List Deed)) := hA481 13 35 (by kernel_rfl) (by kernel_rfl)
      obtain ⟨v490, q491, hv492⟩ : ∃ v, _ = v ∧ V _ v _ := ⟨_, rfl, ha489⟩
      have ha493 : f480 36 = Value.int .i64 (a1) := hA481 14 36 (by kernel_rfl) (by kernel_rfl)
      refine L_index Try.underlying29 ty59.inf q491 hv492 ha493 hy246 (by decide) ?_
      intro p247 hp248
      exact L_nil (hk483 _ _ (Tch.ext e479 (Ext.refl s478)) (Ext.refl s478).le hp248 (IM_keep hI488 (Ext.refl s478) rfl rfl rfl rfl))
     ·intro li500 f496 s494 hl501 hh502 hw503 e495 hA497 hB498 hI504 Q hk499
      have ha505 : Ptr _ (f496 37) (y245 : List Deed) := hA497 15 37 (by kernel_rfl) (by kernel_rfl)
      obtain ⟨v506, q507, hv508⟩ : ∃ v, _ = v ∧ Ptr _ v _ := ⟨_, rfl, ha505⟩
      refine L_load ty59 q507 hv508 (by decide) ?_
      intro v249 hv250
      exact L_nil (hk499 _ _ (Tch.ext e495 (Ext.refl s494)) (Ext.refl s494).le hv250 (IM_keep hI504 (Ext.refl s494) rfl rfl rfl rfl))
     ·intro li515 f511 s509 hl516 hh517 hw518 e510 hA512 hB513 hI519 Q hk514
      have ha520 : f511 5 = p121 := (hB513 5 (by kernel_rfl)).trans ha236
      refine L_load_int ty3 ha520 (hp123.mono (e229.le.trans e510.le)) (by decide) ?_
      exact L_nil (hk514 _ _ (Tch.ext e510 (Ext.refl s509)) (Ext.refl s509).le rfl (IM_keep hI519 (Ext.refl s509) rfl rfl rfl rfl))
     ·intro li527 f523 s521 hl528 hh529 hw530 e522 hA524 hB525 hI531 Q hk526
      have ha532 : V _ (f523 38) (y245 : List Deed) := hA524 16 38 (by kernel_rfl) (by kernel_rfl)
      obtain ⟨v533, q534, hv535⟩ : ∃ v, _ = v ∧ V _ v _ := ⟨_, rfl, ha532⟩
      have ha536 : f523 39 = Value.int .i64 (y17) := hA524 17 39 (by kernel_rfl) (by kernel_rfl)
      refine L_index Try.underlying59 ty64.inf q534 hv535 ha536 hy252 (by decide) ?_
      intro p253 hp254
      exact L_nil (hk526 _ _ (Tch.ext e522 (Ext.refl s521)) (Ext.refl s521).le hp254 (IM_keep hI531 (Ext.refl s521) rfl rfl rfl rfl))
     ·intro li543 f539 s537 hl544 hh545 hw546 e538 hA540 hB541 hI547 Q hk542
      have ha548 : Ptr _ (f539 40) (y251 : Deed) := hA540 18 40 (by kernel_rfl) (by kernel_rfl)
      obtain ⟨v549, q550, hv551⟩ : ∃ v, _ = v ∧ Ptr _ v _ := ⟨_, rfl, ha548⟩
      refine L_fieldAddr fld64_0 Deed.of_Kind q550 hv551 (by decide) ?_
      intro p255 hp256
      exact L_nil (hk542 _ _ (Tch.ext e538 (Ext.refl s537)) (Ext.refl s537).le hp256 (IM_keep hI547 (Ext.refl s537) rfl rfl rfl rfl))
     ·intro li558 f554 s552 hl559 hh560 hw561 e553 hA555 hB556 hI562 Q hk557
      have ha563 : Ptr _ (f554 41) (y251.Kind : Int) := hA555 19 41 (by kernel_rfl) (by kernel_rfl)
      obtain ⟨v564, q565, hv566⟩ : ∃ v, _ = v ∧ Ptr _ v _ := ⟨_, rfl, ha563⟩
      refine L_load_int ty3 q565 hv566 (by decide) ?_
      exact L_nil (hk557 _ _ (Tch.ext e553 (Ext.refl s552)) (Ext.refl s552).le rfl (IM_keep hI562 (Ext.refl s552) rfl rfl rfl rfl))
     ·intro li573 f569 s567 hl574 hh575 hw576 e568 hA570 hB571 hI577 Q hk572
      obtain ⟨v579, q580, hv581⟩ : ∃ v, f569 31 = v ∧ MapQ s567 v ([((1 : Int), (⟨Value.func (.func 59) #[] #[p2, p7, p121]⟩ : RawV)), ((2 : Int), (⟨Value.func (.func 61) #[] #[p2, p7, p121]⟩ : RawV)), ((6 : Int), (⟨Value.func (.func 63) #[] #[p2, p7]⟩ : RawV)), ((5 : Int), (⟨Value.func (.func 64) #[] #[p2, p7, p121]⟩ : RawV))] : List (Int × RawV)) := ⟨_, rfl, hA570 9 31 (by kernel_rfl) (by kernel_rfl)⟩
      have ha582 : f569 42 = Value.int .i64 (y251.Kind) := hA570 20 42 (by kernel_rfl) (by kernel_rfl)
      refine L_lookup_q (m := ([((1 : Int), (⟨Value.func (.func 59) #[] #[p2, p7, p121]⟩ : RawV)), ((2 : Int), (⟨Value.func (.func 61) #[] #[p2, p7, p121]⟩ : RawV)), ((6 : Int), (⟨Value.func (.func 63) #[] #[p2, p7]⟩ : RawV)), ((5 : Int), (⟨Value.func (.func 64) #[] #[p2, p7, p121]⟩ : RawV))] : List (Int × RawV))) (z0 := (⟨Value.nilFunc⟩ : RawV)) Try.underlying101 Try.underlying3 zero25 (Vraw rfl) q580 ha582 hv581 (by decide) ?_
      have hm585 : mget ([((1 : Int), (⟨Value.func (.func 59) #[] #[p2, p7, p121]⟩ : RawV)), ((2 : Int), (⟨Value.func (.func 61) #[] #[p2, p7, p121]⟩ : RawV)), ((6 : Int), (⟨Value.func (.func 63) #[] #[p2, p7]⟩ : RawV)), ((5 : Int), (⟨Value.func (.func 64) #[] #[p2, p7, p121]⟩ : RawV))] : List (Int × RawV)) y251.Kind = some (⟨Value.func (.func 59) #[] #[p2, p7, p121]⟩ : RawV) := (mget_hit hb257)
      rw [hm585]
      intro v583 hv584
      obtain rfl : v583 = _ := hv584.raw
      exact L_nil (hk572 _ _ e568 (Le.refl _) ⟨_, _, rfl, rfl, rfl⟩ (IM_keep hI577 (Ext.refl _) rfl rfl rfl rfl))
     ·intro li592 f588 s586 hl593 hh594 hw595 e587 hA589 hB590 hI596 Q hk591
      have ha597 : (PV.two (PV.eq (Value.func (.func 59) #[] #[p2, p7, p121])) (PV.eq (Value.bool (true)))).p (f588 43) s586 := hA589 21 43 (by kernel_rfl) (by kernel_rfl)
      obtain ⟨v601, v602, q599, hv603, hv604⟩ := ha597
      obtain rfl : v601 = _ := hv603
      obtain rfl : v602 = _ := hv604
      refine L_move q599 (by decide) ?_
      exact L_nil (hk591 _ _ (Tch.ext e587 (Ext.refl s586)) (Ext.refl s586).le ⟨_, _, rfl, rfl, rfl⟩ (IM_keep hI596 (Ext.refl s586) rfl rfl rfl rfl))
     ·intro li611 f607 s605 hl612 hh613 hw614 e606 hA608 hB609 hI615 Q hk610
      have ha616 : (PV.two (PV.eq (Value.func (.func 59) #[] #[p2, p7, p121])) (PV.eq (Value.bool (true)))).p (f607 25) s605 := hA608 22 25 (by kernel_rfl) (by kernel_rfl)
      obtain ⟨v620, v621, q618, hv622, hv623⟩ := ha616
      obtain rfl : v620 = _ := hv622
      obtain rfl : v621 = _ := hv623
      refine L_extract q618 (k := 0) rfl (by decide) ?_
      exact L_nil (hk610 _ _ (Tch.ext e606 (Ext.refl s605)) (Ext.refl s605).le rfl (IM_keep hI615 (Ext.refl s605) rfl rfl rfl rfl))
     ·intro li630 f626 s624 hl631 hh632 hw633 e625 hA627 hB628 hI634 Q hk629
      have ha635 : (PV.two (PV.eq (Value.func (.func 59) #[] #[p2, p7, p121])) (PV.eq (Value.bool (true)))).p (f626 25) s624 := hA627 22 25 (by kernel_rfl) (by kernel_rfl)
      obtain ⟨v639, v640, q637, hv641, hv642⟩ := ha635
      obtain rfl : v639 = _ := hv641
      obtain rfl : v640 = _ := hv642
      refine L_extract q637 (k := 1) rfl (by decide) ?_
      exact L_nil (hk629 _ _ (Tch.ext e625 (Ext.refl s624)) (Ext.refl s624).le rfl (IM_keep hI634 (Ext.refl s624) rfl rfl rfl rfl))
     ·intro li649 f645 s643 hl650 hh651 hw652 e644 hA646 hB647 hI653 Q hk648
      have ha654 : f645 44 = Value.func (.func 59) #[] #[p2, p7, p121] := hA646 23 44 (by kernel_rfl) (by kernel_rfl)
      refine L_assign ha654 (by decide) ?_
      exact L_nil (hk648 _ _ (Tch.ext e644 (Ext.refl s643)) (Ext.refl s643).le rfl (IM_keep hI653 (Ext.refl s643) rfl rfl rfl rfl))
     ·intro li661 f657 s655 hl662 hh663 hw664 e656 hA658 hB659 hI665 Q hk660
      have ha666 : f657 45 = Value.bool (true) := hA658 24 45 (by kernel_rfl) (by kernel_rfl)
      refine L_assign ha666 (by decide) ?_
      exact L_nil (hk660 _ _ (Tch.ext e656 (Ext.refl s655)) (Ext.refl s655).le rfl (IM_keep hI665 (Ext.refl s655) rfl rfl rfl rfl))
     ·intro f669 s667 e668 hA670 hB671
      have hE672 := Tch.ext hE233 e668
      have ha673 : f669 6 = Value.func (.func 59) #[] #[p2, p7, p121] := hA670 25 6 (by kernel_rfl)
      have ha674 : f669 7 = Value.bool (true) := hA670 26 7 (by kernel_rfl)
      refine then_n ?_
      refine W_seq ?_
      refine W_region ?_
      refine L_move ha674 (by decide) ?_
      refine L_not (rfl : _ = Value.bool (true)) (by decide) ?_
      refine L_move (rfl : _ = Value.bool (!true)) (by decide) ?_
      refine L_gt (e := 48) (by rfl) (by decide) (rfl : _ = Value.bool (!true)) rfl ?_
      refine L_move ha673 (by decide) ?_
      refine L_gt (e := 48) (by rfl) (by decide) (rfl : _ = Value.bool (!true)) rfl ?_
      obtain ⟨y675, hy676, hr⟩ := bind_some hr
      refine L_callv cal59 (rfl : _ = Value.func (.func 59) #[] #[p2, p7, p121]) (args0) (dead_run_can_1_ok N _ _ _ (hp3.mono (e6.le.trans (hT115.le.trans (e229.le.trans e668.le)))) _ _ (hp8.mono (hT115.le.trans (e229.le.trans e668.le))) _ _ (hp123.mono (e229.le.trans e668.le)) y675 hy676) (by decide) ?_
      intro v677 s680 e678 hv679
      have hE681 := Tch.ext hE672 e678
      obtain rfl := hv679.bool
      refine L_pick_f (rfl : _ = Value.bool (!true)) rfl (rfl : _ = Value.bool (y675)) (by decide) ?_
      refine L_assign (rfl : _ = Value.bool (y675)) (by decide) ?_
      refine L_nil ?_
      refine then_n ?_
      refine W_ret ?_
      obtain rfl := Option.some.inj hr
      exact done1 (Or.inl rfl) Try.results32 rfl ⟨_, _, rfl, rfl, hE681, Vbool⟩
    ·have hr := ite_f hb257 hr
     rcases Bool.eq_false_or_eq_true (decide (y251.Kind = (2 : Int))) with hb682 | hb682
     ·have hr := ite_t hb682 hr
      refine W_drawI mixed (by kernel_rfl) (IM s228.w.heap.size 26 0 9 ([(2, (1 : Int), (⟨Value.func (.func 59) #[] #[p2, p7, p121]⟩ : RawV)), (4, (2 : Int), (⟨Value.func (.func 61) #[] #[p2, p7, p121]⟩ : RawV)), (6, (6 : Int), (⟨Value.func (.func 63) #[] #[p2, p7]⟩ : RawV)), (8, (5 : Int), (⟨Value.func (.func 64) #[] #[p2, p7, p121]⟩ : RawV))] : List (Nat × Int × RawV))) [PL.any, PL.eq (Value.func (.func 59) #[] #[p2, p7, p121]), PL.any, PL.eq (Value.func (.func 61) #[] #[p2, p7, p121]), PL.any, PL.eq (Value.func (.func 63) #[] #[p2, p7]), PL.any, PL.eq (Value.func (.func 64) #[] #[p2, p7, p121]), PL.any, PL.mapq ([((1 : Int), (⟨Value.func (.func 59) #[] #[p2, p7, p121]⟩ : RawV)), ((2 : Int), (⟨Value.func (.func 61) #[] #[p2, p7, p121]⟩ : RawV)), ((6 : Int), (⟨Value.func (.func 63) #[] #[p2, p7]⟩ : RawV)), ((5 : Int), (⟨Value.func (.func 64) #[] #[p2, p7, p121]⟩ : RawV))] : List (Int × RawV)), PL.ptr (a0 : Run), PL.ptr (a0 : Run), PL.ptr (a0.c : List (List Deed)), PL.data (a0.c : List (List Deed)), PL.eq (Value.int .i64 (a1)), PL.ptr (y245 : List Deed), PL.data (y245 : List Deed), PL.eq (Value.int .i64 (y17)), PL.ptr (y251 : Deed), PL.ptr (y251.Kind : Int), PL.eq (Value.int .i64 (y251.Kind)), PL.two (PL.eq (Value.func (.func 61) #[] #[p2, p7, p121])) (PL.eq (Value.bool (true))), PL.two (PL.eq (Value.func (.func 61) #[] #[p2, p7, p121])) (PL.eq (Value.bool (true))), PL.eq (Value.func (.func 61) #[] #[p2, p7, p121]), PL.eq (Value.bool (true)), PL.eq (Value.func (.func 61) #[] #[p2, p7, p121]), PL.eq (Value.bool (true))] (fun _ => IM_none) (StepsI_cons ?_ (StepsI_cons ?_ (StepsI_cons ?_ (StepsI_cons ?_ (StepsI_cons ?_ (StepsI_cons ?_ (StepsI_cons ?_ (StepsI_cons ?_ (StepsI_cons ?_ (StepsI_cons ?_ (StepsI_cons ?_ (StepsI_cons ?_ (StepsI_cons ?_ (StepsI_cons ?_ (StepsI_cons ?_ (StepsI_cons ?_ (StepsI_cons ?_ (StepsI_cons ?_ (StepsI_cons ?_ (StepsI_cons ?_ (StepsI_cons ?_ (StepsI_cons ?_ (StepsI_cons ?_ (StepsI_cons ?_ (StepsI_cons ?_ (StepsI_cons ?_ (StepsI_cons ?_ StepsI_nil))))))))))))))))))))))))))) ?_
      ·intro li689 f685 s683 hl690 hh691 hw692 e684 hA686 hB687 hI693 Q hk688
       refine L_makeMap (β := RawV) (by decide) ?_
       intro s694 b695 e696 hb697 hv698
       exact L_nil (hk688 _ _ (Tch.ext e684 e696) e696.le trivial (IM_new hv698 (Nat.le_trans e684.size hb697) (all_of (wait_of hw692) [2, 4, 6, 8] rfl (by kernel_rfl)) rfl))
      ·intro li705 f701 s699 hl706 hh707 hw708 e700 hA702 hB703 hI709 Q hk704
       have ha710 : f701 2 = p2 := (hB703 2 (by kernel_rfl)).trans ha234
       have ha711 : f701 3 = p7 := (hB703 3 (by kernel_rfl)).trans ha235
       have ha712 : f701 5 = p121 := (hB703 5 (by kernel_rfl)).trans ha236
       refine L_makeFunc (args3 ha710 ha711 ha712) (by decide) ?_
       exact L_nil (hk704 _ _ (Tch.ext e700 (Ext.refl s699)) (Ext.refl s699).le rfl (IM_keep hI709 (Ext.refl s699) rfl rfl rfl rfl))
      ·intro li719 f715 s713 hl720 hh721 hw722 e714 hA716 hB717 hI723 Q hk718
       have ha724 : f715 27 = Value.func (.func 59) #[] #[p2, p7, p121] := hA716 1 27 (by kernel_rfl) (by kernel_rfl)
       refine IM_insert (q := 2) Try.underlying101 Try.underlying3 hI723 (hh721 0 (by kernel_rfl)) (wait_of hw722 9 (by kernel_rfl)) hl720 (rfl : _ = Value.int .i64 (1)) ha724 (Vraw rfl) (List.Mem.head _) (by show List.Nodup [2, 4, 6, 8]; decide) (by show List.Nodup ([1, 2, 6, 5] : List Int); decide) e714 (Nat.le_refl _) ?_
       intro s725 e726 l727 hI728
       exact L_nil (hk718 undef _ e726 l727 trivial hI728)
      ·intro li735 f731 s729 hl736 hh737 hw738 e730 hA732 hB733 hI739 Q hk734
       have ha740 : f731 2 = p2 := (hB733 2 (by kernel_rfl)).trans ha234
       have ha741 : f731 3 = p7 := (hB733 3 (by kernel_rfl)).trans ha235
       have ha742 : f731 5 = p121 := (hB733 5 (by kernel_rfl)).trans ha236
       refine L_makeFunc (args3 ha740 ha741 ha742) (by decide) ?_
       exact L_nil (hk734 _ _ (Tch.ext e730 (Ext.refl s729)) (Ext.refl s729).le rfl (IM_keep hI739 (Ext.refl s729) rfl rfl rfl rfl))
      ·intro li749 f745 s743 hl750 hh751 hw752 e744 hA746 hB747 hI753 Q hk748
       have ha754 : f745 28 = Value.func (.func 61) #[] #[p2, p7, p121] := hA746 3 28 (by kernel_rfl) (by kernel_rfl)
       refine IM_insert (q := 4) Try.underlying101 Try.underlying3 hI753 (hh751 0 (by kernel_rfl)) (wait_of hw752 9 (by kernel_rfl)) hl750 (rfl : _ = Value.int .i64 (2)) ha754 (Vraw rfl) (List.Mem.tail _ (List.Mem.head _)) (by show List.Nodup [2, 4, 6, 8]; decide) (by show List.Nodup ([1, 2, 6, 5] : List Int); decide) e744 (Nat.le_refl _) ?_
       intro s755 e756 l757 hI758
       exact L_nil (hk748 undef _ e756 l757 trivial hI758)
      ·intro li765 f761 s759 hl766 hh767 hw768 e760 hA762 hB763 hI769 Q hk764
       have ha770 : f761 2 = p2 := (hB763 2 (by kernel_rfl)).trans ha234
       have ha771 : f761 3 = p7 := (hB763 3 (by kernel_rfl)).trans ha235
       refine L_makeFunc (args2 ha770 ha771) (by decide) ?_
       exact L_nil (hk764 _ _ (Tch.ext e760 (Ext.refl s759)) (Ext.refl s759).le rfl (IM_keep hI769 (Ext.refl s759) rfl rfl rfl rfl))
      ·intro li778 f774 s772 hl779 hh780 hw781 e773 hA775 hB776 hI782 Q hk777
       have ha783 : f774 29 = Value.func (.func 63) #[] #[p2, p7] := hA775 5 29 (by kernel_rfl) (by kernel_rfl)
       refine IM_insert (q := 6) Try.underlying101 Try.underlying3 hI782 (hh780 0 (by kernel_rfl)) (wait_of hw781 9 (by kernel_rfl)) hl779 (rfl : _ = Value.int .i64 (6)) ha783 (Vraw rfl) (List.Mem.tail _ (List.Mem.tail _ (List.Mem.head _))) (by show List.Nodup [2, 4, 6, 8]; decide) (by show List.Nodup ([1, 2, 6, 5] : List Int); decide) e773 (Nat.le_refl _) ?_
       intro s784 e785 l786 hI787
       exact L_nil (hk777 undef _ e785 l786 trivial hI787)
      ·intro li794 f790 s788 hl795 hh796 hw797 e789 hA791 hB792 hI798 Q hk793
       have ha799 : f790 2 = p2 := (hB792 2 (by kernel_rfl)).trans ha234
       have ha800 : f790 3 = p7 := (hB792 3 (by kernel_rfl)).trans ha235
       have ha801 : f790 5 = p121 := (hB792 5 (by kernel_rfl)).trans ha236
       refine L_makeFunc (args3 ha799 ha800 ha801) (by decide) ?_
       exact L_nil (hk793 _ _ (Tch.ext e789 (Ext.refl s788)) (Ext.refl s788).le rfl (IM_keep hI798 (Ext.refl s788) rfl rfl rfl rfl))
      ·intro li808 f804 s802 hl809 hh810 hw811 e803 hA805 hB806 hI812 Q hk807
       have ha813 : f804 30 = Value.func (.func 64) #[] #[p2, p7, p121] := hA805 7 30 (by kernel_rfl) (by kernel_rfl)
       refine IM_insert (q := 8) Try.underlying101 Try.underlying3 hI812 (hh810 0 (by kernel_rfl)) (wait_of hw811 9 (by kernel_rfl)) hl809 (rfl : _ = Value.int .i64 (5)) ha813 (Vraw rfl) (List.Mem.tail _ (List.Mem.tail _ (List.Mem.tail _ (List.Mem.head _)))) (by show List.Nodup [2, 4, 6, 8]; decide) (by show List.Nodup ([1, 2, 6, 5] : List Int); decide) e803 (Nat.le_refl _) ?_
       intro s814 e815 l816 hI817
       exact L_nil (hk807 undef _ e815 l816 trivial hI817)
      ·intro li824 f820 s818 hl825 hh826 hw827 e819 hA821 hB822 hI828 Q hk823
       obtain ⟨s829, ez830, e831, l832, hq833⟩ := IM_done hI828 (hh826 0 (by kernel_rfl)) hl825 (all_of hh826 [2, 4, 6, 8] rfl (by kernel_rfl)) (by show List.Nodup ([1, 2, 6, 5] : List Int); decide) e819 (Nat.le_refl _)
       rw [← ez830]
       refine L_move (rfl : _ = f820 26) (by decide) ?_
       exact L_nil (hk823 _ _ e831 l832 hq833 (IM_at rfl))
      ·intro li840 f836 s834 hl841 hh842 hw843 e835 hA837 hB838 hI844 Q hk839
       have ha845 : f836 2 = p2 := (hB838 2 (by kernel_rfl)).trans ha234
       refine L_load ty67 ha845 (hp3.mono (e6.le.trans (hT115.le.trans (e229.le.trans e835.le)))) (by decide) ?_
       intro v239 hv240
       exact L_nil (hk839 _ _ (Tch.ext e835 (Ext.refl s834)) (Ext.refl s834).le hv240.toPtr (IM_keep hI844 (Ext.refl s834) rfl rfl rfl rfl))
      ·intro li852 f848 s846 hl853 hh854 hw855 e847 hA849 hB850 hI856 Q hk851
       have ha857 : Ptr _ (f848 32) (a0 : Run) := hA849 10 32 (by kernel_rfl) (by kernel_rfl)
       obtain ⟨v858, q859, hv860⟩ : ∃ v, _ = v ∧ Ptr _ v _ := ⟨_, rfl, ha857⟩
       refine L_nilCheck_ptr q859 hv860 (by decide) ?_
       exact L_nil (hk851 _ _ (Tch.ext e847 (Ext.refl s846)) (Ext.refl s846).le hv860 (IM_keep hI856 (Ext.refl s846) rfl rfl rfl rfl))
      ·intro li867 f863 s861 hl868 hh869 hw870 e862 hA864 hB865 hI871 Q hk866
       have ha872 : Ptr _ (f863 33) (a0 : Run) := hA864 11 33 (by kernel_rfl) (by kernel_rfl)
       obtain ⟨v873, q874, hv875⟩ : ∃ v, _ = v ∧ Ptr _ v _ := ⟨_, rfl, ha872⟩
       refine L_fieldAddr fld72_0 Run.of_c q874 hv875 (by decide) ?_
       intro p241 hp242
       exact L_nil (hk866 _ _ (Tch.ext e862 (Ext.refl s861)) (Ext.refl s861).le hp242 (IM_keep hI871 (Ext.refl s861) rfl rfl rfl rfl))
      ·intro li882 f878 s876 hl883 hh884 hw885 e877 hA879 hB880 hI886 Q hk881
       have ha887 : Ptr _ (f878 34) (a0.c : List (List Deed)) := hA879 12 34 (by kernel_rfl) (by kernel_rfl)
       obtain ⟨v888, q889, hv890⟩ : ∃ v, _ = v ∧ Ptr _ v _ := ⟨_, rfl, ha887⟩
       refine L_load ty29 q889 hv890 (by decide) ?_
       intro v243 hv244
       exact L_nil (hk881 _ _ (Tch.ext e877 (Ext.refl s876)) (Ext.refl s876).le hv244 (IM_keep hI886 (Ext.refl s876) rfl rfl rfl rfl))
      ·intro li897 f893 s891 hl898 hh899 hw900 e892 hA894 hB895 hI901 Q hk896
       have ha902 : f893 3 = p7 := (hB895 3 (by kernel_rfl)).trans ha235
       refine L_load_int ty3 ha902 (hp8.mono (hT115.le.trans (e229.le.trans e892.le))) (by decide) ?_
       exact L_nil (hk896 _ _ (Tch.ext e892 (Ext.refl s891)) (Ext.refl s891).le rfl (IM_keep hI901 (Ext.refl s891) rfl rfl rfl rfl))
      ·intro li909 f905 s903 hl910 hh911 hw912 e904 hA906 hB907 hI913 Q hk908
       have ha914 : V _ (f905 35) (a0.c : List (List Deed)) := hA906 13 35 (by kernel_rfl) (by kernel_rfl)
       obtain ⟨v915, q916, hv917⟩ : ∃ v, _ = v ∧ V _ v _ := ⟨_, rfl, ha914⟩
       have ha918 : f905 36 = Value.int .i64 (a1) := hA906 14 36 (by kernel_rfl) (by kernel_rfl)
       refine L_index Try.underlying29 ty59.inf q916 hv917 ha918 hy246 (by decide) ?_
       intro p247 hp248
       exact L_nil (hk908 _ _ (Tch.ext e904 (Ext.refl s903)) (Ext.refl s903).le hp248 (IM_keep hI913 (Ext.refl s903) rfl rfl rfl rfl))
      ·intro li925 f921 s919 hl926 hh927 hw928 e920 hA922 hB923 hI929 Q hk924
       have ha930 : Ptr _ (f921 37) (y245 : List Deed) := hA922 15 37 (by kernel_rfl) (by kernel_rfl)
       obtain ⟨v931, q932, hv933⟩ : ∃ v, _ = v ∧ Ptr _ v _ := ⟨_, rfl, ha930⟩
       refine L_load ty59 q932 hv933 (by decide) ?_
       intro v249 hv250
       exact L_nil (hk924 _ _ (Tch.ext e920 (Ext.refl s919)) (Ext.refl s919).le hv250 (IM_keep hI929 (Ext.refl s919) rfl rfl rfl rfl))
      ·intro li940 f936 s934 hl941 hh942 hw943 e935 hA937 hB938 hI944 Q hk939
       have ha945 : f936 5 = p121 := (hB938 5 (by kernel_rfl)).trans ha236
       refine L_load_int ty3 ha945 (hp123.mono (e229.le.trans e935.le)) (by decide) ?_
       exact L_nil (hk939 _ _ (Tch.ext e935 (Ext.refl s934)) (Ext.refl s934).le rfl (IM_keep hI944 (Ext.refl s934) rfl rfl rfl rfl))
      ·intro li952 f948 s946 hl953 hh954 hw955 e947 hA949 hB950 hI956 Q hk951
       have ha957 : V _ (f948 38) (y245 : List Deed) := hA949 16 38 (by kernel_rfl) (by kernel_rfl)
       obtain ⟨v958, q959, hv960⟩ : ∃ v, _ = v ∧ V _ v _ := ⟨_, rfl, ha957⟩
       have ha961 : f948 39 = Value.int .i64 (y17) := hA949 17 39 (by kernel_rfl) (by kernel_rfl)
       refine L_index Try.underlying59 ty64.inf q959 hv960 ha961 hy252 (by decide) ?_
       intro p253 hp254
       exact L_nil (hk951 _ _ (Tch.ext e947 (Ext.refl s946)) (Ext.refl s946).le hp254 (IM_keep hI956 (Ext.refl s946) rfl rfl rfl rfl))
      ·intro li968 f964 s962 hl969 hh970 hw971 e963 hA965 hB966 hI972 Q hk967
       have ha973 : Ptr _ (f964 40) (y251 : Deed) := hA965 18 40 (by kernel_rfl) (by kernel_rfl)
       obtain ⟨v974, q975, hv976⟩ : ∃ v, _ = v ∧ Ptr _ v _ := ⟨_, rfl, ha973⟩
       refine L_fieldAddr fld64_0 Deed.of_Kind q975 hv976 (by decide) ?_
       intro p255 hp256
       exact L_nil (hk967 _ _ (Tch.ext e963 (Ext.refl s962)) (Ext.refl s962).le hp256 (IM_keep hI972 (Ext.refl s962) rfl rfl rfl rfl))
      ·intro li983 f979 s977 hl984 hh985 hw986 e978 hA980 hB981 hI987 Q hk982
       have ha988 : Ptr _ (f979 41) (y251.Kind : Int) := hA980 19 41 (by kernel_rfl) (by kernel_rfl)
       obtain ⟨v989, q990, hv991⟩ : ∃ v, _ = v ∧ Ptr _ v _ := ⟨_, rfl, ha988⟩
       refine L_load_int ty3 q990 hv991 (by decide) ?_
       exact L_nil (hk982 _ _ (Tch.ext e978 (Ext.refl s977)) (Ext.refl s977).le rfl (IM_keep hI987 (Ext.refl s977) rfl rfl rfl rfl))
      ·intro li998 f994 s992 hl999 hh1000 hw1001 e993 hA995 hB996 hI1002 Q hk997
       obtain ⟨v1004, q1005, hv1006⟩ : ∃ v, f994 31 = v ∧ MapQ s992 v ([((1 : Int), (⟨Value.func (.func 59) #[] #[p2, p7, p121]⟩ : RawV)), ((2 : Int), (⟨Value.func (.func 61) #[] #[p2, p7, p121]⟩ : RawV)), ((6 : Int), (⟨Value.func (.func 63) #[] #[p2, p7]⟩ : RawV)), ((5 : Int), (⟨Value.func (.func 64) #[] #[p2, p7, p121]⟩ : RawV))] : List (Int × RawV)) := ⟨_, rfl, hA995 9 31 (by kernel_rfl) (by kernel_rfl)⟩
       have ha1007 : f994 42 = Value.int .i64 (y251.Kind) := hA995 20 42 (by kernel_rfl) (by kernel_rfl)
       refine L_lookup_q (m := ([((1 : Int), (⟨Value.func (.func 59) #[] #[p2, p7, p121]⟩ : RawV)), ((2 : Int), (⟨Value.func (.func 61) #[] #[p2, p7, p121]⟩ : RawV)), ((6 : Int), (⟨Value.func (.func 63) #[] #[p2, p7]⟩ : RawV)), ((5 : Int), (⟨Value.func (.func 64) #[] #[p2, p7, p121]⟩ : RawV))] : List (Int × RawV))) (z0 := (⟨Value.nilFunc⟩ : RawV)) Try.underlying101 Try.underlying3 zero25 (Vraw rfl) q1005 ha1007 hv1006 (by decide) ?_
       have hm1010 : mget ([((1 : Int), (⟨Value.func (.func 59) #[] #[p2, p7, p121]⟩ : RawV)), ((2 : Int), (⟨Value.func (.func 61) #[] #[p2, p7, p121]⟩ : RawV)), ((6 : Int), (⟨Value.func (.func 63) #[] #[p2, p7]⟩ : RawV)), ((5 : Int), (⟨Value.func (.func 64) #[] #[p2, p7, p121]⟩ : RawV))] : List (Int × RawV)) y251.Kind = some (⟨Value.func (.func 61) #[] #[p2, p7, p121]⟩ : RawV) := (mget_skip hb257 (mget_hit hb682))
       rw [hm1010]
       intro v1008 hv1009
       obtain rfl : v1008 = _ := hv1009.raw
       exact L_nil (hk997 _ _ e993 (Le.refl _) ⟨_, _, rfl, rfl, rfl⟩ (IM_keep hI1002 (Ext.refl _) rfl rfl rfl rfl))
      ·intro li1017 f1013 s1011 hl1018 hh1019 hw1020 e1012 hA1014 hB1015 hI1021 Q hk1016
       have ha1022 : (PV.two (PV.eq (Value.func (.func 61) #[] #[p2, p7, p121])) (PV.eq (Value.bool (true)))).p (f1013 43) s1011 := hA1014 21 43 (by kernel_rfl) (by kernel_rfl)
       obtain ⟨v1026, v1027, q1024, hv1028, hv1029⟩ := ha1022
       obtain rfl : v1026 = _ := hv1028
       obtain rfl : v1027 = _ := hv1029
       refine L_move q1024 (by decide) ?_
       exact L_nil (hk1016 _ _ (Tch.ext e1012 (Ext.refl s1011)) (Ext.refl s1011).le ⟨_, _, rfl, rfl, rfl⟩ (IM_keep hI1021 (Ext.refl s1011) rfl rfl rfl rfl))
      ·intro li1036 f1032 s1030 hl1037 hh1038 hw1039 e1031 hA1033 hB1034 hI1040 Q hk1035
       have ha1041 : (PV.two (PV.eq (Value.func (.func 61) #[] #[p2, p7, p121])) (PV.eq (Value.bool (true)))).p (f1032 25) s1030 := hA1033 22 25 (by kernel_rfl) (by kernel_rfl)
       obtain ⟨v1045, v1046, q1043, hv1047, hv1048⟩ := ha1041
       obtain rfl : v1045 = _ := hv1047
       obtain rfl : v1046 = _ := hv1048
       refine L_extract q1043 (k := 0) rfl (by decide) ?_
       exact L_nil (hk1035 _ _ (Tch.ext e1031 (Ext.refl s1030)) (Ext.refl s1030).le rfl (IM_keep hI1040 (Ext.refl s1030) rfl rfl rfl rfl))
      ·intro li1055 f1051 s1049 hl1056 hh1057 hw1058 e1050 hA1052 hB1053 hI1059 Q hk1054
       have ha1060 : (PV.two (PV.eq (Value.func (.func 61) #[] #[p2, p7, p121])) (PV.eq (Value.bool (true)))).p (f1051 25) s1049 := hA1052 22 25 (by kernel_rfl) (by kernel_rfl)
       obtain ⟨v1064, v1065, q1062, hv1066, hv1067⟩ := ha1060
       obtain rfl : v1064 = _ := hv1066
       obtain rfl : v1065 = _ := hv1067
       refine L_extract q1062 (k := 1) rfl (by decide) ?_
       exact L_nil (hk1054 _ _ (Tch.ext e1050 (Ext.refl s1049)) (Ext.refl s1049).le rfl (IM_keep hI1059 (Ext.refl s1049) rfl rfl rfl rfl))
      ·intro li1074 f1070 s1068 hl1075 hh1076 hw1077 e1069 hA1071 hB1072 hI1078 Q hk1073
       have ha1079 : f1070 44 = Value.func (.func 61) #[] #[p2, p7, p121] := hA1071 23 44 (by kernel_rfl) (by kernel_rfl)
       refine L_assign ha1079 (by decide) ?_
       exact L_nil (hk1073 _ _ (Tch.ext e1069 (Ext.refl s1068)) (Ext.refl s1068).le rfl (IM_keep hI1078 (Ext.refl s1068) rfl rfl rfl rfl))
      ·intro li1086 f1082 s1080 hl1087 hh1088 hw1089 e1081 hA1083 hB1084 hI1090 Q hk1085
       have ha1091 : f1082 45 = Value.bool (true) := hA1083 24 45 (by kernel_rfl) (by kernel_rfl)
       refine L_assign ha1091 (by decide) ?_
       exact L_nil (hk1085 _ _ (Tch.ext e1081 (Ext.refl s1080)) (Ext.refl s1080).le rfl (IM_keep hI1090 (Ext.refl s1080) rfl rfl rfl rfl))
      ·intro f1094 s1092 e1093 hA1095 hB1096
       have hE1097 := Tch.ext hE233 e1093
       have ha1098 : f1094 6 = Value.func (.func 61) #[] #[p2, p7, p121] := hA1095 25 6 (by kernel_rfl)
       have ha1099 : f1094 7 = Value.bool (true) := hA1095 26 7 (by kernel_rfl)
       refine then_n ?_
       refine W_seq ?_
       refine W_region ?_
       refine L_move ha1099 (by decide) ?_
       refine L_not (rfl : _ = Value.bool (true)) (by decide) ?_
       refine L_move (rfl : _ = Value.bool (!true)) (by decide) ?_
       refine L_gt (e := 48) (by rfl) (by decide) (rfl : _ = Value.bool (!true)) rfl ?_
       refine L_move ha1098 (by decide) ?_
       refine L_gt (e := 48) (by rfl) (by decide) (rfl : _ = Value.bool (!true)) rfl ?_
       obtain ⟨y1100, hy1101, hr⟩ := bind_some hr
       refine L_callv cal61 (rfl : _ = Value.func (.func 61) #[] #[p2, p7, p121]) (args0) (dead_run_can_2_ok N _ _ _ (hp3.mono (e6.le.trans (hT115.le.trans (e229.le.trans e1093.le)))) _ _ (hp8.mono (hT115.le.trans (e229.le.trans e1093.le))) _ _ (hp123.mono (e229.le.trans e1093.le)) y1100 hy1101) (by decide) ?_
       intro v1102 s1105 e1103 hv1104
       have hE1106 := Tch.ext hE1097 e1103
       obtain rfl := hv1104.bool
       refine L_pick_f (rfl : _ = Value.bool (!true)) rfl (rfl : _ = Value.bool (y1100)) (by decide) ?_
       refine L_assign (rfl : _ = Value.bool (y1100)) (by decide) ?_
       refine L_nil ?_
       refine then_n ?_
       refine W_ret ?_
       obtain rfl := Option.some.inj hr
       exact done1 (Or.inl rfl) Try.results32 rfl ⟨_, _, rfl, rfl, hE1106, Vbool⟩
     ·have hr := ite_f hb682 hr
      rcases Bool.eq_false_or_eq_true (decide (y251.Kind = (6 : Int))) with hb1107 | hb1107
      ·have hr := ite_t hb1107 hr
       refine W_drawI mixed (by kernel_rfl) (IM s228.w.heap.size 26 0 9 ([(2, (1 : Int), (⟨Value.func (.func 59) #[] #[p2, p7, p121]⟩ : RawV)), (4, (2 : Int), (⟨Value.func (.func 61) #[] #[p2, p7, p121]⟩ : RawV)), (6, (6 : Int), (⟨Value.func (.func 63) #[] #[p2, p7]⟩ : RawV)), (8, (5 : Int), (⟨Value.func (.func 64) #[] #[p2, p7, p121]⟩ : RawV))] : List (Nat × Int × RawV))) [PL.any, PL.eq (Value.func (.func 59) #[] #[p2, p7, p121]), PL.any, PL.eq (Value.func (.func 61) #[] #[p2, p7, p121]), PL.any, PL.eq (Value.func (.func 63) #[] #[p2, p7]), PL.any, PL.eq (Value.func (.func 64) #[] #[p2, p7, p121]), PL.any, PL.mapq ([((1 : Int), (⟨Value.func (.func 59) #[] #[p2, p7, p121]⟩ : RawV)), ((2 : Int), (⟨Value.func (.func 61) #[] #[p2, p7, p121]⟩ : RawV)), ((6 : Int), (⟨Value.func (.func 63) #[] #[p2, p7]⟩ : RawV)), ((5 : Int), (⟨Value.func (.func 64) #[] #[p2, p7, p121]⟩ : RawV))] : List (Int × RawV)), PL.ptr (a0 : Run), PL.ptr (a0 : Run), PL.ptr (a0.c : List (List Deed)), PL.data (a0.c : List (List Deed)), PL.eq (Value.int .i64 (a1)), PL.ptr (y245 : List Deed), PL.data (y245 : List Deed), PL.eq (Value.int .i64 (y17)), PL.ptr (y251 : Deed), PL.ptr (y251.Kind : Int), PL.eq (Value.int .i64 (y251.Kind)), PL.two (PL.eq (Value.func (.func 63) #[] #[p2, p7])) (PL.eq (Value.bool (true))), PL.two (PL.eq (Value.func (.func 63) #[] #[p2, p7])) (PL.eq (Value.bool (true))), PL.eq (Value.func (.func 63) #[] #[p2, p7]), PL.eq (Value.bool (true)), PL.eq (Value.func (.func 63) #[] #[p2, p7]), PL.eq (Value.bool (true))] (fun _ => IM_none) (StepsI_cons ?_ (StepsI_cons ?_ (StepsI_cons ?_ (StepsI_cons ?_ (StepsI_cons ?_ (StepsI_cons ?_ (StepsI_cons ?_ (StepsI_cons ?_ (StepsI_cons ?_ (StepsI_cons ?_ (StepsI_cons ?_ (StepsI_cons ?_ (StepsI_cons ?_ (StepsI_cons ?_ (StepsI_cons ?_ (StepsI_cons ?_ (StepsI_cons ?_ (StepsI_cons ?_ (StepsI_cons ?_ (StepsI_cons ?_ (StepsI_cons ?_ (StepsI_cons ?_ (StepsI_cons ?_ (StepsI_cons ?_ (StepsI_cons ?_ (StepsI_cons ?_ (StepsI_cons ?_ StepsI_nil))))))))))))))))))))))))))) ?_
       ·intro li1114 f1110 s1108 hl1115 hh1116 hw1117 e1109 hA1111 hB1112 hI1118 Q hk1113
        refine L_makeMap (β := RawV) (by decide) ?_
        intro s1119 b1120 e1121 hb1122 hv1123
        exact L_nil (hk1113 _ _ (Tch.ext e1109 e1121) e1121.le trivial (IM_new hv1123 (Nat.le_trans e1109.size hb1122) (all_of (wait_of hw1117) [2, 4, 6, 8] rfl (by kernel_rfl)) rfl))
       ·intro li1130 f1126 s1124 hl1131 hh1132 hw1133 e1125 hA1127 hB1128 hI1134 Q hk1129
        have ha1135 : f1126 2 = p2 := (hB1128 2 (by kernel_rfl)).trans ha234
        have ha1136 : f1126 3 = p7 := (hB1128 3 (by kernel_rfl)).trans ha235
        have ha1137 : f1126 5 = p121 := (hB1128 5 (by kernel_rfl)).trans ha236
        refine L_makeFunc (args3 ha1135 ha1136 ha1137) (by decide) ?_
        exact L_nil (hk1129 _ _ (Tch.ext e1125 (Ext.refl s1124)) (Ext.refl s1124).le rfl (IM_keep hI1134 (Ext.refl s1124) rfl rfl rfl rfl))
       ·intro li1144 f1140 s1138 hl1145 hh1146 hw1147 e1139 hA1141 hB1142 hI1148 Q hk1143
        have ha1149 : f1140 27 = Value.func (.func 59) #[] #[p2, p7, p121] := hA1141 1 27 (by kernel_rfl) (by kernel_rfl)
        refine IM_insert (q := 2) Try.underlying101 Try.underlying3 hI1148 (hh1146 0 (by kernel_rfl)) (wait_of hw1147 9 (by kernel_rfl)) hl1145 (rfl : _ = Value.int .i64 (1)) ha1149 (Vraw rfl) (List.Mem.head _) (by show List.Nodup [2, 4, 6, 8]; decide) (by show List.Nodup ([1, 2, 6, 5] : List Int); decide) e1139 (Nat.le_refl _) ?_
        intro s1150 e1151 l1152 hI1153
        exact L_nil (hk1143 undef _ e1151 l1152 trivial hI1153)
       ·intro li1160 f1156 s1154 hl1161 hh1162 hw1163 e1155 hA1157 hB1158 hI1164 Q hk1159
        have ha1165 : f1156 2 = p2 := (hB1158 2 (by kernel_rfl)).trans ha234
        have ha1166 : f1156 3 = p7 := (hB1158 3 (by kernel_rfl)).trans ha235
        have ha1167 : f1156 5 = p121 := (hB1158 5 (by kernel_rfl)).trans ha236
        refine L_makeFunc (args3 ha1165 ha1166 ha1167) (by decide) ?_
        exact L_nil (hk1159 _ _ (Tch.ext e1155 (Ext.refl s1154)) (Ext.refl s1154).le rfl (IM_keep hI1164 (Ext.refl s1154) rfl rfl rfl rfl))
       ·intro li1174 f1170 s1168 hl1175 hh1176 hw1177 e1169 hA1171 hB1172 hI1178 Q hk1173
        have ha1179 : f1170 28 = Value.func (.func 61) #[] #[p2, p7, p121] := hA1171 3 28 (by kernel_rfl) (by kernel_rfl)
        refine IM_insert (q := 4) Try.underlying101 Try.underlying3 hI1178 (hh1176 0 (by kernel_rfl)) (wait_of hw1177 9 (by kernel_rfl)) hl1175 (rfl : _ = Value.int .i64 (2)) ha1179 (Vraw rfl) (List.Mem.tail _ (List.Mem.head _)) (by show List.Nodup [2, 4, 6, 8]; decide) (by show List.Nodup ([1, 2, 6, 5] : List Int); decide) e1169 (Nat.le_refl _) ?_
        intro s1180 e1181 l1182 hI1183
        exact L_nil (hk1173 undef _ e1181 l1182 trivial hI1183)
       ·intro li1190 f1186 s1184 hl1191 hh1192 hw1193 e1185 hA1187 hB1188 hI1194 Q hk1189
        have ha1195 : f1186 2 = p2 := (hB1188 2 (by kernel_rfl)).trans ha234
        have ha1196 : f1186 3 = p7 := (hB1188 3 (by kernel_rfl)).trans ha235
        refine L_makeFunc (args2 ha1195 ha1196) (by decide) ?_
        exact L_nil (hk1189 _ _ (Tch.ext e1185 (Ext.refl s1184)) (Ext.refl s1184).le rfl (IM_keep hI1194 (Ext.refl s1184) rfl rfl rfl rfl))
       ·intro li1203 f1199 s1197 hl1204 hh1205 hw1206 e1198 hA1200 hB1201 hI1207 Q hk1202
        have ha1208 : f1199 29 = Value.func (.func 63) #[] #[p2, p7] := hA1200 5 29 (by kernel_rfl) (by kernel_rfl)
        refine IM_insert (q := 6) Try.underlying101 Try.underlying3 hI1207 (hh1205 0 (by kernel_rfl)) (wait_of hw1206 9 (by kernel_rfl)) hl1204 (rfl : _ = Value.int .i64 (6)) ha1208 (Vraw rfl) (List.Mem.tail _ (List.Mem.tail _ (List.Mem.head _))) (by show List.Nodup [2, 4, 6, 8]; decide) (by show List.Nodup ([1, 2, 6, 5] : List Int); decide) e1198 (Nat.le_refl _) ?_
        intro s1209 e1210 l1211 hI1212
        exact L_nil (hk1202 undef _ e1210 l1211 trivial hI1212)
       ·intro li1219 f1215 s1213 hl1220 hh1221 hw1222 e1214 hA1216 hB1217 hI1223 Q hk1218
        have ha1224 : f1215 2 = p2 := (hB1217 2 (by kernel_rfl)).trans ha234
        have ha1225 : f1215 3 = p7 := (hB1217 3 (by kernel_rfl)).trans ha235
        have ha1226 : f1215 5 = p121 := (hB1217 5 (by kernel_rfl)).trans ha236
        refine L_makeFunc (args3 ha1224 ha1225 ha1226) (by decide) ?_
        exact L_nil (hk1218 _ _ (Tch.ext e1214 (Ext.refl s1213)) (Ext.refl s1213).le rfl (IM_keep hI1223 (Ext.refl s1213) rfl rfl rfl rfl))
       ·intro li1233 f1229 s1227 hl1234 hh1235 hw1236 e1228 hA1230 hB1231 hI1237 Q hk1232
        have ha1238 : f1229 30 = Value.func (.func 64) #[] #[p2, p7, p121] := hA1230 7 30 (by kernel_rfl) (by kernel_rfl)
        refine IM_insert (q := 8) Try.underlying101 Try.underlying3 hI1237 (hh1235 0 (by kernel_rfl)) (wait_of hw1236 9 (by kernel_rfl)) hl1234 (rfl : _ = Value.int .i64 (5)) ha1238 (Vraw rfl) (List.Mem.tail _ (List.Mem.tail _ (List.Mem.tail _ (List.Mem.head _)))) (by show List.Nodup [2, 4, 6, 8]; decide) (by show List.Nodup ([1, 2, 6, 5] : List Int); decide) e1228 (Nat.le_refl _) ?_
        intro s1239 e1240 l1241 hI1242
        exact L_nil (hk1232 undef _ e1240 l1241 trivial hI1242)
       ·intro li1249 f1245 s1243 hl1250 hh1251 hw1252 e1244 hA1246 hB1247 hI1253 Q hk1248
        obtain ⟨s1254, ez1255, e1256, l1257, hq1258⟩ := IM_done hI1253 (hh1251 0 (by kernel_rfl)) hl1250 (all_of hh1251 [2, 4, 6, 8] rfl (by kernel_rfl)) (by show List.Nodup ([1, 2, 6, 5] : List Int); decide) e1244 (Nat.le_refl _)
        rw [← ez1255]
        refine L_move (rfl : _ = f1245 26) (by decide) ?_
        exact L_nil (hk1248 _ _ e1256 l1257 hq1258 (IM_at rfl))
       ·intro li1265 f1261 s1259 hl1266 hh1267 hw1268 e1260 hA1262 hB1263 hI1269 Q hk1264
        have ha1270 : f1261 2 = p2 := (hB1263 2 (by kernel_rfl)).trans ha234
        refine L_load ty67 ha1270 (hp3.mono (e6.le.trans (hT115.le.trans (e229.le.trans e1260.le)))) (by decide) ?_
        intro v239 hv240
        exact L_nil (hk1264 _ _ (Tch.ext e1260 (Ext.refl s1259)) (Ext.refl s1259).le hv240.toPtr (IM_keep hI1269 (Ext.refl s1259) rfl rfl rfl rfl))
       ·intro li1277 f1273 s1271 hl1278 hh1279 hw1280 e1272 hA1274 hB1275 hI1281 Q hk1276
        have ha1282 : Ptr _ (f1273 32) (a0 : Run) := hA1274 10 32 (by kernel_rfl) (by kernel_rfl)
        obtain ⟨v1283, q1284, hv1285⟩ : ∃ v, _ = v ∧ Ptr _ v _ := ⟨_, rfl, ha1282⟩
        refine L_nilCheck_ptr q1284 hv1285 (by decide) ?_
        exact L_nil (hk1276 _ _ (Tch.ext e1272 (Ext.refl s1271)) (Ext.refl s1271).le hv1285 (IM_keep hI1281 (Ext.refl s1271) rfl rfl rfl rfl))
       ·intro li1292 f1288 s1286 hl1293 hh1294 hw1295 e1287 hA1289 hB1290 hI1296 Q hk1291
        have ha1297 : Ptr _ (f1288 33) (a0 : Run) := hA1289 11 33 (by kernel_rfl) (by kernel_rfl)
        obtain ⟨v1298, q1299, hv1300⟩ : ∃ v, _ = v ∧ Ptr _ v _ := ⟨_, rfl, ha1297⟩
        refine L_fieldAddr fld72_0 Run.of_c q1299 hv1300 (by decide) ?_
        intro p241 hp242
        exact L_nil (hk1291 _ _ (Tch.ext e1287 (Ext.refl s1286)) (Ext.refl s1286).le hp242 (IM_keep hI1296 (Ext.refl s1286) rfl rfl rfl rfl))
       ·intro li1307 f1303 s1301 hl1308 hh1309 hw1310 e1302 hA1304 hB1305 hI1311 Q hk1306
        have ha1312 : Ptr _ (f1303 34) (a0.c : List (List Deed)) := hA1304 12 34 (by kernel_rfl) (by kernel_rfl)
        obtain ⟨v1313, q1314, hv1315⟩ : ∃ v, _ = v ∧ Ptr _ v _ := ⟨_, rfl, ha1312⟩
        refine L_load ty29 q1314 hv1315 (by decide) ?_
        intro v243 hv244
        exact L_nil (hk1306 _ _ (Tch.ext e1302 (Ext.refl s1301)) (Ext.refl s1301).le hv244 (IM_keep hI1311 (Ext.refl s1301) rfl rfl rfl rfl))
       ·intro li1322 f1318 s1316 hl1323 hh1324 hw1325 e1317 hA1319 hB1320 hI1326 Q hk1321
        have ha1327 : f1318 3 = p7 := (hB1320 3 (by kernel_rfl)).trans ha235
        refine L_load_int ty3 ha1327 (hp8.mono (hT115.le.trans (e229.le.trans e1317.le))) (by decide) ?_
        exact L_nil (hk1321 _ _ (Tch.ext e1317 (Ext.refl s1316)) (Ext.refl s1316).le rfl (IM_keep hI1326 (Ext.refl s1316) rfl rfl rfl rfl))
       ·intro li1334 f1330 s1328 hl1335 hh1336 hw1337 e1329 hA1331 hB1332 hI1338 Q hk1333
        have ha1339 : V _ (f1330 35) (a0.c : List (List Deed)) := hA1331 13 35 (by kernel_rfl) (by kernel_rfl)
        obtain ⟨v1340, q1341, hv1342⟩ : ∃ v, _ = v ∧ V _ v _ := ⟨_, rfl, ha1339⟩
        have ha1343 : f1330 36 = Value.int .i64 (a1) := hA1331 14 36 (by kernel_rfl) (by kernel_rfl)
        refine L_index Try.underlying29 ty59.inf q1341 hv1342 ha1343 hy246 (by decide) ?_
        intro p247 hp248
        exact L_nil (hk1333 _ _ (Tch.ext e1329 (Ext.refl s1328)) (Ext.refl s1328).le hp248 (IM_keep hI1338 (Ext.refl s1328) rfl rfl rfl rfl))
       ·intro li1350 f1346 s1344 hl1351 hh1352 hw1353 e1345 hA1347 hB1348 hI1354 Q hk1349
        have ha1355 : Ptr _ (f1346 37) (y245 : List Deed) := hA1347 15 37 (by kernel_rfl) (by kernel_rfl)
        obtain ⟨v1356, q1357, hv1358⟩ : ∃ v, _ = v ∧ Ptr _ v _ := ⟨_, rfl, ha1355⟩
        refine L_load ty59 q1357 hv1358 (by decide) ?_
        intro v249 hv250
        exact L_nil (hk1349 _ _ (Tch.ext e1345 (Ext.refl s1344)) (Ext.refl s1344).le hv250 (IM_keep hI1354 (Ext.refl s1344) rfl rfl rfl rfl))
       ·intro li1365 f1361 s1359 hl1366 hh1367 hw1368 e1360 hA1362 hB1363 hI1369 Q hk1364
        have ha1370 : f1361 5 = p121 := (hB1363 5 (by kernel_rfl)).trans ha236
        refine L_load_int ty3 ha1370 (hp123.mono (e229.le.trans e1360.le)) (by decide) ?_
        exact L_nil (hk1364 _ _ (Tch.ext e1360 (Ext.refl s1359)) (Ext.refl s1359).le rfl (IM_keep hI1369 (Ext.refl s1359) rfl rfl rfl rfl))
       ·intro li1377 f1373 s1371 hl1378 hh1379 hw1380 e1372 hA1374 hB1375 hI1381 Q hk1376
        have ha1382 : V _ (f1373 38) (y245 : List Deed) := hA1374 16 38 (by kernel_rfl) (by kernel_rfl)
        obtain ⟨v1383, q1384, hv1385⟩ : ∃ v, _ = v ∧ V _ v _ := ⟨_, rfl, ha1382⟩
        have ha1386 : f1373 39 = Value.int .i64 (y17) := hA1374 17 39 (by kernel_rfl) (by kernel_rfl)
        refine L_index Try.underlying59 ty64.inf q1384 hv1385 ha1386 hy252 (by decide) ?_
        intro p253 hp254
        exact L_nil (hk1376 _ _ (Tch.ext e1372 (Ext.refl s1371)) (Ext.refl s1371).le hp254 (IM_keep hI1381 (Ext.refl s1371) rfl rfl rfl rfl))
       ·intro li1393 f1389 s1387 hl1394 hh1395 hw1396 e1388 hA1390 hB1391 hI1397 Q hk1392
        have ha1398 : Ptr _ (f1389 40) (y251 : Deed) := hA1390 18 40 (by kernel_rfl) (by kernel_rfl)
        obtain ⟨v1399, q1400, hv1401⟩ : ∃ v, _ = v ∧ Ptr _ v _ := ⟨_, rfl, ha1398⟩
        refine L_fieldAddr fld64_0 Deed.of_Kind q1400 hv1401 (by decide) ?_
        intro p255 hp256
        exact L_nil (hk1392 _ _ (Tch.ext e1388 (Ext.refl s1387)) (Ext.refl s1387).le hp256 (IM_keep hI1397 (Ext.refl s1387) rfl rfl rfl rfl))
       ·intro li1408 f1404 s1402 hl1409 hh1410 hw1411 e1403 hA1405 hB1406 hI1412 Q hk1407
        have ha1413 : Ptr _ (f1404 41) (y251.Kind : Int) := hA1405 19 41 (by kernel_rfl) (by kernel_rfl)
        obtain ⟨v1414, q1415, hv1416⟩ : ∃ v, _ = v ∧ Ptr _ v _ := ⟨_, rfl, ha1413⟩
        refine L_load_int ty3 q1415 hv1416 (by decide) ?_
        exact L_nil (hk1407 _ _ (Tch.ext e1403 (Ext.refl s1402)) (Ext.refl s1402).le rfl (IM_keep hI1412 (Ext.refl s1402) rfl rfl rfl rfl))
       ·intro li1423 f1419 s1417 hl1424 hh1425 hw1426 e1418 hA1420 hB1421 hI1427 Q hk1422
        obtain ⟨v1429, q1430, hv1431⟩ : ∃ v, f1419 31 = v ∧ MapQ s1417 v ([((1 : Int), (⟨Value.func (.func 59) #[] #[p2, p7, p121]⟩ : RawV)), ((2 : Int), (⟨Value.func (.func 61) #[] #[p2, p7, p121]⟩ : RawV)), ((6 : Int), (⟨Value.func (.func 63) #[] #[p2, p7]⟩ : RawV)), ((5 : Int), (⟨Value.func (.func 64) #[] #[p2, p7, p121]⟩ : RawV))] : List (Int × RawV)) := ⟨_, rfl, hA1420 9 31 (by kernel_rfl) (by kernel_rfl)⟩
        have ha1432 : f1419 42 = Value.int .i64 (y251.Kind) := hA1420 20 42 (by kernel_rfl) (by kernel_rfl)
        refine L_lookup_q (m := ([((1 : Int), (⟨Value.func (.func 59) #[] #[p2, p7, p121]⟩ : RawV)), ((2 : Int), (⟨Value.func (.func 61) #[] #[p2, p7, p121]⟩ : RawV)), ((6 : Int), (⟨Value.func (.func 63) #[] #[p2, p7]⟩ : RawV)), ((5 : Int), (⟨Value.func (.func 64) #[] #[p2, p7, p121]⟩ : RawV))] : List (Int × RawV))) (z0 := (⟨Value.nilFunc⟩ : RawV)) Try.underlying101 Try.underlying3 zero25 (Vraw rfl) q1430 ha1432 hv1431 (by decide) ?_
        have hm1435 : mget ([((1 : Int), (⟨Value.func (.func 59) #[] #[p2, p7, p121]⟩ : RawV)), ((2 : Int), (⟨Value.func (.func 61) #[] #[p2, p7, p121]⟩ : RawV)), ((6 : Int), (⟨Value.func (.func 63) #[] #[p2, p7]⟩ : RawV)), ((5 : Int), (⟨Value.func (.func 64) #[] #[p2, p7, p121]⟩ : RawV))] : List (Int × RawV)) y251.Kind = some (⟨Value.func (.func 63) #[] #[p2, p7]⟩ : RawV) := (mget_skip hb257 (mget_skip hb682 (mget_hit hb1107)))
        rw [hm1435]
        intro v1433 hv1434
        obtain rfl : v1433 = _ := hv1434.raw
        exact L_nil (hk1422 _ _ e1418 (Le.refl _) ⟨_, _, rfl, rfl, rfl⟩ (IM_keep hI1427 (Ext.refl _) rfl rfl rfl rfl))
       ·intro li1442 f1438 s1436 hl1443 hh1444 hw1445 e1437 hA1439 hB1440 hI1446 Q hk1441
        have ha1447 : (PV.two (PV.eq (Value.func (.func 63) #[] #[p2, p7])) (PV.eq (Value.bool (true)))).p (f1438 43) s1436 := hA1439 21 43 (by kernel_rfl) (by kernel_rfl)
        obtain ⟨v1451, v1452, q1449, hv1453, hv1454⟩ := ha1447
        obtain rfl : v1451 = _ := hv1453
        obtain rfl : v1452 = _ := hv1454
        refine L_move q1449 (by decide) ?_
        exact L_nil (hk1441 _ _ (Tch.ext e1437 (Ext.refl s1436)) (Ext.refl s1436).le ⟨_, _, rfl, rfl, rfl⟩ (IM_keep hI1446 (Ext.refl s1436) rfl rfl rfl rfl))
       ·intro li1461 f1457 s1455 hl1462 hh1463 hw1464 e1456 hA1458 hB1459 hI1465 Q hk1460
        have ha1466 : (PV.two (PV.eq (Value.func (.func 63) #[] #[p2, p7])) (PV.eq (Value.bool (true)))).p (f1457 25) s1455 := hA1458 22 25 (by kernel_rfl) (by kernel_rfl)
        obtain ⟨v1470, v1471, q1468, hv1472, hv1473⟩ := ha1466
        obtain rfl : v1470 = _ := hv1472
        obtain rfl : v1471 = _ := hv1473
        refine L_extract q1468 (k := 0) rfl (by decide) ?_
        exact L_nil (hk1460 _ _ (Tch.ext e1456 (Ext.refl s1455)) (Ext.refl s1455).le rfl (IM_keep hI1465 (Ext.refl s1455) rfl rfl rfl rfl))
       ·intro li1480 f1476 s1474 hl1481 hh1482 hw1483 e1475 hA1477 hB1478 hI1484 Q hk1479
        have ha1485 : (PV.two (PV.eq (Value.func (.func 63) #[] #[p2, p7])) (PV.eq (Value.bool (true)))).p (f1476 25) s1474 := hA1477 22 25 (by kernel_rfl) (by kernel_rfl)
        obtain ⟨v1489, v1490, q1487, hv1491, hv1492⟩ := ha1485
        obtain rfl : v1489 = _ := hv1491
        obtain rfl : v1490 = _ := hv1492
        refine L_extract q1487 (k := 1) rfl (by decide) ?_
        exact L_nil (hk1479 _ _ (Tch.ext e1475 (Ext.refl s1474)) (Ext.refl s1474).le rfl (IM_keep hI1484 (Ext.refl s1474) rfl rfl rfl rfl))
       ·intro li1499 f1495 s1493 hl1500 hh1501 hw1502 e1494 hA1496 hB1497 hI1503 Q hk1498
        have ha1504 : f1495 44 = Value.func (.func 63) #[] #[p2, p7] := hA1496 23 44 (by kernel_rfl) (by kernel_rfl)
        refine L_assign ha1504 (by decide) ?_
        exact L_nil (hk1498 _ _ (Tch.ext e1494 (Ext.refl s1493)) (Ext.refl s1493).le rfl (IM_keep hI1503 (Ext.refl s1493) rfl rfl rfl rfl))
       ·intro li1511 f1507 s1505 hl1512 hh1513 hw1514 e1506 hA1508 hB1509 hI1515 Q hk1510
        have ha1516 : f1507 45 = Value.bool (true) := hA1508 24 45 (by kernel_rfl) (by kernel_rfl)
        refine L_assign ha1516 (by decide) ?_
        exact L_nil (hk1510 _ _ (Tch.ext e1506 (Ext.refl s1505)) (Ext.refl s1505).le rfl (IM_keep hI1515 (Ext.refl s1505) rfl rfl rfl rfl))
       ·intro f1519 s1517 e1518 hA1520 hB1521
        have hE1522 := Tch.ext hE233 e1518
        have ha1523 : f1519 6 = Value.func (.func 63) #[] #[p2, p7] := hA1520 25 6 (by kernel_rfl)
        have ha1524 : f1519 7 = Value.bool (true) := hA1520 26 7 (by kernel_rfl)
        refine then_n ?_
        refine W_seq ?_
        refine W_region ?_
        refine L_move ha1524 (by decide) ?_
        refine L_not (rfl : _ = Value.bool (true)) (by decide) ?_
        refine L_move (rfl : _ = Value.bool (!true)) (by decide) ?_
        refine L_gt (e := 48) (by rfl) (by decide) (rfl : _ = Value.bool (!true)) rfl ?_
        refine L_move ha1523 (by decide) ?_
        refine L_gt (e := 48) (by rfl) (by decide) (rfl : _ = Value.bool (!true)) rfl ?_
        obtain ⟨y1525, hy1526, hr⟩ := bind_some hr
        refine L_callv cal63 (rfl : _ = Value.func (.func 63) #[] #[p2, p7]) (args0) (dead_run_can_3_ok N _ _ _ (hp3.mono (e6.le.trans (hT115.le.trans (e229.le.trans e1518.le)))) _ _ (hp8.mono (hT115.le.trans (e229.le.trans e1518.le))) y1525 hy1526) (by decide) ?_
        intro v1527 s1530 e1528 hv1529
        have hE1531 := Tch.ext hE1522 e1528
        obtain rfl := hv1529.bool
        refine L_pick_f (rfl : _ = Value.bool (!true)) rfl (rfl : _ = Value.bool (y1525)) (by decide) ?_
        refine L_assign (rfl : _ = Value.bool (y1525)) (by decide) ?_
        refine L_nil ?_
        refine then_n ?_
        refine W_ret ?_
        obtain rfl := Option.some.inj hr
        exact done1 (Or.inl rfl) Try.results32 rfl ⟨_, _, rfl, rfl, hE1531, Vbool⟩
      ·have hr := ite_f hb1107 hr
       rcases Bool.eq_false_or_eq_true (decide (y251.Kind = (5 : Int))) with hb1532 | hb1532
       ·have hr := ite_t hb1532 hr
        refine W_drawI mixed (by kernel_rfl) (IM s228.w.heap.size 26 0 9 ([(2, (1 : Int), (⟨Value.func (.func 59) #[] #[p2, p7, p121]⟩ : RawV)), (4, (2 : Int), (⟨Value.func (.func 61) #[] #[p2, p7, p121]⟩ : RawV)), (6, (6 : Int), (⟨Value.func (.func 63) #[] #[p2, p7]⟩ : RawV)), (8, (5 : Int), (⟨Value.func (.func 64) #[] #[p2, p7, p121]⟩ : RawV))] : List (Nat × Int × RawV))) [PL.any, PL.eq (Value.func (.func 59) #[] #[p2, p7, p121]), PL.any, PL.eq (Value.func (.func 61) #[] #[p2, p7, p121]), PL.any, PL.eq (Value.func (.func 63) #[] #[p2, p7]), PL.any, PL.eq (Value.func (.func 64) #[] #[p2, p7, p121]), PL.any, PL.mapq ([((1 : Int), (⟨Value.func (.func 59) #[] #[p2, p7, p121]⟩ : RawV)), ((2 : Int), (⟨Value.func (.func 61) #[] #[p2, p7, p121]⟩ : RawV)), ((6 : Int), (⟨Value.func (.func 63) #[] #[p2, p7]⟩ : RawV)), ((5 : Int), (⟨Value.func (.func 64) #[] #[p2, p7, p121]⟩ : RawV))] : List (Int × RawV)), PL.ptr (a0 : Run), PL.ptr (a0 : Run), PL.ptr (a0.c : List (List Deed)), PL.data (a0.c : List (List Deed)), PL.eq (Value.int .i64 (a1)), PL.ptr (y245 : List Deed), PL.data (y245 : List Deed), PL.eq (Value.int .i64 (y17)), PL.ptr (y251 : Deed), PL.ptr (y251.Kind : Int), PL.eq (Value.int .i64 (y251.Kind)), PL.two (PL.eq (Value.func (.func 64) #[] #[p2, p7, p121])) (PL.eq (Value.bool (true))), PL.two (PL.eq (Value.func (.func 64) #[] #[p2, p7, p121])) (PL.eq (Value.bool (true))), PL.eq (Value.func (.func 64) #[] #[p2, p7, p121]), PL.eq (Value.bool (true)), PL.eq (Value.func (.func 64) #[] #[p2, p7, p121]), PL.eq (Value.bool (true))] (fun _ => IM_none) (StepsI_cons ?_ (StepsI_cons ?_ (StepsI_cons ?_ (StepsI_cons ?_ (StepsI_cons ?_ (StepsI_cons ?_ (StepsI_cons ?_ (StepsI_cons ?_ (StepsI_cons ?_ (StepsI_cons ?_ (StepsI_cons ?_ (StepsI_cons ?_ (StepsI_cons ?_ (StepsI_cons ?_ (StepsI_cons ?_ (StepsI_cons ?_ (StepsI_cons ?_ (StepsI_cons ?_ (StepsI_cons ?_ (StepsI_cons ?_ (StepsI_cons ?_ (StepsI_cons ?_ (StepsI_cons ?_ (StepsI_cons ?_ (StepsI_cons ?_ (StepsI_cons ?_ (StepsI_cons ?_ StepsI_nil))))))))))))))))))))))))))) ?_
        ·intro li1539 f1535 s1533 hl1540 hh1541 hw1542 e1534 hA1536 hB1537 hI1543 Q hk1538
         refine L_makeMap (β := RawV) (by decide) ?_
         intro s1544 b1545 e1546 hb1547 hv1548
         exact L_nil (hk1538 _ _ (Tch.ext e1534 e1546) e1546.le trivial (IM_new hv1548 (Nat.le_trans e1534.size hb1547) (all_of (wait_of hw1542) [2, 4, 6, 8] rfl (by kernel_rfl)) rfl))
        ·intro li1555 f1551 s1549 hl1556 hh1557 hw1558 e1550 hA1552 hB1553 hI1559 Q hk1554
         have ha1560 : f1551 2 = p2 := (hB1553 2 (by kernel_rfl)).trans ha234
         have ha1561 : f1551 3 = p7 := (hB1553 3 (by kernel_rfl)).trans ha235
         have ha1562 : f1551 5 = p121 := (hB1553 5 (by kernel_rfl)).trans ha236
         refine L_makeFunc (args3 ha1560 ha1561 ha1562) (by decide) ?_
         exact L_nil (hk1554 _ _ (Tch.ext e1550 (Ext.refl s1549)) (Ext.refl s1549).le rfl (IM_keep hI1559 (Ext.refl s1549) rfl rfl rfl rfl))
        ·intro li1569 f1565 s1563 hl1570 hh1571 hw1572 e1564 hA1566 hB1567 hI1573 Q hk1568
         have ha1574 : f1565 27 = Value.func (.func 59) #[] #[p2, p7, p121] := hA1566 1 27 (by kernel_rfl) (by kernel_rfl)
         refine IM_insert (q := 2) Try.underlying101 Try.underlying3 hI1573 (hh1571 0 (by kernel_rfl)) (wait_of hw1572 9 (by kernel_rfl)) hl1570 (rfl : _ = Value.int .i64 (1)) ha1574 (Vraw rfl) (List.Mem.head _) (by show List.Nodup [2, 4, 6, 8]; decide) (by show List.Nodup ([1, 2, 6, 5] : List Int); decide) e1564 (Nat.le_refl _) ?_
         intro s1575 e1576 l1577 hI1578
         exact L_nil (hk1568 undef _ e1576 l1577 trivial hI1578)
        ·intro li1585 f1581 s1579 hl1586 hh1587 hw1588 e1580 hA1582 hB1583 hI1589 Q hk1584
         have ha1590 : f1581 2 = p2 := (hB1583 2 (by kernel_rfl)).trans ha234
         have ha1591 : f1581 3 = p7 := (hB1583 3 (by kernel_rfl)).trans ha235
         have ha1592 : f1581 5 = p121 := (hB1583 5 (by kernel_rfl)).trans ha236
         refine L_makeFunc (args3 ha1590 ha1591 ha1592) (by decide) ?_
         exact L_nil (hk1584 _ _ (Tch.ext e1580 (Ext.refl s1579)) (Ext.refl s1579).le rfl (IM_keep hI1589 (Ext.refl s1579) rfl rfl rfl rfl))
        ·intro li1599 f1595 s1593 hl1600 hh1601 hw1602 e1594 hA1596 hB1597 hI1603 Q hk1598
         have ha1604 : f1595 28 = Value.func (.func 61) #[] #[p2, p7, p121] := hA1596 3 28 (by kernel_rfl) (by kernel_rfl)
         refine IM_insert (q := 4) Try.underlying101 Try.underlying3 hI1603 (hh1601 0 (by kernel_rfl)) (wait_of hw1602 9 (by kernel_rfl)) hl1600 (rfl : _ = Value.int .i64 (2)) ha1604 (Vraw rfl) (List.Mem.tail _ (List.Mem.head _)) (by show List.Nodup [2, 4, 6, 8]; decide) (by show List.Nodup ([1, 2, 6, 5] : List Int); decide) e1594 (Nat.le_refl _) ?_
         intro s1605 e1606 l1607 hI1608
         exact L_nil (hk1598 undef _ e1606 l1607 trivial hI1608)
        ·intro li1615 f1611 s1609 hl1616 hh1617 hw1618 e1610 hA1612 hB1613 hI1619 Q hk1614
         have ha1620 : f1611 2 = p2 := (hB1613 2 (by kernel_rfl)).trans ha234
         have ha1621 : f1611 3 = p7 := (hB1613 3 (by kernel_rfl)).trans ha235
         refine L_makeFunc (args2 ha1620 ha1621) (by decide) ?_
         exact L_nil (hk1614 _ _ (Tch.ext e1610 (Ext.refl s1609)) (Ext.refl s1609).le rfl (IM_keep hI1619 (Ext.refl s1609) rfl rfl rfl rfl))
        ·intro li1628 f1624 s1622 hl1629 hh1630 hw1631 e1623 hA1625 hB1626 hI1632 Q hk1627
         have ha1633 : f1624 29 = Value.func (.func 63) #[] #[p2, p7] := hA1625 5 29 (by kernel_rfl) (by kernel_rfl)
         refine IM_insert (q := 6) Try.underlying101 Try.underlying3 hI1632 (hh1630 0 (by kernel_rfl)) (wait_of hw1631 9 (by kernel_rfl)) hl1629 (rfl : _ = Value.int .i64 (6)) ha1633 (Vraw rfl) (List.Mem.tail _ (List.Mem.tail _ (List.Mem.head _))) (by show List.Nodup [2, 4, 6, 8]; decide) (by show List.Nodup ([1, 2, 6, 5] : List Int); decide) e1623 (Nat.le_refl _) ?_
         intro s1634 e1635 l1636 hI1637
         exact L_nil (hk1627 undef _ e1635 l1636 trivial hI1637)
        ·intro li1644 f1640 s1638 hl1645 hh1646 hw1647 e1639 hA1641 hB1642 hI1648 Q hk1643
         have ha1649 : f1640 2 = p2 := (hB1642 2 (by kernel_rfl)).trans ha234
         have ha1650 : f1640 3 = p7 := (hB1642 3 (by kernel_rfl)).trans ha235
         have ha1651 : f1640 5 = p121 := (hB1642 5 (by kernel_rfl)).trans ha236
         refine L_makeFunc (args3 ha1649 ha1650 ha1651) (by decide) ?_
         exact L_nil (hk1643 _ _ (Tch.ext e1639 (Ext.refl s1638)) (Ext.refl s1638).le rfl (IM_keep hI1648 (Ext.refl s1638) rfl rfl rfl rfl))
        ·intro li1658 f1654 s1652 hl1659 hh1660 hw1661 e1653 hA1655 hB1656 hI1662 Q hk1657
         have ha1663 : f1654 30 = Value.func (.func 64) #[] #[p2, p7, p121] := hA1655 7 30 (by kernel_rfl) (by kernel_rfl)
         refine IM_insert (q := 8) Try.underlying101 Try.underlying3 hI1662 (hh1660 0 (by kernel_rfl)) (wait_of hw1661 9 (by kernel_rfl)) hl1659 (rfl : _ = Value.int .i64 (5)) ha1663 (Vraw rfl) (List.Mem.tail _ (List.Mem.tail _ (List.Mem.tail _ (List.Mem.head _)))) (by show List.Nodup [2, 4, 6, 8]; decide) (by show List.Nodup ([1, 2, 6, 5] : List Int); decide) e1653 (Nat.le_refl _) ?_
         intro s1664 e1665 l1666 hI1667
         exact L_nil (hk1657 undef _ e1665 l1666 trivial hI1667)
        ·intro li1674 f1670 s1668 hl1675 hh1676 hw1677 e1669 hA1671 hB1672 hI1678 Q hk1673
         obtain ⟨s1679, ez1680, e1681, l1682, hq1683⟩ := IM_done hI1678 (hh1676 0 (by kernel_rfl)) hl1675 (all_of hh1676 [2, 4, 6, 8] rfl (by kernel_rfl)) (by show List.Nodup ([1, 2, 6, 5] : List Int); decide) e1669 (Nat.le_refl _)
         rw [← ez1680]
         refine L_move (rfl : _ = f1670 26) (by decide) ?_
         exact L_nil (hk1673 _ _ e1681 l1682 hq1683 (IM_at rfl))
        ·intro li1690 f1686 s1684 hl1691 hh1692 hw1693 e1685 hA1687 hB1688 hI1694 Q hk1689
         have ha1695 : f1686 2 = p2 := (hB1688 2 (by kernel_rfl)).trans ha234
         refine L_load ty67 ha1695 (hp3.mono (e6.le.trans (hT115.le.trans (e229.le.trans e1685.le)))) (by decide) ?_
         intro v239 hv240
         exact L_nil (hk1689 _ _ (Tch.ext e1685 (Ext.refl s1684)) (Ext.refl s1684).le hv240.toPtr (IM_keep hI1694 (Ext.refl s1684) rfl rfl rfl rfl))
        ·intro li1702 f1698 s1696 hl1703 hh1704 hw1705 e1697 hA1699 hB1700 hI1706 Q hk1701
         have ha1707 : Ptr _ (f1698 32) (a0 : Run) := hA1699 10 32 (by kernel_rfl) (by kernel_rfl)
         obtain ⟨v1708, q1709, hv1710⟩ : ∃ v, _ = v ∧ Ptr _ v _ := ⟨_, rfl, ha1707⟩
         refine L_nilCheck_ptr q1709 hv1710 (by decide) ?_
         exact L_nil (hk1701 _ _ (Tch.ext e1697 (Ext.refl s1696)) (Ext.refl s1696).le hv1710 (IM_keep hI1706 (Ext.refl s1696) rfl rfl rfl rfl))
        ·intro li1717 f1713 s1711 hl1718 hh1719 hw1720 e1712 hA1714 hB1715 hI1721 Q hk1716
         have ha1722 : Ptr _ (f1713 33) (a0 : Run) := hA1714 11 33 (by kernel_rfl) (by kernel_rfl)
         obtain ⟨v1723, q1724, hv1725⟩ : ∃ v, _ = v ∧ Ptr _ v _ := ⟨_, rfl, ha1722⟩
         refine L_fieldAddr fld72_0 Run.of_c q1724 hv1725 (by decide) ?_
         intro p241 hp242
         exact L_nil (hk1716 _ _ (Tch.ext e1712 (Ext.refl s1711)) (Ext.refl s1711).le hp242 (IM_keep hI1721 (Ext.refl s1711) rfl rfl rfl rfl))
        ·intro li1732 f1728 s1726 hl1733 hh1734 hw1735 e1727 hA1729 hB1730 hI1736 Q hk1731
         have ha1737 : Ptr _ (f1728 34) (a0.c : List (List Deed)) := hA1729 12 34 (by kernel_rfl) (by kernel_rfl)
         obtain ⟨v1738, q1739, hv1740⟩ : ∃ v, _ = v ∧ Ptr _ v _ := ⟨_, rfl, ha1737⟩
         refine L_load ty29 q1739 hv1740 (by decide) ?_
         intro v243 hv244
         exact L_nil (hk1731 _ _ (Tch.ext e1727 (Ext.refl s1726)) (Ext.refl s1726).le hv244 (IM_keep hI1736 (Ext.refl s1726) rfl rfl rfl rfl))
        ·intro li1747 f1743 s1741 hl1748 hh1749 hw1750 e1742 hA1744 hB1745 hI1751 Q hk1746
         have ha1752 : f1743 3 = p7 := (hB1745 3 (by kernel_rfl)).trans ha235
         refine L_load_int ty3 ha1752 (hp8.mono (hT115.le.trans (e229.le.trans e1742.le))) (by decide) ?_
         exact L_nil (hk1746 _ _ (Tch.ext e1742 (Ext.refl s1741)) (Ext.refl s1741).le rfl (IM_keep hI1751 (Ext.refl s1741) rfl rfl rfl rfl))
        ·intro li1759 f1755 s1753 hl1760 hh1761 hw1762 e1754 hA1756 hB1757 hI1763 Q hk1758
         have ha1764 : V _ (f1755 35) (a0.c : List (List Deed)) := hA1756 13 35 (by kernel_rfl) (by kernel_rfl)
         obtain ⟨v1765, q1766, hv1767⟩ : ∃ v, _ = v ∧ V _ v _ := ⟨_, rfl, ha1764⟩
         have ha1768 : f1755 36 = Value.int .i64 (a1) := hA1756 14 36 (by kernel_rfl) (by kernel_rfl)
         refine L_index Try.underlying29 ty59.inf q1766 hv1767 ha1768 hy246 (by decide) ?_
         intro p247 hp248
         exact L_nil (hk1758 _ _ (Tch.ext e1754 (Ext.refl s1753)) (Ext.refl s1753).le hp248 (IM_keep hI1763 (Ext.refl s1753) rfl rfl rfl rfl))
        ·intro li1775 f1771 s1769 hl1776 hh1777 hw1778 e1770 hA1772 hB1773 hI1779 Q hk1774
         have ha1780 : Ptr _ (f1771 37) (y245 : List Deed) := hA1772 15 37 (by kernel_rfl) (by kernel_rfl)
         obtain ⟨v1781, q1782, hv1783⟩ : ∃ v, _ = v ∧ Ptr _ v _ := ⟨_, rfl, ha1780⟩
         refine L_load ty59 q1782 hv1783 (by decide) ?_
         intro v249 hv250
         exact L_nil (hk1774 _ _ (Tch.ext e1770 (Ext.refl s1769)) (Ext.refl s1769).le hv250 (IM_keep hI1779 (Ext.refl s1769) rfl rfl rfl rfl))
        ·intro li1790 f1786 s1784 hl1791 hh1792 hw1793 e1785 hA1787 hB1788 hI1794 Q hk1789
         have ha1795 : f1786 5 = p121 := (hB1788 5 (by kernel_rfl)).trans ha236
         refine L_load_int ty3 ha1795 (hp123.mono (e229.le.trans e1785.le)) (by decide) ?_
         exact L_nil (hk1789 _ _ (Tch.ext e1785 (Ext.refl s1784)) (Ext.refl s1784).le rfl (IM_keep hI1794 (Ext.refl s1784) rfl rfl rfl rfl))
        ·intro li1802 f1798 s1796 hl1803 hh1804 hw1805 e1797 hA1799 hB1800 hI1806 Q hk1801
         have ha1807 : V _ (f1798 38) (y245 : List Deed) := hA1799 16 38 (by kernel_rfl) (by kernel_rfl)
         obtain ⟨v1808, q1809, hv1810⟩ : ∃ v, _ = v ∧ V _ v _ := ⟨_, rfl, ha1807⟩
         have ha1811 : f1798 39 = Value.int .i64 (y17) := hA1799 17 39 (by kernel_rfl) (by kernel_rfl)
         refine L_index Try.underlying59 ty64.inf q1809 hv1810 ha1811 hy252 (by decide) ?_
         intro p253 hp254
         exact L_nil (hk1801 _ _ (Tch.ext e1797 (Ext.refl s1796)) (Ext.refl s1796).le hp254 (IM_keep hI1806 (Ext.refl s1796) rfl rfl rfl rfl))
        ·intro li1818 f1814 s1812 hl1819 hh1820 hw1821 e1813 hA1815 hB1816 hI1822 Q hk1817
         have ha1823 : Ptr _ (f1814 40) (y251 : Deed) := hA1815 18 40 (by kernel_rfl) (by kernel_rfl)
         obtain ⟨v1824, q1825, hv1826⟩ : ∃ v, _ = v ∧ Ptr _ v _ := ⟨_, rfl, ha1823⟩
         refine L_fieldAddr fld64_0 Deed.of_Kind q1825 hv1826 (by decide) ?_
         intro p255 hp256
         exact L_nil (hk1817 _ _ (Tch.ext e1813 (Ext.refl s1812)) (Ext.refl s1812).le hp256 (IM_keep hI1822 (Ext.refl s1812) rfl rfl rfl rfl))
        ·intro li1833 f1829 s1827 hl1834 hh1835 hw1836 e1828 hA1830 hB1831 hI1837 Q hk1832
         have ha1838 : Ptr _ (f1829 41) (y251.Kind : Int) := hA1830 19 41 (by kernel_rfl) (by kernel_rfl)
         obtain ⟨v1839, q1840, hv1841⟩ : ∃ v, _ = v ∧ Ptr _ v _ := ⟨_, rfl, ha1838⟩
         refine L_load_int ty3 q1840 hv1841 (by decide) ?_
         exact L_nil (hk1832 _ _ (Tch.ext e1828 (Ext.refl s1827)) (Ext.refl s1827).le rfl (IM_keep hI1837 (Ext.refl s1827) rfl rfl rfl rfl))
        ·intro li1848 f1844 s1842 hl1849 hh1850 hw1851 e1843 hA1845 hB1846 hI1852 Q hk1847
         obtain ⟨v1854, q1855, hv1856⟩ : ∃ v, f1844 31 = v ∧ MapQ s1842 v ([((1 : Int), (⟨Value.func (.func 59) #[] #[p2, p7, p121]⟩ : RawV)), ((2 : Int), (⟨Value.func (.func 61) #[] #[p2, p7, p121]⟩ : RawV)), ((6 : Int), (⟨Value.func (.func 63) #[] #[p2, p7]⟩ : RawV)), ((5 : Int), (⟨Value.func (.func 64) #[] #[p2, p7, p121]⟩ : RawV))] : List (Int × RawV)) := ⟨_, rfl, hA1845 9 31 (by kernel_rfl) (by kernel_rfl)⟩
         have ha1857 : f1844 42 = Value.int .i64 (y251.Kind) := hA1845 20 42 (by kernel_rfl) (by kernel_rfl)
         refine L_lookup_q (m := ([((1 : Int), (⟨Value.func (.func 59) #[] #[p2, p7, p121]⟩ : RawV)), ((2 : Int), (⟨Value.func (.func 61) #[] #[p2, p7, p121]⟩ : RawV)), ((6 : Int), (⟨Value.func (.func 63) #[] #[p2, p7]⟩ : RawV)), ((5 : Int), (⟨Value.func (.func 64) #[] #[p2, p7, p121]⟩ : RawV))] : List (Int × RawV))) (z0 := (⟨Value.nilFunc⟩ : RawV)) Try.underlying101 Try.underlying3 zero25 (Vraw rfl) q1855 ha1857 hv1856 (by decide) ?_
         have hm1860 : mget ([((1 : Int), (⟨Value.func (.func 59) #[] #[p2, p7, p121]⟩ : RawV)), ((2 : Int), (⟨Value.func (.func 61) #[] #[p2, p7, p121]⟩ : RawV)), ((6 : Int), (⟨Value.func (.func 63) #[] #[p2, p7]⟩ : RawV)), ((5 : Int), (⟨Value.func (.func 64) #[] #[p2, p7, p121]⟩ : RawV))] : List (Int × RawV)) y251.Kind = some (⟨Value.func (.func 64) #[] #[p2, p7, p121]⟩ : RawV) := (mget_skip hb257 (mget_skip hb682 (mget_skip hb1107 (mget_hit hb1532))))
         rw [hm1860]
         intro v1858 hv1859
         obtain rfl : v1858 = _ := hv1859.raw
         exact L_nil (hk1847 _ _ e1843 (Le.refl _) ⟨_, _, rfl, rfl, rfl⟩ (IM_keep hI1852 (Ext.refl _) rfl rfl rfl rfl))
        ·intro li1867 f1863 s1861 hl1868 hh1869 hw1870 e1862 hA1864 hB1865 hI1871 Q hk1866
         have ha1872 : (PV.two (PV.eq (Value.func (.func 64) #[] #[p2, p7, p121])) (PV.eq (Value.bool (true)))).p (f1863 43) s1861 := hA1864 21 43 (by kernel_rfl) (by kernel_rfl)
         obtain ⟨v1876, v1877, q1874, hv1878, hv1879⟩ := ha1872
         obtain rfl : v1876 = _ := hv1878
         obtain rfl : v1877 = _ := hv1879
         refine L_move q1874 (by decide) ?_
         exact L_nil (hk1866 _ _ (Tch.ext e1862 (Ext.refl s1861)) (Ext.refl s1861).le ⟨_, _, rfl, rfl, rfl⟩ (IM_keep hI1871 (Ext.refl s1861) rfl rfl rfl rfl))
        ·intro li1886 f1882 s1880 hl1887 hh1888 hw1889 e1881 hA1883 hB1884 hI1890 Q hk1885
         have ha1891 : (PV.two (PV.eq (Value.func (.func 64) #[] #[p2, p7, p121])) (PV.eq (Value.bool (true)))).p (f1882 25) s1880 := hA1883 22 25 (by kernel_rfl) (by kernel_rfl)
         obtain ⟨v1895, v1896, q1893, hv1897, hv1898⟩ := ha1891
         obtain rfl : v1895 = _ := hv1897
         obtain rfl : v1896 = _ := hv1898
         refine L_extract q1893 (k := 0) rfl (by decide) ?_
         exact L_nil (hk1885 _ _ (Tch.ext e1881 (Ext.refl s1880)) (Ext.refl s1880).le rfl (IM_keep hI1890 (Ext.refl s1880) rfl rfl rfl rfl))
        ·intro li1905 f1901 s1899 hl1906 hh1907 hw1908 e1900 hA1902 hB1903 hI1909 Q hk1904
         have ha1910 : (PV.two (PV.eq (Value.func (.func 64) #[] #[p2, p7, p121])) (PV.eq (Value.bool (true)))).p (f1901 25) s1899 := hA1902 22 25 (by kernel_rfl) (by kernel_rfl)
         obtain ⟨v1914, v1915, q1912, hv1916, hv1917⟩ := ha1910
         obtain rfl : v1914 = _ := hv1916
         obtain rfl : v1915 = _ := hv1917
         refine L_extract q1912 (k := 1) rfl (by decide) ?_
         exact L_nil (hk1904 _ _ (Tch.ext e1900 (Ext.refl s1899)) (Ext.refl s1899).le rfl (IM_keep hI1909 (Ext.refl s1899) rfl rfl rfl rfl))
        ·intro li1924 f1920 s1918 hl1925 hh1926 hw1927 e1919 hA1921 hB1922 hI1928 Q hk1923
         have ha1929 : f1920 44 = Value.func (.func 64) #[] #[p2, p7, p121] := hA1921 23 44 (by kernel_rfl) (by kernel_rfl)
         refine L_assign ha1929 (by decide) ?_
         exact L_nil (hk1923 _ _ (Tch.ext e1919 (Ext.refl s1918)) (Ext.refl s1918).le rfl (IM_keep hI1928 (Ext.refl s1918) rfl rfl rfl rfl))
        ·intro li1936 f1932 s1930 hl1937 hh1938 hw1939 e1931 hA1933 hB1934 hI1940 Q hk1935
         have ha1941 : f1932 45 = Value.bool (true) := hA1933 24 45 (by kernel_rfl) (by kernel_rfl)
         refine L_assign ha1941 (by decide) ?_
         exact L_nil (hk1935 _ _ (Tch.ext e1931 (Ext.refl s1930)) (Ext.refl s1930).le rfl (IM_keep hI1940 (Ext.refl s1930) rfl rfl rfl rfl))
        ·intro f1944 s1942 e1943 hA1945 hB1946
         have hE1947 := Tch.ext hE233 e1943
         have ha1948 : f1944 6 = Value.func (.func 64) #[] #[p2, p7, p121] := hA1945 25 6 (by kernel_rfl)
         have ha1949 : f1944 7 = Value.bool (true) := hA1945 26 7 (by kernel_rfl)
         refine then_n ?_
         refine W_seq ?_
         refine W_region ?_
         refine L_move ha1949 (by decide) ?_
         refine L_not (rfl : _ = Value.bool (true)) (by decide) ?_
         refine L_move (rfl : _ = Value.bool (!true)) (by decide) ?_
         refine L_gt (e := 48) (by rfl) (by decide) (rfl : _ = Value.bool (!true)) rfl ?_
         refine L_move ha1948 (by decide) ?_
         refine L_gt (e := 48) (by rfl) (by decide) (rfl : _ = Value.bool (!true)) rfl ?_
         obtain ⟨y1950, hy1951, hr⟩ := bind_some hr
         refine L_callv cal64 (rfl : _ = Value.func (.func 64) #[] #[p2, p7, p121]) (args0) (dead_run_can_4_ok N _ _ _ (hp3.mono (e6.le.trans (hT115.le.trans (e229.le.trans e1943.le)))) _ _ (hp8.mono (hT115.le.trans (e229.le.trans e1943.le))) _ _ (hp123.mono (e229.le.trans e1943.le)) y1950 hy1951) (by decide) ?_
         intro v1952 s1955 e1953 hv1954
         have hE1956 := Tch.ext hE1947 e1953
         obtain rfl := hv1954.bool
         refine L_pick_f (rfl : _ = Value.bool (!true)) rfl (rfl : _ = Value.bool (y1950)) (by decide) ?_
         refine L_assign (rfl : _ = Value.bool (y1950)) (by decide) ?_
         refine L_nil ?_
         refine then_n ?_
         refine W_ret ?_
         obtain rfl := Option.some.inj hr
         exact done1 (Or.inl rfl) Try.results32 rfl ⟨_, _, rfl, rfl, hE1956, Vbool⟩
       ·have hr := ite_f hb1532 hr
        refine W_drawI mixed (by kernel_rfl) (IM s228.w.heap.size 26 0 9 ([(2, (1 : Int), (⟨Value.func (.func 59) #[] #[p2, p7, p121]⟩ : RawV)), (4, (2 : Int), (⟨Value.func (.func 61) #[] #[p2, p7, p121]⟩ : RawV)), (6, (6 : Int), (⟨Value.func (.func 63) #[] #[p2, p7]⟩ : RawV)), (8, (5 : Int), (⟨Value.func (.func 64) #[] #[p2, p7, p121]⟩ : RawV))] : List (Nat × Int × RawV))) [PL.any, PL.eq (Value.func (.func 59) #[] #[p2, p7, p121]), PL.any, PL.eq (Value.func (.func 61) #[] #[p2, p7, p121]), PL.any, PL.eq (Value.func (.func 63) #[] #[p2, p7]), PL.any, PL.eq (Value.func (.func 64) #[] #[p2, p7, p121]), PL.any, PL.mapq ([((1 : Int), (⟨Value.func (.func 59) #[] #[p2, p7, p121]⟩ : RawV)), ((2 : Int), (⟨Value.func (.func 61) #[] #[p2, p7, p121]⟩ : RawV)), ((6 : Int), (⟨Value.func (.func 63) #[] #[p2, p7]⟩ : RawV)), ((5 : Int), (⟨Value.func (.func 64) #[] #[p2, p7, p121]⟩ : RawV))] : List (Int × RawV)), PL.ptr (a0 : Run), PL.ptr (a0 : Run), PL.ptr (a0.c : List (List Deed)), PL.data (a0.c : List (List Deed)), PL.eq (Value.int .i64 (a1)), PL.ptr (y245 : List Deed), PL.data (y245 : List Deed), PL.eq (Value.int .i64 (y17)), PL.ptr (y251 : Deed), PL.ptr (y251.Kind : Int), PL.eq (Value.int .i64 (y251.Kind)), PL.two (PL.eq (Value.nilFunc)) (PL.eq (Value.bool (false))), PL.two (PL.eq (Value.nilFunc)) (PL.eq (Value.bool (false))), PL.eq (Value.nilFunc), PL.eq (Value.bool (false)), PL.eq (Value.nilFunc), PL.eq (Value.bool (false))] (fun _ => IM_none) (StepsI_cons ?_ (StepsI_cons ?_ (StepsI_cons ?_ (StepsI_cons ?_ (StepsI_cons ?_ (StepsI_cons ?_ (StepsI_cons ?_ (StepsI_cons ?_ (StepsI_cons ?_ (StepsI_cons ?_ (StepsI_cons ?_ (StepsI_cons ?_ (StepsI_cons ?_ (StepsI_cons ?_ (StepsI_cons ?_ (StepsI_cons ?_ (StepsI_cons ?_ (StepsI_cons ?_ (StepsI_cons ?_ (StepsI_cons ?_ (StepsI_cons ?_ (StepsI_cons ?_ (StepsI_cons ?_ (StepsI_cons ?_ (StepsI_cons ?_ (StepsI_cons ?_ (StepsI_cons ?_ StepsI_nil))))))))))))))))))))))))))) ?_
        ·intro li1963 f1959 s1957 hl1964 hh1965 hw1966 e1958 hA1960 hB1961 hI1967 Q hk1962
         refine L_makeMap (β := RawV) (by decide) ?_
         intro s1968 b1969 e1970 hb1971 hv1972
         exact L_nil (hk1962 _ _ (Tch.ext e1958 e1970) e1970.le trivial (IM_new hv1972 (Nat.le_trans e1958.size hb1971) (all_of (wait_of hw1966) [2, 4, 6, 8] rfl (by kernel_rfl)) rfl))
        ·intro li1979 f1975 s1973 hl1980 hh1981 hw1982 e1974 hA1976 hB1977 hI1983 Q hk1978
         have ha1984 : f1975 2 = p2 := (hB1977 2 (by kernel_rfl)).trans ha234
         have ha1985 : f1975 3 = p7 := (hB1977 3 (by kernel_rfl)).trans ha235
         have ha1986 : f1975 5 = p121 := (hB1977 5 (by kernel_rfl)).trans ha236
         refine L_makeFunc (args3 ha1984 ha1985 ha1986) (by decide) ?_
         exact L_nil (hk1978 _ _ (Tch.ext e1974 (Ext.refl s1973)) (Ext.refl s1973).le rfl (IM_keep hI1983 (Ext.refl s1973) rfl rfl rfl rfl))
        ·intro li1993 f1989 s1987 hl1994 hh1995 hw1996 e1988 hA1990 hB1991 hI1997 Q hk1992
         have ha1998 : f1989 27 = Value.func (.func 59) #[] #[p2, p7, p121] := hA1990 1 27 (by kernel_rfl) (by kernel_rfl)
         refine IM_insert (q := 2) Try.underlying101 Try.underlying3 hI1997 (hh1995 0 (by kernel_rfl)) (wait_of hw1996 9 (by kernel_rfl)) hl1994 (rfl : _ = Value.int .i64 (1)) ha1998 (Vraw rfl) (List.Mem.head _) (by show List.Nodup [2, 4, 6, 8]; decide) (by show List.Nodup ([1, 2, 6, 5] : List Int); decide) e1988 (Nat.le_refl _) ?_
         intro s1999 e2000 l2001 hI2002
         exact L_nil (hk1992 undef _ e2000 l2001 trivial hI2002)
        ·intro li2009 f2005 s2003 hl2010 hh2011 hw2012 e2004 hA2006 hB2007 hI2013 Q hk2008
         have ha2014 : f2005 2 = p2 := (hB2007 2 (by kernel_rfl)).trans ha234
         have ha2015 : f2005 3 = p7 := (hB2007 3 (by kernel_rfl)).trans ha235
         have ha2016 : f2005 5 = p121 := (hB2007 5 (by kernel_rfl)).trans ha236
         refine L_makeFunc (args3 ha2014 ha2015 ha2016) (by decide) ?_
         exact L_nil (hk2008 _ _ (Tch.ext e2004 (Ext.refl s2003)) (Ext.refl s2003).le rfl (IM_keep hI2013 (Ext.refl s2003) rfl rfl rfl rfl))
        ·intro li2023 f2019 s2017 hl2024 hh2025 hw2026 e2018 hA2020 hB2021 hI2027 Q hk2022
         have ha2028 : f2019 28 = Value.func (.func 61) #[] #[p2, p7, p121] := hA2020 3 28 (by kernel_rfl) (by kernel_rfl)
         refine IM_insert (q := 4) Try.underlying101 Try.underlying3 hI2027 (hh2025 0 (by kernel_rfl)) (wait_of hw2026 9 (by kernel_rfl)) hl2024 (rfl : _ = Value.int .i64 (2)) ha2028 (Vraw rfl) (List.Mem.tail _ (List.Mem.head _)) (by show List.Nodup [2, 4, 6, 8]; decide) (by show List.Nodup ([1, 2, 6, 5] : List Int); decide) e2018 (Nat.le_refl _) ?_
         intro s2029 e2030 l2031 hI2032
         exact L_nil (hk2022 undef _ e2030 l2031 trivial hI2032)
        ·intro li2039 f2035 s2033 hl2040 hh2041 hw2042 e2034 hA2036 hB2037 hI2043 Q hk2038
         have ha2044 : f2035 2 = p2 := (hB2037 2 (by kernel_rfl)).trans ha234
         have ha2045 : f2035 3 = p7 := (hB2037 3 (by kernel_rfl)).trans ha235
         refine L_makeFunc (args2 ha2044 ha2045) (by decide) ?_
         exact L_nil (hk2038 _ _ (Tch.ext e2034 (Ext.refl s2033)) (Ext.refl s2033).le rfl (IM_keep hI2043 (Ext.refl s2033) rfl rfl rfl rfl))
        ·intro li2052 f2048 s2046 hl2053 hh2054 hw2055 e2047 hA2049 hB2050 hI2056 Q hk2051
         have ha2057 : f2048 29 = Value.func (.func 63) #[] #[p2, p7] := hA2049 5 29 (by kernel_rfl) (by kernel_rfl)
         refine IM_insert (q := 6) Try.underlying101 Try.underlying3 hI2056 (hh2054 0 (by kernel_rfl)) (wait_of hw2055 9 (by kernel_rfl)) hl2053 (rfl : _ = Value.int .i64 (6)) ha2057 (Vraw rfl) (List.Mem.tail _ (List.Mem.tail _ (List.Mem.head _))) (by show List.Nodup [2, 4, 6, 8]; decide) (by show List.Nodup ([1, 2, 6, 5] : List Int); decide) e2047 (Nat.le_refl _) ?_
         intro s2058 e2059 l2060 hI2061
         exact L_nil (hk2051 undef _ e2059 l2060 trivial hI2061)
        ·intro li2068 f2064 s2062 hl2069 hh2070 hw2071 e2063 hA2065 hB2066 hI2072 Q hk2067
         have ha2073 : f2064 2 = p2 := (hB2066 2 (by kernel_rfl)).trans ha234
         have ha2074 : f2064 3 = p7 := (hB2066 3 (by kernel_rfl)).trans ha235
         have ha2075 : f2064 5 = p121 := (hB2066 5 (by kernel_rfl)).trans ha236
         refine L_makeFunc (args3 ha2073 ha2074 ha2075) (by decide) ?_
         exact L_nil (hk2067 _ _ (Tch.ext e2063 (Ext.refl s2062)) (Ext.refl s2062).le rfl (IM_keep hI2072 (Ext.refl s2062) rfl rfl rfl rfl))
        ·intro li2082 f2078 s2076 hl2083 hh2084 hw2085 e2077 hA2079 hB2080 hI2086 Q hk2081
         have ha2087 : f2078 30 = Value.func (.func 64) #[] #[p2, p7, p121] := hA2079 7 30 (by kernel_rfl) (by kernel_rfl)
         refine IM_insert (q := 8) Try.underlying101 Try.underlying3 hI2086 (hh2084 0 (by kernel_rfl)) (wait_of hw2085 9 (by kernel_rfl)) hl2083 (rfl : _ = Value.int .i64 (5)) ha2087 (Vraw rfl) (List.Mem.tail _ (List.Mem.tail _ (List.Mem.tail _ (List.Mem.head _)))) (by show List.Nodup [2, 4, 6, 8]; decide) (by show List.Nodup ([1, 2, 6, 5] : List Int); decide) e2077 (Nat.le_refl _) ?_
         intro s2088 e2089 l2090 hI2091
         exact L_nil (hk2081 undef _ e2089 l2090 trivial hI2091)
        ·intro li2098 f2094 s2092 hl2099 hh2100 hw2101 e2093 hA2095 hB2096 hI2102 Q hk2097
         obtain ⟨s2103, ez2104, e2105, l2106, hq2107⟩ := IM_done hI2102 (hh2100 0 (by kernel_rfl)) hl2099 (all_of hh2100 [2, 4, 6, 8] rfl (by kernel_rfl)) (by show List.Nodup ([1, 2, 6, 5] : List Int); decide) e2093 (Nat.le_refl _)
         rw [← ez2104]
         refine L_move (rfl : _ = f2094 26) (by decide) ?_
         exact L_nil (hk2097 _ _ e2105 l2106 hq2107 (IM_at rfl))
        ·intro li2114 f2110 s2108 hl2115 hh2116 hw2117 e2109 hA2111 hB2112 hI2118 Q hk2113
         have ha2119 : f2110 2 = p2 := (hB2112 2 (by kernel_rfl)).trans ha234
         refine L_load ty67 ha2119 (hp3.mono (e6.le.trans (hT115.le.trans (e229.le.trans e2109.le)))) (by decide) ?_
         intro v239 hv240
         exact L_nil (hk2113 _ _ (Tch.ext e2109 (Ext.refl s2108)) (Ext.refl s2108).le hv240.toPtr (IM_keep hI2118 (Ext.refl s2108) rfl rfl rfl rfl))
        ·intro li2126 f2122 s2120 hl2127 hh2128 hw2129 e2121 hA2123 hB2124 hI2130 Q hk2125
         have ha2131 : Ptr _ (f2122 32) (a0 : Run) := hA2123 10 32 (by kernel_rfl) (by kernel_rfl)
         obtain ⟨v2132, q2133, hv2134⟩ : ∃ v, _ = v ∧ Ptr _ v _ := ⟨_, rfl, ha2131⟩
         refine L_nilCheck_ptr q2133 hv2134 (by decide) ?_
         exact L_nil (hk2125 _ _ (Tch.ext e2121 (Ext.refl s2120)) (Ext.refl s2120).le hv2134 (IM_keep hI2130 (Ext.refl s2120) rfl rfl rfl rfl))
        ·intro li2141 f2137 s2135 hl2142 hh2143 hw2144 e2136 hA2138 hB2139 hI2145 Q hk2140
         have ha2146 : Ptr _ (f2137 33) (a0 : Run) := hA2138 11 33 (by kernel_rfl) (by kernel_rfl)
         obtain ⟨v2147, q2148, hv2149⟩ : ∃ v, _ = v ∧ Ptr _ v _ := ⟨_, rfl, ha2146⟩
         refine L_fieldAddr fld72_0 Run.of_c q2148 hv2149 (by decide) ?_
         intro p241 hp242
         exact L_nil (hk2140 _ _ (Tch.ext e2136 (Ext.refl s2135)) (Ext.refl s2135).le hp242 (IM_keep hI2145 (Ext.refl s2135) rfl rfl rfl rfl))
        ·intro li2156 f2152 s2150 hl2157 hh2158 hw2159 e2151 hA2153 hB2154 hI2160 Q hk2155
         have ha2161 : Ptr _ (f2152 34) (a0.c : List (List Deed)) := hA2153 12 34 (by kernel_rfl) (by kernel_rfl)
         obtain ⟨v2162, q2163, hv2164⟩ : ∃ v, _ = v ∧ Ptr _ v _ := ⟨_, rfl, ha2161⟩
         refine L_load ty29 q2163 hv2164 (by decide) ?_
         intro v243 hv244
         exact L_nil (hk2155 _ _ (Tch.ext e2151 (Ext.refl s2150)) (Ext.refl s2150).le hv244 (IM_keep hI2160 (Ext.refl s2150) rfl rfl rfl rfl))
        ·intro li2171 f2167 s2165 hl2172 hh2173 hw2174 e2166 hA2168 hB2169 hI2175 Q hk2170
         have ha2176 : f2167 3 = p7 := (hB2169 3 (by kernel_rfl)).trans ha235
         refine L_load_int ty3 ha2176 (hp8.mono (hT115.le.trans (e229.le.trans e2166.le))) (by decide) ?_
         exact L_nil (hk2170 _ _ (Tch.ext e2166 (Ext.refl s2165)) (Ext.refl s2165).le rfl (IM_keep hI2175 (Ext.refl s2165) rfl rfl rfl rfl))
        ·intro li2183 f2179 s2177 hl2184 hh2185 hw2186 e2178 hA2180 hB2181 hI2187 Q hk2182
         have ha2188 : V _ (f2179 35) (a0.c : List (List Deed)) := hA2180 13 35 (by kernel_rfl) (by kernel_rfl)
         obtain ⟨v2189, q2190, hv2191⟩ : ∃ v, _ = v ∧ V _ v _ := ⟨_, rfl, ha2188⟩
         have ha2192 : f2179 36 = Value.int .i64 (a1) := hA2180 14 36 (by kernel_rfl) (by kernel_rfl)
         refine L_index Try.underlying29 ty59.inf q2190 hv2191 ha2192 hy246 (by decide) ?_
         intro p247 hp248
         exact L_nil (hk2182 _ _ (Tch.ext e2178 (Ext.refl s2177)) (Ext.refl s2177).le hp248 (IM_keep hI2187 (Ext.refl s2177) rfl rfl rfl rfl))
        ·intro li2199 f2195 s2193 hl2200 hh2201 hw2202 e2194 hA2196 hB2197 hI2203 Q hk2198
         have ha2204 : Ptr _ (f2195 37) (y245 : List Deed) := hA2196 15 37 (by kernel_rfl) (by kernel_rfl)
         obtain ⟨v2205, q2206, hv2207⟩ : ∃ v, _ = v ∧ Ptr _ v _ := ⟨_, rfl, ha2204⟩
         refine L_load ty59 q2206 hv2207 (by decide) ?_
         intro v249 hv250
         exact L_nil (hk2198 _ _ (Tch.ext e2194 (Ext.refl s2193)) (Ext.refl s2193).le hv250 (IM_keep hI2203 (Ext.refl s2193) rfl rfl rfl rfl))
        ·intro li2214 f2210 s2208 hl2215 hh2216 hw2217 e2209 hA2211 hB2212 hI2218 Q hk2213
         have ha2219 : f2210 5 = p121 := (hB2212 5 (by kernel_rfl)).trans ha236
         refine L_load_int ty3 ha2219 (hp123.mono (e229.le.trans e2209.le)) (by decide) ?_
         exact L_nil (hk2213 _ _ (Tch.ext e2209 (Ext.refl s2208)) (Ext.refl s2208).le rfl (IM_keep hI2218 (Ext.refl s2208) rfl rfl rfl rfl))
        ·intro li2226 f2222 s2220 hl2227 hh2228 hw2229 e2221 hA2223 hB2224 hI2230 Q hk2225
         have ha2231 : V _ (f2222 38) (y245 : List Deed) := hA2223 16 38 (by kernel_rfl) (by kernel_rfl)
         obtain ⟨v2232, q2233, hv2234⟩ : ∃ v, _ = v ∧ V _ v _ := ⟨_, rfl, ha2231⟩
         have ha2235 : f2222 39 = Value.int .i64 (y17) := hA2223 17 39 (by kernel_rfl) (by kernel_rfl)
         refine L_index Try.underlying59 ty64.inf q2233 hv2234 ha2235 hy252 (by decide) ?_
         intro p253 hp254
         exact L_nil (hk2225 _ _ (Tch.ext e2221 (Ext.refl s2220)) (Ext.refl s2220).le hp254 (IM_keep hI2230 (Ext.refl s2220) rfl rfl rfl rfl))
        ·intro li2242 f2238 s2236 hl2243 hh2244 hw2245 e2237 hA2239 hB2240 hI2246 Q hk2241
         have ha2247 : Ptr _ (f2238 40) (y251 : Deed) := hA2239 18 40 (by kernel_rfl) (by kernel_rfl)
         obtain ⟨v2248, q2249, hv2250⟩ : ∃ v, _ = v ∧ Ptr _ v _ := ⟨_, rfl, ha2247⟩
         refine L_fieldAddr fld64_0 Deed.of_Kind q2249 hv2250 (by decide) ?_
         intro p255 hp256
         exact L_nil (hk2241 _ _ (Tch.ext e2237 (Ext.refl s2236)) (Ext.refl s2236).le hp256 (IM_keep hI2246 (Ext.refl s2236) rfl rfl rfl rfl))
        ·intro li2257 f2253 s2251 hl2258 hh2259 hw2260 e2252 hA2254 hB2255 hI2261 Q hk2256
         have ha2262 : Ptr _ (f2253 41) (y251.Kind : Int) := hA2254 19 41 (by kernel_rfl) (by kernel_rfl)
         obtain ⟨v2263, q2264, hv2265⟩ : ∃ v, _ = v ∧ Ptr _ v _ := ⟨_, rfl, ha2262⟩
         refine L_load_int ty3 q2264 hv2265 (by decide) ?_
         exact L_nil (hk2256 _ _ (Tch.ext e2252 (Ext.refl s2251)) (Ext.refl s2251).le rfl (IM_keep hI2261 (Ext.refl s2251) rfl rfl rfl rfl))
        ·intro li2272 f2268 s2266 hl2273 hh2274 hw2275 e2267 hA2269 hB2270 hI2276 Q hk2271
         obtain ⟨v2278, q2279, hv2280⟩ : ∃ v, f2268 31 = v ∧ MapQ s2266 v ([((1 : Int), (⟨Value.func (.func 59) #[] #[p2, p7, p121]⟩ : RawV)), ((2 : Int), (⟨Value.func (.func 61) #[] #[p2, p7, p121]⟩ : RawV)), ((6 : Int), (⟨Value.func (.func 63) #[] #[p2, p7]⟩ : RawV)), ((5 : Int), (⟨Value.func (.func 64) #[] #[p2, p7, p121]⟩ : RawV))] : List (Int × RawV)) := ⟨_, rfl, hA2269 9 31 (by kernel_rfl) (by kernel_rfl)⟩
         have ha2281 : f2268 42 = Value.int .i64 (y251.Kind) := hA2269 20 42 (by kernel_rfl) (by kernel_rfl)
         refine L_lookup_q (m := ([((1 : Int), (⟨Value.func (.func 59) #[] #[p2, p7, p121]⟩ : RawV)), ((2 : Int), (⟨Value.func (.func 61) #[] #[p2, p7, p121]⟩ : RawV)), ((6 : Int), (⟨Value.func (.func 63) #[] #[p2, p7]⟩ : RawV)), ((5 : Int), (⟨Value.func (.func 64) #[] #[p2, p7, p121]⟩ : RawV))] : List (Int × RawV))) (z0 := (⟨Value.nilFunc⟩ : RawV)) Try.underlying101 Try.underlying3 zero25 (Vraw rfl) q2279 ha2281 hv2280 (by decide) ?_
         have hm2284 : mget ([((1 : Int), (⟨Value.func (.func 59) #[] #[p2, p7, p121]⟩ : RawV)), ((2 : Int), (⟨Value.func (.func 61) #[] #[p2, p7, p121]⟩ : RawV)), ((6 : Int), (⟨Value.func (.func 63) #[] #[p2, p7]⟩ : RawV)), ((5 : Int), (⟨Value.func (.func 64) #[] #[p2, p7, p121]⟩ : RawV))] : List (Int × RawV)) y251.Kind = (none : Option RawV) := (mget_skip hb257 (mget_skip hb682 (mget_skip hb1107 (mget_skip hb1532 mget_nil))))
         rw [hm2284]
         intro v2282 hv2283
         obtain rfl : v2282 = _ := hv2283.raw
         exact L_nil (hk2271 _ _ e2267 (Le.refl _) ⟨_, _, rfl, rfl, rfl⟩ (IM_keep hI2276 (Ext.refl _) rfl rfl rfl rfl))
        ·intro li2291 f2287 s2285 hl2292 hh2293 hw2294 e2286 hA2288 hB2289 hI2295 Q hk2290
         have ha2296 : (PV.two (PV.eq (Value.nilFunc)) (PV.eq (Value.bool (false)))).p (f2287 43) s2285 := hA2288 21 43 (by kernel_rfl) (by kernel_rfl)
         obtain ⟨v2300, v2301, q2298, hv2302, hv2303⟩ := ha2296
         obtain rfl : v2300 = _ := hv2302
         obtain rfl : v2301 = _ := hv2303
         refine L_move q2298 (by decide) ?_
         exact L_nil (hk2290 _ _ (Tch.ext e2286 (Ext.refl s2285)) (Ext.refl s2285).le ⟨_, _, rfl, rfl, rfl⟩ (IM_keep hI2295 (Ext.refl s2285) rfl rfl rfl rfl))
        ·intro li2310 f2306 s2304 hl2311 hh2312 hw2313 e2305 hA2307 hB2308 hI2314 Q hk2309
         have ha2315 : (PV.two (PV.eq (Value.nilFunc)) (PV.eq (Value.bool (false)))).p (f2306 25) s2304 := hA2307 22 25 (by kernel_rfl) (by kernel_rfl)
         obtain ⟨v2319, v2320, q2317, hv2321, hv2322⟩ := ha2315
         obtain rfl : v2319 = _ := hv2321
         obtain rfl : v2320 = _ := hv2322
         refine L_extract q2317 (k := 0) rfl (by decide) ?_
         exact L_nil (hk2309 _ _ (Tch.ext e2305 (Ext.refl s2304)) (Ext.refl s2304).le rfl (IM_keep hI2314 (Ext.refl s2304) rfl rfl rfl rfl))
        ·intro li2329 f2325 s2323 hl2330 hh2331 hw2332 e2324 hA2326 hB2327 hI2333 Q hk2328
         have ha2334 : (PV.two (PV.eq (Value.nilFunc)) (PV.eq (Value.bool (false)))).p (f2325 25) s2323 := hA2326 22 25 (by kernel_rfl) (by kernel_rfl)
         obtain ⟨v2338, v2339, q2336, hv2340, hv2341⟩ := ha2334
         obtain rfl : v2338 = _ := hv2340
         obtain rfl : v2339 = _ := hv2341
         refine L_extract q2336 (k := 1) rfl (by decide) ?_
         exact L_nil (hk2328 _ _ (Tch.ext e2324 (Ext.refl s2323)) (Ext.refl s2323).le rfl (IM_keep hI2333 (Ext.refl s2323) rfl rfl rfl rfl))
        ·intro li2348 f2344 s2342 hl2349 hh2350 hw2351 e2343 hA2345 hB2346 hI2352 Q hk2347
         have ha2353 : f2344 44 = Value.nilFunc := hA2345 23 44 (by kernel_rfl) (by kernel_rfl)
         refine L_assign ha2353 (by decide) ?_
         exact L_nil (hk2347 _ _ (Tch.ext e2343 (Ext.refl s2342)) (Ext.refl s2342).le rfl (IM_keep hI2352 (Ext.refl s2342) rfl rfl rfl rfl))
        ·intro li2360 f2356 s2354 hl2361 hh2362 hw2363 e2355 hA2357 hB2358 hI2364 Q hk2359
         have ha2365 : f2356 45 = Value.bool (false) := hA2357 24 45 (by kernel_rfl) (by kernel_rfl)
         refine L_assign ha2365 (by decide) ?_
         exact L_nil (hk2359 _ _ (Tch.ext e2355 (Ext.refl s2354)) (Ext.refl s2354).le rfl (IM_keep hI2364 (Ext.refl s2354) rfl rfl rfl rfl))
        ·intro f2368 s2366 e2367 hA2369 hB2370
         have hE2371 := Tch.ext hE233 e2367
         have ha2373 : f2368 7 = Value.bool (false) := hA2369 26 7 (by kernel_rfl)
         refine then_n ?_
         refine W_seq ?_
         refine W_region ?_
         refine L_move ha2373 (by decide) ?_
         refine L_not (rfl : _ = Value.bool (false)) (by decide) ?_
         refine L_move (rfl : _ = Value.bool (!false)) (by decide) ?_
         refine L_gf (e := 48) (by rfl) (by decide) (rfl : _ = Value.bool (!false)) rfl (by decide) ?_
         refine L_gf (e := 48) (by rfl) (by decide) (rfl : _ = Value.bool (!false)) rfl (by decide) ?_
         refine L_pick_t (rfl : _ = Value.bool (!false)) rfl (rfl : _ = Value.bool (true)) (by decide) ?_
         refine L_assign (rfl : _ = Value.bool (true)) (by decide) ?_
         refine L_nil ?_
         refine then_n ?_
         refine W_ret ?_
         obtain rfl := Option.some.inj hr
         exact done1 (Or.inl rfl) Try.results32 rfl ⟨_, _, rfl, rfl, hE2371, Vbool⟩

theorem dead_run_next_ok (N : Nat) (s0 : St) (w0 : Value) (a0 : Run) (h0 : Ptr s0 w0 a0) (r : Int) (hr : dead_run_next N a0 = some r) :
  Calls Try.prog 33 #[w0] s0.w (Ret s0 fun v s => V s v r) := by
 unfold dead_run_next at hr
 have hE0 := Ext.refl s0
 refine Calls_of (n := 17) (args := [w0]) Try.func33 rfl rfl (by simp) ?_
 refine W_seq ?_
 refine W_region ?_
 refine L_assign (rfl : _ = Value.int .i64 (0)) (by decide) ?_
 refine L_nil ?_
 refine then_n ?_
 refine W_seq ?_
 refine W_seq ?_
 refine W_region ?_
 refine L_move (rfl : _ = w0) (by decide) ?_
 refine L_nilCheck_ptr (rfl : _ = w0) h0 (by decide) ?_
 refine L_fieldAddr fld72_0 Run.of_c (rfl : _ = w0) h0 (by decide) ?_
 intro p1 hp2
 refine L_load ty29 (rfl : _ = p1) hp2 (by decide) ?_
 intro v3 hv4
 refine L_len Try.underlying29 (rfl : _ = v3) hv4 (by decide) ?_
 refine L_move (rfl : _ = Value.int .i64 (0)) (by decide) ?_
 refine L_nil ?_
 refine then_n ?_
 obtain ⟨o6, ho7, hq9⟩ := bind_some hr
 refine W_cut (fun f w => ∃ (s : St), s.w = w ∧ Ext s0 s ∧ Le s0 s ∧ Sum.inl () = o6) ?_ ?_
 ·refine W_block ?_
  refine W_loop (fun m f w => ∃ (s : St) (x5 : Int), s.w = w ∧ Ext s0 s ∧ Le s0 s ∧ dead_run_next_l1 N a0 m x5 = some o6 ∧ f 9 = Value.int .i64 x5 ∧ f 0 = w0 ∧ f 8 = Value.int .i64 ((a0.c.length : Int))) N ⟨s0, 0, rfl, hE0, (Le.refl _), ho7, rfl, rfl, rfl⟩ ?_
  rintro m8 f27 w28 ⟨s11, x5, rfl, hE13, l12, hr, g14_9, g14_0, g14_8⟩
  cases m8 with
  | zero => exact absurd hr (by simp [dead_run_next_l1])
  | succ m8 =>
   rw [dead_run_next_l1.eq_2] at hr
   refine W_seq ?_
   refine W_region ?_
   refine L_lss g14_9 g14_8 (by decide) ?_
   refine L_nil ?_
   refine then_n ?_
   refine W_seq ?_
   refine W_cond _ (rfl : _ = Value.bool (decide (x5 < (a0.c.length : Int)))) (fun hb15 => ?_) (fun hb15 => ?_)
   ·have hr := ite_t hb15 hr
    refine W_skip ?_
    refine then_n ?_
    refine W_seq ?_
    refine W_block ?_
    refine W_seq ?_
    refine W_region ?_
    refine L_move g14_9 (by decide) ?_
    refine L_assign (rfl : _ = Value.int .i64 (x5)) (by decide) ?_
    refine L_nil ?_
    refine then_n ?_
    refine W_seq ?_
    refine W_region ?_
    refine L_move g14_0 (by decide) ?_
    refine L_move (rfl : _ = Value.int .i64 (x5)) (by decide) ?_
    obtain ⟨y16, hy17, hr⟩ := bind_some hr
    refine L_calls cal32 (args2 (rfl : _ = w0) (rfl : _ = Value.int .i64 (x5))) (dead_run_can_ok N _ _ _ (h0.mono l12) x5 y16 hy17) (by decide) ?_
    intro v18 s21 e19 hv20
    have hE22 := Tch.ext hE13 e19
    obtain rfl := hv20.bool
    refine L_nil ?_
    refine then_n ?_
    refine W_cond _ (rfl : _ = Value.bool (y16)) (fun hb23 => ?_) (fun hb23 => ?_)
    ·have hr := ite_t hb23 hr
     refine W_seq ?_
     refine W_region ?_
     refine L_move (rfl : _ = Value.int .i64 (x5)) (by decide) ?_
     refine L_assign (rfl : _ = Value.int .i64 (x5)) (by decide) ?_
     refine L_nil ?_
     refine then_n ?_
     refine W_ret ?_
     refine block_r ?_
     refine then_r ?_
     refine then_r ?_
     refine block_r ?_
     obtain rfl := Option.some.inj hr
     have hr := hq9
     try dsimp only at hr
     refine then_r ?_
     refine then_r ?_
     obtain rfl := Option.some.inj hr
     exact done1 (Or.inl rfl) Try.results33 rfl ⟨_, _, rfl, rfl, hE22, Vint⟩
    ·have hr := ite_f hb23 hr
     refine W_skip ?_
     refine block_n ?_
     refine then_n ?_
     refine W_region ?_
     obtain ⟨hc24, hr⟩ := chk_some hr
     refine L_add g14_9 (rfl : _ = Value.int .i64 (1)) hc24 (by decide) ?_
     refine L_move (rfl : _ = Value.int .i64 (x5 + 1)) (by decide) ?_
     refine L_nil ?_
     exact then_n ⟨m8, Nat.lt_succ_self _, ⟨s21, (x5 + 1), rfl, hE22, (l12.trans e19.le), hr, rfl, g14_0, g14_8⟩⟩
   ·have hr := ite_f hb15 hr
    refine W_exit ?_
    refine then_x ?_
    refine then_x ?_
    refine block_here ?_
    exact then_n ⟨s11, rfl, hE13, l12, Option.some.inj hr⟩
 ·rintro f25 w26 ⟨s29, rfl, hE31, l30, ho7⟩
  subst ho7
  have hr := hq9
  try dsimp only at hr
  refine then_n ?_
  refine W_seq ?_
  refine W_region ?_
  refine L_assign (rfl : _ = Value.int .i64 (-1)) (by decide) ?_
  refine L_nil ?_
  refine then_n ?_
  refine W_ret ?_
  obtain rfl := Option.some.inj hr
  exact done1 (Or.inl rfl) Try.results33 rfl ⟨_, _, rfl, rfl, hE31, Vint⟩

theorem dead_Follow_ok (N : Nat) (s0 : St) (w0 : Value) (a0 : List (List Deed)) (h0 : V s0 w0 a0) (a1 : Int) (w2 : Value) (a2 : List Int) (h2 : V s0 w2 a2) (r : (List Int) × Bool × Int) (hr : dead_Follow N a0 a1 a2 = some r) :
  Calls Try.prog 11 #[w0, .int .i64 a1, w2] s0.w (Ret s0 fun v s => ∃ a b c, v = .tuple #[a, b, c] ∧ V s a r.1 ∧ V s b r.2.1 ∧ V s c r.2.2) := by
 unfold dead_Follow at hr
 have hE0 := Ext.refl s0
 refine Calls_of (n := 59) (args := [w0, .int .i64 a1, w2]) Try.func11 rfl rfl (by simp) ?_
 refine W_seq ?_
 refine W_region ?_
 refine L_assign (rfl : _ = Value.slice none 0 0) (by decide) ?_
 refine L_assign (rfl : _ = Value.bool (false)) (by decide) ?_
 refine L_assign (rfl : _ = Value.int .i64 (0)) (by decide) ?_
 refine L_nil ?_
 refine then_n ?_
 refine W_seq ?_
 refine W_region ?_
 refine L_move (rfl : _ = w0) (by decide) ?_
 refine L_move (rfl : _ = Value.int .i64 (a1)) (by decide) ?_
 obtain ⟨y1, hy2, hr⟩ := bind_some hr
 refine L_calls cal31 (args2 (rfl : _ = w0) (rfl : _ = Value.int .i64 (a1))) (dead_newRun_ok N _ _ _ h0 a1 y1 hy2) (by decide) ?_
 intro v3 s6 e4 hv5
 have hE7 := Tch.ext hE0 e4
 obtain ⟨v8, v9, rfl, hv10, hv11⟩ := hv5
 obtain rfl := hv11.int
 refine L_move (rfl : _ = Value.tuple #[v8, Value.int .i64 (y1.2)]) (by decide) ?_
 refine L_extract (rfl : _ = Value.tuple #[v8, Value.int .i64 (y1.2)]) (k := 0) rfl (by decide) ?_
 refine L_extract (rfl : _ = Value.tuple #[v8, Value.int .i64 (y1.2)]) (k := 1) rfl (by decide) ?_
 refine L_assign (rfl : _ = v8) (by decide) ?_
 refine L_assign (rfl : _ = Value.int .i64 (y1.2)) (by decide) ?_
 refine L_nil ?_
 refine then_n ?_
 refine W_seq ?_
 refine W_seq ?_
 refine W_region ?_
 refine L_move (rfl : _ = Value.int .i64 (y1.2)) (by decide) ?_
 refine L_neq (rfl : _ = Value.int .i64 (y1.2)) (rfl : _ = Value.int .i64 (0)) (by decide) ?_
 refine L_nil ?_
 refine then_n ?_
 refine W_cond _ (rfl : _ = Value.bool (!decide (y1.2 = 0))) (fun hb12 => ?_) (fun hb12 => ?_)
 ·have hr := ite_t hb12 hr
  refine W_seq ?_
  refine W_region ?_
  refine L_move (rfl : _ = Value.int .i64 (y1.2)) (by decide) ?_
  refine L_assign (rfl : _ = Value.slice none 0 0) (by decide) ?_
  refine L_assign (rfl : _ = Value.bool (false)) (by decide) ?_
  refine L_assign (rfl : _ = Value.int .i64 (y1.2)) (by decide) ?_
  refine L_nil ?_
  refine then_n ?_
  refine W_ret ?_
  refine then_r ?_
  obtain rfl := Option.some.inj hr
  exact done3 (Or.inl rfl) Try.results11 rfl rfl rfl ⟨_, _, rfl, rfl, hE7, _, _, _, rfl, Vnil, Vbool, Vint⟩
 ·have hr := ite_f hb12 hr
  refine W_skip ?_
  refine then_n ?_
  refine W_seq ?_
  refine W_seq ?_
  refine W_region ?_
  refine L_move (rfl : _ = w2) (by decide) ?_
  refine L_len Try.underlying23 (rfl : _ = w2) (h2.mono e4.le) (by decide) ?_
  refine L_move (rfl : _ = Value.int .i64 (0)) (by decide) ?_
  refine L_nil ?_
  refine then_n ?_
  obtain ⟨y13, hy14, hr⟩ := bind_some hr
  obtain ⟨b15, hb16, hs17, ha18⟩ := hv10.open hy14
  obtain ⟨o22, ho23, hq25⟩ := bind_some hr
  refine W_cut (fun f w => ∃ (s : St) (x21 : List Int), s.w = w ∧ Ext s0 s ∧ Le s6 s ∧ Sum.inl x21 = o22 ∧ f 9 = v8 ∧ Arr s b15 3 (y13.at_).length x21) ?_ ?_
  ·refine W_block ?_
   refine W_loop (fun m f w => ∃ (s : St) (x20 : Int) (x19 : List Int), s.w = w ∧ Ext s0 s ∧ Le s6 s ∧ dead_Follow_l1 N a0 a2 y13 m x20 x19 = some o22 ∧ f 24 = Value.int .i64 x20 ∧ f 0 = w0 ∧ f 9 = v8 ∧ f 22 = w2 ∧ f 23 = Value.int .i64 ((a2.length : Int)) ∧ Arr s b15 3 (y13.at_).length x19) N ⟨s6, 0, y13.at_, rfl, hE7, (Le.refl _), ho23, rfl, rfl, rfl, rfl, rfl, ha18⟩ ?_
   rintro m24 f90 w91 ⟨s27, x20, x19, rfl, hE29, l28, hr, g30_24, g30_0, g30_9, g30_22, g30_23, hx31⟩
   cases m24 with
   | zero => exact absurd hr (by simp [dead_Follow_l1])
   | succ m24 =>
    rw [dead_Follow_l1.eq_2] at hr
    refine W_seq ?_
    refine W_region ?_
    refine L_lss g30_24 g30_23 (by decide) ?_
    refine L_nil ?_
    refine then_n ?_
    refine W_seq ?_
    refine W_cond _ (rfl : _ = Value.bool (decide (x20 < (a2.length : Int)))) (fun hb32 => ?_) (fun hb32 => ?_)
    ·have hr := ite_t hb32 hr
     refine W_skip ?_
     refine then_n ?_
     refine W_seq ?_
     refine W_block ?_
     refine W_seq ?_
     refine W_region ?_
     obtain ⟨y33, hy34, hr⟩ := bind_some hr
     refine L_index Try.underlying23 ty3.inf g30_22 (h2.mono (e4.le.trans l28)) g30_24 hy34 (by decide) ?_
     intro p35 hp36
     refine L_load_int ty3 (rfl : _ = p35) hp36 (by decide) ?_
     refine L_assign (rfl : _ = Value.int .i64 (y33)) (by decide) ?_
     refine L_nil ?_
     refine then_n ?_
     obtain ⟨o37, ho38, hq39⟩ := bind_some hr
     refine W_seq_cut (fun f w => ∃ (s : St), s.w = w ∧ Ext s0 s ∧ Le s27 s ∧ Sum.inl () = o37 ∧ f 0 = w0 ∧ f 9 = v8 ∧ f 12 = Value.int .i64 (y33) ∧ f 22 = w2 ∧ f 23 = Value.int .i64 ((a2.length : Int)) ∧ f 24 = Value.int .i64 (x20) ∧ Arr s b15 3 (y13.at_).length x19) ?_ ?_
     ·have hr := ho38
      refine W_block ?_
      obtain ⟨o41, ho42, hq43⟩ := bind_some hr
      refine W_seq_cut (fun f w => ∃ (s : St) (x40 : Bool), s.w = w ∧ Ext s0 s ∧ Le s27 s ∧ x40 = o41 ∧ f 28 = Value.bool x40 ∧ f 0 = w0 ∧ f 9 = v8 ∧ f 12 = Value.int .i64 (y33) ∧ f 22 = w2 ∧ f 23 = Value.int .i64 ((a2.length : Int)) ∧ f 24 = Value.int .i64 (x20) ∧ Arr s b15 3 (y13.at_).length x19) ?_ ?_
      ·have hr := ho42
       refine W_region ?_
       refine L_move (rfl : _ = Value.int .i64 (y33)) (by decide) ?_
       refine L_lss (rfl : _ = Value.int .i64 (y33)) (rfl : _ = Value.int .i64 (0)) (by decide) ?_
       refine L_move (rfl : _ = Value.bool (decide (y33 < 0))) (by decide) ?_
       rcases Bool.eq_false_or_eq_true (decide (y33 < 0)) with hb44 | hb44
       ·have hr := ite_t hb44 hr
        refine L_gf (e := 31) (by rfl) (by decide) (rfl : _ = Value.bool (decide (y33 < 0))) hb44 (by decide) ?_
        refine L_gf (e := 31) (by rfl) (by decide) (rfl : _ = Value.bool (decide (y33 < 0))) hb44 (by decide) ?_
        refine L_gf (e := 31) (by rfl) (by decide) (rfl : _ = Value.bool (decide (y33 < 0))) hb44 (by decide) ?_
        refine L_gf (e := 31) (by rfl) (by decide) (rfl : _ = Value.bool (decide (y33 < 0))) hb44 (by decide) ?_
        refine L_pick_t (rfl : _ = Value.bool (decide (y33 < 0))) hb44 (rfl : _ = Value.bool (true)) (by decide) ?_
        refine L_assign (rfl : _ = Value.bool (true)) (by decide) ?_
        refine L_nil ?_
        exact then_n ⟨s27, true, rfl, hE29, (Le.refl _), Option.some.inj hr, rfl, g30_0, g30_9, rfl, g30_22, g30_23, g30_24, hx31⟩
       ·have hr := ite_f hb44 hr
        refine L_gt (e := 31) (by rfl) (by decide) (rfl : _ = Value.bool (decide (y33 < 0))) hb44 ?_
        refine L_move (rfl : _ = Value.int .i64 (y33)) (by decide) ?_
        refine L_gt (e := 31) (by rfl) (by decide) (rfl : _ = Value.bool (decide (y33 < 0))) hb44 ?_
        refine L_move g30_0 (by decide) ?_
        refine L_gt (e := 31) (by rfl) (by decide) (rfl : _ = Value.bool (decide (y33 < 0))) hb44 ?_
        refine L_len Try.underlying29 (rfl : _ = w0) (h0.mono (e4.le.trans l28)) (by decide) ?_
        refine L_gt (e := 31) (by rfl) (by decide) (rfl : _ = Value.bool (decide (y33 < 0))) hb44 ?_
        refine L_geq (rfl : _ = Value.int .i64 (y33)) (rfl : _ = Value.int .i64 ((a0.length : Int))) (by decide) ?_
        refine L_pick_f (rfl : _ = Value.bool (decide (y33 < 0))) hb44 (rfl : _ = Value.bool (decide ((a0.length : Int) ≤ y33))) (by decide) ?_
        refine L_assign (rfl : _ = Value.bool (decide ((a0.length : Int) ≤ y33))) (by decide) ?_
        refine L_nil ?_
        exact then_n ⟨s27, (decide ((a0.length : Int) ≤ y33)), rfl, hE29, (Le.refl _), Option.some.inj hr, rfl, g30_0, g30_9, rfl, g30_22, g30_23, g30_24, hx31⟩
      ·rintro f65 w66 ⟨s45, x40, rfl, hE47, l46, ho42, g48_28, g48_0, g48_9, g48_12, g48_22, g48_23, g48_24, hx49⟩
       subst ho42
       have hr := hq43
       try dsimp only at hr
       refine W_cond _ g48_28 (fun hb50 => ?_) (fun hb50 => ?_)
       ·have hr := ite_t hb50 hr
        refine W_seq ?_
        refine W_region ?_
        refine L_assign (rfl : _ = Value.slice none 0 0) (by decide) ?_
        refine L_assign (rfl : _ = Value.bool (false)) (by decide) ?_
        refine L_assign (rfl : _ = Value.int .i64 (11)) (by decide) ?_
        refine L_nil ?_
        refine then_n ?_
        refine W_ret ?_
        refine block_r ?_
        obtain rfl := Option.some.inj hr
        have hr := hq39
        try dsimp only at hr
        refine then_r ?_
        refine block_r ?_
        refine then_r ?_
        refine then_r ?_
        refine block_r ?_
        obtain rfl := Option.some.inj hr
        have hr := hq25
        try dsimp only at hr
        refine then_r ?_
        refine then_r ?_
        obtain rfl := Option.some.inj hr
        exact done3 (Or.inl rfl) Try.results11 rfl rfl rfl ⟨_, _, rfl, rfl, hE47, _, _, _, rfl, Vnil, Vbool, Vint⟩
       ·have hr := ite_f hb50 hr
        refine W_seq ?_
        refine W_region ?_
        refine L_move g48_9 (by decide) ?_
        refine L_move g48_12 (by decide) ?_
        obtain ⟨y55, hy56, hr⟩ := bind_some hr
        obtain ⟨s51, ez52, tz53, fz54⟩ := (hx49).freeze
        refine L_calls_fz cal32 (args2 (rfl : _ = v8) (rfl : _ = Value.int .i64 (y33))) ez52 tz53 (fun k hk => by have hk2 : k = b15 := hk; rw [hk2]; exact (hx49).g) (dead_run_can_ok N _ _ _ ((hs17.mono (l28.trans (l46.trans tz53.le))).ptr fz54) y33 y55 hy56) (by decide) ?_
        intro v57 s60 s62 ez61 e58 hv59
        have hE63 := Tch.ext hE47 e58
        obtain rfl := hv59.bool
        refine L_not (rfl : _ = Value.bool (y55)) (by decide) ?_
        refine L_assign (rfl : _ = Value.bool (!y55)) (by decide) ?_
        refine L_nil ?_
        refine then_n ?_
        refine W_cond _ (rfl : _ = Value.bool (!y55)) (fun hb64 => ?_) (fun hb64 => ?_)
        ·have hr := ite_t hb64 hr
         refine W_seq ?_
         refine W_region ?_
         refine L_assign (rfl : _ = Value.slice none 0 0) (by decide) ?_
         refine L_assign (rfl : _ = Value.bool (false)) (by decide) ?_
         refine L_assign (rfl : _ = Value.int .i64 (6)) (by decide) ?_
         refine L_nil ?_
         refine then_n ?_
         refine W_ret ?_
         refine block_r ?_
         obtain rfl := Option.some.inj hr
         have hr := hq39
         try dsimp only at hr
         refine then_r ?_
         refine block_r ?_
         refine then_r ?_
         refine then_r ?_
         refine block_r ?_
         obtain rfl := Option.some.inj hr
         have hr := hq25
         try dsimp only at hr
         refine then_r ?_
         refine then_r ?_
         obtain rfl := Option.some.inj hr
         exact done3 (Or.inl rfl) Try.results11 rfl rfl rfl ⟨_, _, rfl, rfl, hE63, _, _, _, rfl, Vnil, Vbool, Vint⟩
        ·have hr := ite_f hb64 hr
         refine W_skip ?_
         refine block_n ?_
         exact then_n ⟨s62, rfl, hE63, (l46.trans e58.le), Option.some.inj hr, g48_0, g48_9, g48_12, g48_22, g48_23, g48_24, (hx49).ext e58⟩
     ·rintro f86 w87 ⟨s67, rfl, hE69, l68, ho38, g70_0, g70_9, g70_12, g70_22, g70_23, g70_24, hx71⟩
      subst ho38
      have hr := hq39
      try dsimp only at hr
      refine W_region ?_
      refine L_move g70_9 (by decide) ?_
      refine L_nilCheck_shell (rfl : _ = v8) (hs17.mono (l28.trans l68)) (by decide) ?_
      refine L_fieldAddr_shell fld72_2 (rfl : _ = v8) (hs17.mono (l28.trans l68)) (by decide) ?_
      intro p72 hp73
      refine L_load_cell Try.underlying23 rfl (rfl : _ = p72) hp73 (by decide) ?_
      refine L_move g70_12 (by decide) ?_
      obtain ⟨y74, hy75, hr⟩ := bind_some hr
      refine L_indexA (sz := 1) Try.underlying23 ty3.inf (rfl : _ = Value.slice (some ⟨b15, 0, none⟩) (y13.at_).length (y13.at_).length) (rfl : _ = Value.int .i64 (y33)) (idx_some hy75).1 (by have := (idx_some hy75).2.1; have := (hx71).1; omega) (by decide) ?_
      refine L_loadA (xs := x19) ty3 (rfl : _ = Value.pointer (some ⟨b15, (y33).toNat * 1, none⟩)) (hx71) hy75 (by decide) ?_
      intro v76 hv77
      obtain rfl := hv77.int
      obtain ⟨hc78, hr⟩ := chk_some hr
      refine L_add (rfl : _ = Value.int .i64 (y74)) (rfl : _ = Value.int .i64 (1)) hc78 (by decide) ?_
      obtain ⟨y79, hy80, hr⟩ := bind_some hr
      refine L_indexA (sz := 1) Try.underlying23 ty3.inf (rfl : _ = Value.slice (some ⟨b15, 0, none⟩) (y13.at_).length (y13.at_).length) (rfl : _ = Value.int .i64 (y33)) (idx_some hy80).1 (by have := (idx_some hy80).2.1; have := (hx71).1; omega) (by decide) ?_
      refine L_storeA (xs := x19) ty3 (rfl : _ = Value.pointer (some ⟨b15, (y33).toNat * 1, none⟩)) (rfl : _ = Value.int .i64 (y74 + 1)) Vint (hx71) hy80 ?_
      intro s83 e81 hv82
      have hE84 := Tch.trans hE69 e81 (fun k hk => Or.inr (by subst hk; exact (Nat.le_trans hE0.size hb16)))
      refine L_nil ?_
      refine block_n ?_
      refine then_n ?_
      refine W_region ?_
      obtain ⟨hc85, hr⟩ := chk_some hr
      refine L_add g70_24 (rfl : _ = Value.int .i64 (1)) hc85 (by decide) ?_
      refine L_move (rfl : _ = Value.int .i64 (x20 + 1)) (by decide) ?_
      refine L_nil ?_
      exact then_n ⟨m24, Nat.lt_succ_self _, ⟨s83, (x20 + 1), (x19.set (y33).toNat (y74 + 1)), rfl, hE84, (l28.trans (l68.trans e81.le)), hr, rfl, g70_0, g70_9, g70_22, g70_23, hv82⟩⟩
    ·have hr := ite_f hb32 hr
     refine W_exit ?_
     refine then_x ?_
     refine then_x ?_
     refine block_here ?_
     exact then_n ⟨s27, x19, rfl, hE29, l28, Option.some.inj hr, g30_9, hx31⟩
  ·rintro f88 w89 ⟨s92, x21, rfl, hE94, l93, ho23, g95_9, hx96⟩
   subst ho23
   have hr := hq25
   try dsimp only at hr
   refine then_n ?_
   refine W_seq ?_
   obtain ⟨s97, ez98, tz99, fz100⟩ := (hx96).freeze
   rw [← ez98]
   have hE101 := Tch.trans hE94 tz99 (fun k hk => Or.inr (by subst hk; exact (Nat.le_trans hE0.size hb16)))
   obtain ⟨y106, hy107, hr⟩ := bind_some hr
   refine W_draws mixed (by kernel_rfl) [PV.ptr ((Run.with_at_ y13 x21) : Run), PV.ptr ((Run.with_at_ y13 x21) : Run), PV.ptr ((Run.with_at_ y13 x21).at_ : List Int), PV.data ((Run.with_at_ y13 x21).at_ : List Int), PV.ptr ((Run.with_at_ y13 x21) : Run), PV.eq (Value.int .i64 (y106)), PV.eq (Value.bool (decide (y106 < 0))), PV.data ((Run.with_at_ y13 x21).at_ : List Int), PV.eq (Value.bool (decide (y106 < 0))), PV.eq (Value.int .i64 (0))] (Steps_cons ?_ (Steps_cons ?_ (Steps_cons ?_ (Steps_cons ?_ (Steps_cons ?_ (Steps_cons ?_ (Steps_cons ?_ (Steps_cons ?_ (Steps_cons ?_ (Steps_cons ?_ Steps_nil)))))))))) ?_
   ·intro f115 s113 e114 hA116 hB117 Q hk118
    have ha119 : f115 9 = v8 := (hB117 9 (by kernel_rfl)).trans g95_9
    refine L_move ha119 (by decide) ?_
    exact L_nil (hk118 _ _ (Ext.refl s113) (((hs17.mono (l93.trans tz99.le)).ptr fz100).mono e114.le))
   ·intro f122 s120 e121 hA123 hB124 Q hk125
    have ha126 : Ptr _ (f122 52) ((Run.with_at_ y13 x21) : Run) := hA123 0 52 (by kernel_rfl) (by kernel_rfl)
    obtain ⟨v127, q128, hv129⟩ : ∃ v, _ = v ∧ Ptr _ v _ := ⟨_, rfl, ha126⟩
    refine L_nilCheck_ptr q128 hv129 (by decide) ?_
    exact L_nil (hk125 _ _ (Ext.refl s120) hv129)
   ·intro f132 s130 e131 hA133 hB134 Q hk135
    have ha136 : Ptr _ (f132 53) ((Run.with_at_ y13 x21) : Run) := hA133 1 53 (by kernel_rfl) (by kernel_rfl)
    obtain ⟨v137, q138, hv139⟩ : ∃ v, _ = v ∧ Ptr _ v _ := ⟨_, rfl, ha136⟩
    refine L_fieldAddr fld72_2 Run.of_at_ q138 hv139 (by decide) ?_
    intro p102 hp103
    exact L_nil (hk135 _ _ (Ext.refl s130) hp103)
   ·intro f142 s140 e141 hA143 hB144 Q hk145
    have ha146 : Ptr _ (f142 54) ((Run.with_at_ y13 x21).at_ : List Int) := hA143 2 54 (by kernel_rfl) (by kernel_rfl)
    obtain ⟨v147, q148, hv149⟩ : ∃ v, _ = v ∧ Ptr _ v _ := ⟨_, rfl, ha146⟩
    refine L_load ty23 q148 hv149 (by decide) ?_
    intro v104 hv105
    exact L_nil (hk145 _ _ (Ext.refl s140) hv105)
   ·intro f152 s150 e151 hA153 hB154 Q hk155
    have ha156 : f152 9 = v8 := (hB154 9 (by kernel_rfl)).trans g95_9
    refine L_move ha156 (by decide) ?_
    exact L_nil (hk155 _ _ (Ext.refl s150) (((hs17.mono (l93.trans tz99.le)).ptr fz100).mono e151.le))
   ·intro f159 s157 e158 hA160 hB161 Q hk162
    have ha163 : Ptr _ (f159 56) ((Run.with_at_ y13 x21) : Run) := hA160 4 56 (by kernel_rfl) (by kernel_rfl)
    obtain ⟨v164, q165, hv166⟩ : ∃ v, _ = v ∧ Ptr _ v _ := ⟨_, rfl, ha163⟩
    refine L_calls cal33 (args1 q165) (dead_run_next_ok N _ _ _ hv166 y106 hy107) (by decide) ?_
    intro v108 s111 e109 hv110
    have hE112 := Tch.ext (Ext.refl s157) e109
    obtain rfl := hv110.int
    exact L_nil (hk162 _ _ hE112 rfl)
   ·intro f169 s167 e168 hA170 hB171 Q hk172
    have ha173 : f169 57 = Value.int .i64 (y106) := hA170 5 57 (by kernel_rfl) (by kernel_rfl)
    refine L_lss ha173 (rfl : _ = Value.int .i64 (0)) (by decide) ?_
    exact L_nil (hk172 _ _ (Ext.refl s167) rfl)
   ·intro f176 s174 e175 hA177 hB178 Q hk179
    have ha180 : V _ (f176 55) ((Run.with_at_ y13 x21).at_ : List Int) := hA177 3 55 (by kernel_rfl) (by kernel_rfl)
    obtain ⟨v181, q182, hv183⟩ : ∃ v, _ = v ∧ V _ v _ := ⟨_, rfl, ha180⟩
    refine L_assign q182 (by decide) ?_
    exact L_nil (hk179 _ _ (Ext.refl s174) hv183)
   ·intro f186 s184 e185 hA187 hB188 Q hk189
    have ha190 : f186 58 = Value.bool (decide (y106 < 0)) := hA187 6 58 (by kernel_rfl) (by kernel_rfl)
    refine L_assign ha190 (by decide) ?_
    exact L_nil (hk189 _ _ (Ext.refl s184) rfl)
   ·intro f193 s191 e192 hA194 hB195 Q hk196
    refine L_assign (rfl : _ = Value.int .i64 (0)) (by decide) ?_
    exact L_nil (hk196 _ _ (Ext.refl s191) rfl)
   ·intro f199 s197 e198 hA200 hB201
    have hE202 := Tch.ext hE101 e198
    have ha203 : V _ (f199 6) ((Run.with_at_ y13 x21).at_ : List Int) := hA200 7 6 (by kernel_rfl)
    obtain ⟨v204, q205, hv206⟩ : ∃ v, _ = v ∧ V _ v _ := ⟨_, rfl, ha203⟩
    have ha207 : f199 7 = Value.bool (decide (y106 < 0)) := hA200 8 7 (by kernel_rfl)
    have ha208 : f199 8 = Value.int .i64 (0) := hA200 9 8 (by kernel_rfl)
    refine then_n ?_
    refine W_ret ?_
    obtain rfl := Option.some.inj hr
    exact done3 (Or.inl rfl) Try.results11 q205 ha207 ha208 ⟨_, _, rfl, rfl, hE202, _, _, _, rfl, hv206, Vbool, Vint⟩

theorem ref01_SameInts_ok (N : Nat) (s0 : St) (w0 : Value) (a0 : List Int) (h0 : V s0 w0 a0) (w1 : Value) (a1 : List Int) (h1 : V s0 w1 a1) (r : Bool) (hr : ref01_SameInts N a0 a1 = some r) :
  Calls Try.prog 14 #[w0, w1] s0.w (Ret s0 fun v s => V s v r) := by
 unfold ref01_SameInts at hr
 have hE0 := Ext.refl s0
 refine Calls_of (n := 26) (args := [w0, w1]) Try.func14 rfl rfl (by simp) ?_
 refine W_seq ?_
 refine W_region ?_
 refine L_assign (rfl : _ = Value.bool (false)) (by decide) ?_
 refine L_nil ?_
 refine then_n ?_
 refine W_seq ?_
 refine W_seq ?_
 refine W_region ?_
 refine L_move (rfl : _ = w0) (by decide) ?_
 refine L_len Try.underlying23 (rfl : _ = w0) h0 (by decide) ?_
 refine L_move (rfl : _ = w1) (by decide) ?_
 refine L_len Try.underlying23 (rfl : _ = w1) h1 (by decide) ?_
 refine L_neq (rfl : _ = Value.int .i64 ((a0.length : Int))) (rfl : _ = Value.int .i64 ((a1.length : Int))) (by decide) ?_
 refine L_nil ?_
 refine then_n ?_
 refine W_cond _ (rfl : _ = Value.bool (!decide ((a0.length : Int) = (a1.length : Int)))) (fun hb1 => ?_) (fun hb1 => ?_)
 ·have hr := ite_t hb1 hr
  refine W_seq ?_
  refine W_region ?_
  refine L_assign (rfl : _ = Value.bool (false)) (by decide) ?_
  refine L_nil ?_
  refine then_n ?_
  refine W_ret ?_
  refine then_r ?_
  obtain rfl := Option.some.inj hr
  exact done1 (Or.inl rfl) Try.results14 rfl ⟨_, _, rfl, rfl, hE0, Vbool⟩
 ·have hr := ite_f hb1 hr
  refine W_skip ?_
  refine then_n ?_
  refine W_seq ?_
  refine W_seq ?_
  refine W_region ?_
  refine L_assign (rfl : _ = Value.int .i64 (0)) (by decide) ?_
  refine L_nil ?_
  refine then_n ?_
  obtain ⟨o3, ho4, hq6⟩ := bind_some hr
  refine W_cut (fun f w => ∃ (s : St), s.w = w ∧ Ext s0 s ∧ Le s0 s ∧ Sum.inl () = o3) ?_ ?_
  ·refine W_block ?_
   refine W_loop (fun m f w => ∃ (s : St) (x2 : Int), s.w = w ∧ Ext s0 s ∧ Le s0 s ∧ ref01_SameInts_l1 N a0 a1 m x2 = some o3 ∧ f 5 = Value.int .i64 x2 ∧ f 0 = w0 ∧ f 1 = w1) N ⟨s0, 0, rfl, hE0, (Le.refl _), ho4, rfl, rfl, rfl⟩ ?_
   rintro m5 f113 w114 ⟨s8, x2, rfl, hE10, l9, hr, g11_5, g11_0, g11_1⟩
   cases m5 with
   | zero => exact absurd hr (by simp [ref01_SameInts_l1])
   | succ m5 =>
    rw [ref01_SameInts_l1.eq_2] at hr
    refine W_seq ?_
    refine W_seq ?_
    refine W_region ?_
    refine L_move g11_5 (by decide) ?_
    refine L_move g11_0 (by decide) ?_
    refine L_len Try.underlying23 (rfl : _ = w0) (h0.mono l9) (by decide) ?_
    refine L_lss (rfl : _ = Value.int .i64 (x2)) (rfl : _ = Value.int .i64 ((a0.length : Int))) (by decide) ?_
    refine L_nil ?_
    refine then_n ?_
    refine W_cond _ (rfl : _ = Value.bool (decide (x2 < (a0.length : Int)))) (fun hb12 => ?_) (fun hb12 => ?_)
    ·have hr := ite_t hb12 hr
     refine W_skip ?_
     refine then_n ?_
     refine W_seq ?_
     refine W_block ?_
     refine W_seq ?_
     obtain ⟨y13, hy14, hr⟩ := bind_some hr
     obtain ⟨y17, hy18, hr⟩ := bind_some hr
     refine W_draws mixed (by kernel_rfl) [PV.data (a0 : List Int), PV.eq (Value.int .i64 (x2)), PV.ptr (y13 : Int), PV.eq (Value.int .i64 (y13)), PV.data (a1 : List Int), PV.eq (Value.int .i64 (x2)), PV.ptr (y17 : Int), PV.eq (Value.int .i64 (y17)), PV.eq (Value.bool (!decide (y13 = y17)))] (Steps_cons ?_ (Steps_cons ?_ (Steps_cons ?_ (Steps_cons ?_ (Steps_cons ?_ (Steps_cons ?_ (Steps_cons ?_ (Steps_cons ?_ (Steps_cons ?_ Steps_nil))))))))) ?_
     ·intro f23 s21 e22 hA24 hB25 Q hk26
      have ha27 : f23 0 = w0 := (hB25 0 (by kernel_rfl)).trans g11_0
      refine L_move ha27 (by decide) ?_
      exact L_nil (hk26 _ _ (Ext.refl s21) (h0.mono (l9.trans e22.le)))
     ·intro f30 s28 e29 hA31 hB32 Q hk33
      have ha34 : f30 5 = Value.int .i64 (x2) := (hB32 5 (by kernel_rfl)).trans g11_5
      refine L_move ha34 (by decide) ?_
      exact L_nil (hk33 _ _ (Ext.refl s28) rfl)
     ·intro f37 s35 e36 hA38 hB39 Q hk40
      have ha41 : V _ (f37 17) (a0 : List Int) := hA38 0 17 (by kernel_rfl) (by kernel_rfl)
      obtain ⟨v42, q43, hv44⟩ : ∃ v, _ = v ∧ V _ v _ := ⟨_, rfl, ha41⟩
      have ha45 : f37 18 = Value.int .i64 (x2) := hA38 1 18 (by kernel_rfl) (by kernel_rfl)
      refine L_index Try.underlying23 ty3.inf q43 hv44 ha45 hy14 (by decide) ?_
      intro p15 hp16
      exact L_nil (hk40 _ _ (Ext.refl s35) hp16)
     ·intro f48 s46 e47 hA49 hB50 Q hk51
      have ha52 : Ptr _ (f48 19) (y13 : Int) := hA49 2 19 (by kernel_rfl) (by kernel_rfl)
      obtain ⟨v53, q54, hv55⟩ : ∃ v, _ = v ∧ Ptr _ v _ := ⟨_, rfl, ha52⟩
      refine L_load_int ty3 q54 hv55 (by decide) ?_
      exact L_nil (hk51 _ _ (Ext.refl s46) rfl)
     ·intro f58 s56 e57 hA59 hB60 Q hk61
      have ha62 : f58 1 = w1 := (hB60 1 (by kernel_rfl)).trans g11_1
      refine L_move ha62 (by decide) ?_
      exact L_nil (hk61 _ _ (Ext.refl s56) (h1.mono (l9.trans e57.le)))
     ·intro f65 s63 e64 hA66 hB67 Q hk68
      have ha69 : f65 5 = Value.int .i64 (x2) := (hB67 5 (by kernel_rfl)).trans g11_5
      refine L_move ha69 (by decide) ?_
      exact L_nil (hk68 _ _ (Ext.refl s63) rfl)
     ·intro f72 s70 e71 hA73 hB74 Q hk75
      have ha76 : V _ (f72 21) (a1 : List Int) := hA73 4 21 (by kernel_rfl) (by kernel_rfl)
      obtain ⟨v77, q78, hv79⟩ : ∃ v, _ = v ∧ V _ v _ := ⟨_, rfl, ha76⟩
      have ha80 : f72 22 = Value.int .i64 (x2) := hA73 5 22 (by kernel_rfl) (by kernel_rfl)
      refine L_index Try.underlying23 ty3.inf q78 hv79 ha80 hy18 (by decide) ?_
      intro p19 hp20
      exact L_nil (hk75 _ _ (Ext.refl s70) hp20)
     ·intro f83 s81 e82 hA84 hB85 Q hk86
      have ha87 : Ptr _ (f83 23) (y17 : Int) := hA84 6 23 (by kernel_rfl) (by kernel_rfl)
      obtain ⟨v88, q89, hv90⟩ : ∃ v, _ = v ∧ Ptr _ v _ := ⟨_, rfl, ha87⟩
      refine L_load_int ty3 q89 hv90 (by decide) ?_
      exact L_nil (hk86 _ _ (Ext.refl s81) rfl)
     ·intro f93 s91 e92 hA94 hB95 Q hk96
      have ha97 : f93 20 = Value.int .i64 (y13) := hA94 3 20 (by kernel_rfl) (by kernel_rfl)
      have ha98 : f93 24 = Value.int .i64 (y17) := hA94 7 24 (by kernel_rfl) (by kernel_rfl)
      refine L_neq ha97 ha98 (by decide) ?_
      exact L_nil (hk96 _ _ (Ext.refl s91) rfl)
     ·intro f101 s99 e100 hA102 hB103
      have hE104 := Tch.ext hE10 e100
      have ha105 : f101 0 = w0 := (hB103 0 (by kernel_rfl)).trans g11_0
      have ha106 : f101 1 = w1 := (hB103 1 (by kernel_rfl)).trans g11_1
      have ha107 : f101 5 = Value.int .i64 (x2) := (hB103 5 (by kernel_rfl)).trans g11_5
      have ha108 : f101 25 = Value.bool (!decide (y13 = y17)) := hA102 8 25 (by kernel_rfl)
      refine then_n ?_
      refine W_cond _ ha108 (fun hb109 => ?_) (fun hb109 => ?_)
      ·have hr := ite_t hb109 hr
       refine W_seq ?_
       refine W_region ?_
       refine L_assign (rfl : _ = Value.bool (false)) (by decide) ?_
       refine L_nil ?_
       refine then_n ?_
       refine W_ret ?_
       refine block_r ?_
       refine then_r ?_
       refine then_r ?_
       refine block_r ?_
       obtain rfl := Option.some.inj hr
       have hr := hq6
       try dsimp only at hr
       refine then_r ?_
       refine then_r ?_
       obtain rfl := Option.some.inj hr
       exact done1 (Or.inl rfl) Try.results14 rfl ⟨_, _, rfl, rfl, hE104, Vbool⟩
      ·have hr := ite_f hb109 hr
       refine W_skip ?_
       refine block_n ?_
       refine then_n ?_
       refine W_region ?_
       refine L_move ha107 (by decide) ?_
       obtain ⟨hc110, hr⟩ := chk_some hr
       refine L_add (rfl : _ = Value.int .i64 (x2)) (rfl : _ = Value.int .i64 (1)) hc110 (by decide) ?_
       refine L_assign (rfl : _ = Value.int .i64 (x2 + 1)) (by decide) ?_
       refine L_nil ?_
       exact then_n ⟨m5, Nat.lt_succ_self _, ⟨s99, (x2 + 1), rfl, hE104, (l9.trans e100.le), hr, rfl, ha105, ha106⟩⟩
    ·have hr := ite_f hb12 hr
     refine W_exit ?_
     refine then_x ?_
     refine then_x ?_
     refine block_here ?_
     exact then_n ⟨s8, rfl, hE10, l9, Option.some.inj hr⟩
  ·rintro f111 w112 ⟨s115, rfl, hE117, l116, ho4⟩
   subst ho4
   have hr := hq6
   try dsimp only at hr
   refine then_n ?_
   refine W_seq ?_
   refine W_region ?_
   refine L_assign (rfl : _ = Value.bool (true)) (by decide) ?_
   refine L_nil ?_
   refine then_n ?_
   refine W_ret ?_
   obtain rfl := Option.some.inj hr
   exact done1 (Or.inl rfl) Try.results14 rfl ⟨_, _, rfl, rfl, hE117, Vbool⟩

theorem dead_Narrow_1_ok (N : Nat) (s0 : St) (w0 : Value) (a0 : Deed) (h0 : V s0 w0 a0) (w1 : Value) (a1 : Int) (h1 : Ptr s0 w1 a1) (w2 : Value) (a2 : Deed) (h2 : Ptr s0 w2 a2) (r : Bool) (hr : dead_Narrow_1 N a0 a1 a2 = some r) :
  Calls Try.prog 39 #[w0, w1, w2] s0.w (Ret s0 fun v s => V s v r) := by
 unfold dead_Narrow_1 at hr
 have hE0 := Ext.refl s0
 refine Calls_of (n := 18) (args := [w0, w1, w2]) Try.func39 rfl rfl (by simp) ?_
 refine W_seq ?_
 refine W_region ?_
 refine L_box (rfl : _ = w0) h0 (by decide) ?_
 intro s4 p2 e1 hp3
 have hE5 := Tch.ext hE0 e1
 refine L_assign (rfl : _ = Value.bool (false)) (by decide) ?_
 refine L_nil ?_
 refine then_n ?_
 refine W_seq ?_
 refine W_region ?_
 refine L_load ty64 (rfl : _ = p2) hp3 (by decide) ?_
 intro v6 hv7
 obtain ⟨y8, hy9, hr⟩ := bind_some hr
 refine L_calls cal40 (args1 (rfl : _ = v6)) (dead_sends_ok N _ _ _ hv7 y8 hy9) (by decide) ?_
 intro v10 s13 e11 hv12
 have hE14 := Tch.ext hE5 e11
 obtain rfl := hv12.bool
 refine L_move (rfl : _ = Value.bool (y8)) (by decide) ?_
 rcases Bool.eq_false_or_eq_true (y8) with hb15 | hb15
 ·have hr := ite_t hb15 hr
  refine L_gt (e := 7) (by rfl) (by decide) (rfl : _ = Value.bool (y8)) hb15 ?_
  refine L_fieldAddr fld64_1 Deed.of_Peer (rfl : _ = p2) (hp3.mono e11.le) (by decide) ?_
  intro p16 hp17
  refine L_gt (e := 7) (by rfl) (by decide) (rfl : _ = Value.bool (y8)) hb15 ?_
  refine L_load_int ty3 (rfl : _ = p16) hp17 (by decide) ?_
  refine L_gt (e := 7) (by rfl) (by decide) (rfl : _ = Value.bool (y8)) hb15 ?_
  refine L_load_int ty3 (rfl : _ = w1) (h1.mono (e1.le.trans e11.le)) (by decide) ?_
  refine L_gt (e := 7) (by rfl) (by decide) (rfl : _ = Value.bool (y8)) hb15 ?_
  refine L_eql (rfl : _ = Value.int .i64 (a0.Peer)) (rfl : _ = Value.int .i64 (a1)) (by decide) ?_
  refine L_pick_t (rfl : _ = Value.bool (y8)) hb15 (rfl : _ = Value.bool (decide (a0.Peer = a1))) (by decide) ?_
  refine L_move (rfl : _ = Value.bool (decide (a0.Peer = a1))) (by decide) ?_
  rcases Bool.eq_false_or_eq_true (decide (a0.Peer = a1)) with hb18 | hb18
  ·have hr := ite_t hb18 hr
   refine L_gt (e := 13) (by rfl) (by decide) (rfl : _ = Value.bool (decide (a0.Peer = a1))) hb18 ?_
   refine L_load ty64 (rfl : _ = p2) (hp3.mono e11.le) (by decide) ?_
   intro v19 hv20
   refine L_gt (e := 13) (by rfl) (by decide) (rfl : _ = Value.bool (decide (a0.Peer = a1))) hb18 ?_
   refine L_load ty64 (rfl : _ = w2) (h2.mono (e1.le.trans e11.le)) (by decide) ?_
   intro v21 hv22
   refine L_gt (e := 13) (by rfl) (by decide) (rfl : _ = Value.bool (decide (a0.Peer = a1))) hb18 ?_
   obtain ⟨y23, hy24, hr⟩ := bind_some hr
   refine L_calls cal41 (args2 (rfl : _ = v19) (rfl : _ = v21)) (dead_fits_ok N _ _ _ hv20 _ _ hv22 y23 hy24) (by decide) ?_
   intro v25 s28 e26 hv27
   have hE29 := Tch.ext hE14 e26
   obtain rfl := hv27.bool
   refine L_pick_t (rfl : _ = Value.bool (decide (a0.Peer = a1))) hb18 (rfl : _ = Value.bool (y23)) (by decide) ?_
   refine L_assign (rfl : _ = Value.bool (y23)) (by decide) ?_
   refine L_nil ?_
   refine then_n ?_
   refine W_ret ?_
   obtain rfl := Option.some.inj hr
   exact done1 (Or.inl rfl) Try.results39 rfl ⟨_, _, rfl, rfl, hE29, Vbool⟩
  ·have hr := ite_f hb18 hr
   refine L_gf (e := 13) (by rfl) (by decide) (rfl : _ = Value.bool (decide (a0.Peer = a1))) hb18 (by decide) ?_
   refine L_gf (e := 13) (by rfl) (by decide) (rfl : _ = Value.bool (decide (a0.Peer = a1))) hb18 (by decide) ?_
   refine L_gf (e := 13) (by rfl) (by decide) (rfl : _ = Value.bool (decide (a0.Peer = a1))) hb18 (by decide) ?_
   refine L_pick_f (rfl : _ = Value.bool (decide (a0.Peer = a1))) hb18 (rfl : _ = Value.bool (false)) (by decide) ?_
   refine L_assign (rfl : _ = Value.bool (false)) (by decide) ?_
   refine L_nil ?_
   refine then_n ?_
   refine W_ret ?_
   obtain rfl := Option.some.inj hr
   exact done1 (Or.inl rfl) Try.results39 rfl ⟨_, _, rfl, rfl, hE14, Vbool⟩
 ·have hr := ite_f hb15 hr
  refine L_gf (e := 7) (by rfl) (by decide) (rfl : _ = Value.bool (y8)) hb15 (by decide) ?_
  refine L_gf (e := 7) (by rfl) (by decide) (rfl : _ = Value.bool (y8)) hb15 (by decide) ?_
  refine L_gf (e := 7) (by rfl) (by decide) (rfl : _ = Value.bool (y8)) hb15 (by decide) ?_
  refine L_gf (e := 7) (by rfl) (by decide) (rfl : _ = Value.bool (y8)) hb15 (by decide) ?_
  refine L_pick_f (rfl : _ = Value.bool (y8)) hb15 (rfl : _ = Value.bool (false)) (by decide) ?_
  refine L_move (rfl : _ = Value.bool (false)) (by decide) ?_
  refine L_gf (e := 13) (by rfl) (by decide) (rfl : _ = Value.bool (false)) rfl (by decide) ?_
  refine L_gf (e := 13) (by rfl) (by decide) (rfl : _ = Value.bool (false)) rfl (by decide) ?_
  refine L_gf (e := 13) (by rfl) (by decide) (rfl : _ = Value.bool (false)) rfl (by decide) ?_
  refine L_pick_f (rfl : _ = Value.bool (false)) rfl (rfl : _ = Value.bool (false)) (by decide) ?_
  refine L_assign (rfl : _ = Value.bool (false)) (by decide) ?_
  refine L_nil ?_
  refine then_n ?_
  refine W_ret ?_
  obtain rfl := Option.some.inj hr
  exact done1 (Or.inl rfl) Try.results39 rfl ⟨_, _, rfl, rfl, hE14, Vbool⟩

end Go.Arm
