/- Each function of the program computes what its plain function says. -/
import Derived.Test.YtmojccilbgjngaaPrfT6c
namespace Go.Arm
open Go Go.RowKit Go.Proofs
theorem law08_DeadRoom_ok (N : Nat) (s0 : St) (w0 : Value) (a0 : List (List Deed)) (h0 : V s0 w0 a0) (r : Bool) (hr : law08_DeadRoom N a0 = some r) :
  Calls Try.prog 6 #[w0] s0.w (Ret s0 fun v s => V s v r) := by
 unfold law08_DeadRoom at hr
 have hE0 := Ext.refl s0
 refine Calls_of (n := 89) (args := [w0]) Try.func6 rfl rfl (by simp) ?_
 refine W_seq ?_
 refine W_region ?_
 refine L_assign (rfl : _ = Value.bool (false)) (by decide) ?_
 refine L_nil ?_
 refine then_n ?_
 refine W_seq ?_
 refine W_seq ?_
 refine W_region ?_
 refine L_move (rfl : _ = w0) (by decide) ?_
 obtain ⟨y1, hy2, hr⟩ := bind_some hr
 refine L_calls cal20 (args1 (rfl : _ = w0)) (law08_light_ok N _ _ _ h0 y1 hy2) (by decide) ?_
 intro v3 s6 e4 hv5
 have hE7 := Tch.ext hE0 e4
 obtain rfl := hv5.bool
 refine L_not (rfl : _ = Value.bool (y1)) (by decide) ?_
 refine L_nil ?_
 refine then_n ?_
 refine W_cond _ (rfl : _ = Value.bool (!y1)) (fun hb8 => ?_) (fun hb8 => ?_)
 ·have hr := ite_t hb8 hr
  refine W_seq ?_
  refine W_region ?_
  obtain ⟨y9, hy10, hr⟩ := bind_some hr
  refine L_calls cal10 (args0) (law08_works_ok N _  y9 hy10) (by decide) ?_
  intro v11 s14 e12 hv13
  have hE15 := Tch.ext hE7 e12
  obtain rfl := hv13.bool
  refine L_assign (rfl : _ = Value.bool (y9)) (by decide) ?_
  refine L_nil ?_
  refine then_n ?_
  refine W_ret ?_
  refine then_r ?_
  obtain rfl := Option.some.inj hr
  exact done1 (Or.inl rfl) Try.results6 rfl ⟨_, _, rfl, rfl, hE15, Vbool⟩
 ·have hr := ite_f hb8 hr
  refine W_skip ?_
  refine then_n ?_
  refine W_seq ?_
  refine W_region ?_
  refine L_move (rfl : _ = w0) (by decide) ?_
  obtain ⟨y16, hy17, hr⟩ := bind_some hr
  refine L_calls cal18 (args1 (rfl : _ = w0)) (dead_Decide_ok N _ _ _ (h0.mono e4.le) y16 hy17) (by decide) ?_
  intro v18 s21 e19 hv20
  have hE22 := Tch.ext hE7 e19
  obtain ⟨v23, v24, rfl, hv25, hv26⟩ := hv20
  obtain rfl := hv26.int
  refine L_move (rfl : _ = Value.tuple #[v23, Value.int .i64 (y16.2)]) (by decide) ?_
  refine L_extract (rfl : _ = Value.tuple #[v23, Value.int .i64 (y16.2)]) (k := 0) rfl (by decide) ?_
  refine L_extract (rfl : _ = Value.tuple #[v23, Value.int .i64 (y16.2)]) (k := 1) rfl (by decide) ?_
  refine L_alloc (α := Verdict) (x := ⟨0, 0⟩) zero40 Verdict.zero_rel (by decide) ?_
  intro s31 b28 e27 hb29 hv30
  have hE32 := Tch.ext hE22 e27
  refine L_store_ro ty40 (rfl : _ = Value.pointer (some ⟨b28, 0, none⟩)) (rfl : _ = v23) (hv25.mono e27.le) (hv30) ?_
  intro s35 e33 hv34
  have hE36 := Tch.trans hE32 e33 (fun k hk => Or.inr (by subst hk; exact (Nat.le_trans hE22.size hb29)))
  refine L_assign (rfl : _ = Value.int .i64 (y16.2)) (by decide) ?_
  refine L_nil ?_
  refine then_n ?_
  refine W_seq ?_
  refine W_seq ?_
  refine W_region ?_
  refine L_move (rfl : _ = Value.int .i64 (y16.2)) (by decide) ?_
  refine L_neq (rfl : _ = Value.int .i64 (y16.2)) (rfl : _ = Value.int .i64 (0)) (by decide) ?_
  refine L_nil ?_
  refine then_n ?_
  refine W_cond _ (rfl : _ = Value.bool (!decide (y16.2 = 0))) (fun hb37 => ?_) (fun hb37 => ?_)
  ·have hr := ite_t hb37 hr
   refine W_seq ?_
   refine W_region ?_
   refine L_assign (rfl : _ = Value.bool (false)) (by decide) ?_
   refine L_nil ?_
   refine then_n ?_
   refine W_ret ?_
   refine then_r ?_
   obtain rfl := Option.some.inj hr
   exact done1 (Or.inl rfl) Try.results6 rfl ⟨_, _, rfl, rfl, hE36, Vbool⟩
  ·have hr := ite_f hb37 hr
   refine W_skip ?_
   refine then_n ?_
   refine W_seq ?_
   refine W_region ?_
   refine L_assign (rfl : _ = Value.slice none 0 0) (by decide) ?_
   refine L_nil ?_
   refine then_n ?_
   refine W_seq ?_
   refine W_seq ?_
   refine W_region ?_
   refine L_move (rfl : _ = Value.int .i64 (0)) (by decide) ?_
   refine L_nil ?_
   refine then_n ?_
   obtain ⟨o41, ho42, hq44⟩ := bind_some hr
   refine W_cut (fun f w => ∃ (s : St), s.w = w ∧ Ext s0 s ∧ Le s35 s ∧ Sum.inl () = o41 ∧ f 3 = Value.pointer (some ⟨b28, 0, none⟩)) ?_ ?_
   ·refine W_block ?_
    refine W_loop (fun m f w => ∃ (s : St) (v39 : Value) (x38 : List Int) (x40 : Int), s.w = w ∧ Ext s0 s ∧ Le s35 s ∧ law08_DeadRoom_l1 N a0 y16 m x38 x40 = some o41 ∧ f 5 = v39 ∧ V s v39 x38 ∧ f 23 = Value.int .i64 x40 ∧ f 0 = w0 ∧ f 3 = Value.pointer (some ⟨b28, 0, none⟩)) N ⟨s35, (Value.slice none 0 0), ([]), 0, rfl, hE36, (Le.refl _), ho42, rfl, Vnil, rfl, rfl, rfl⟩ ?_
    rintro m43 f211 w212 ⟨s46, v39, x38, x40, rfl, hE48, l47, hr, g49_5, hv50, g49_23, g49_0, g49_3⟩
    cases m43 with
    | zero => exact absurd hr (by simp [law08_DeadRoom_l1])
    | succ m43 =>
     rw [law08_DeadRoom_l1.eq_2] at hr
     refine W_seq ?_
     refine W_region ?_
     refine L_lss g49_23 (rfl : _ = Value.int .i64 (23)) (by decide) ?_
     refine L_nil ?_
     refine then_n ?_
     refine W_seq ?_
     refine W_cond _ (rfl : _ = Value.bool (decide (x40 < 23))) (fun hb51 => ?_) (fun hb51 => ?_)
     ·have hr := ite_t hb51 hr
      refine W_skip ?_
      refine then_n ?_
      refine W_seq ?_
      refine W_block ?_
      refine W_seq ?_
      refine W_region ?_
      refine L_move g49_23 (by decide) ?_
      refine L_assign (rfl : _ = Value.int .i64 (x40)) (by decide) ?_
      refine L_nil ?_
      refine then_n ?_
      refine W_seq ?_
      refine W_region ?_
      refine L_move g49_0 (by decide) ?_
      refine L_move (rfl : _ = Value.int .i64 (x40)) (by decide) ?_
      obtain ⟨y52, hy53, hr⟩ := bind_some hr
      refine L_calls cal21 (args2 (rfl : _ = w0) (rfl : _ = Value.int .i64 (x40))) (law08_ends_ok N _ _ _ (h0.mono (e4.le.trans (e19.le.trans (e27.le.trans (e33.le.trans l47))))) x40 y52 hy53) (by decide) ?_
      intro v54 s57 e55 hv56
      have hE58 := Tch.ext hE48 e55
      obtain ⟨v59, v60, v61, rfl, hv62, hv63, hv64⟩ := hv56
      obtain rfl := hv63.bool
      obtain rfl := hv64.bool
      refine L_move (rfl : _ = Value.tuple #[v59, Value.bool (y52.2.1), Value.bool (y52.2.2)]) (by decide) ?_
      refine L_extract (rfl : _ = Value.tuple #[v59, Value.bool (y52.2.1), Value.bool (y52.2.2)]) (k := 0) rfl (by decide) ?_
      refine L_extract (rfl : _ = Value.tuple #[v59, Value.bool (y52.2.1), Value.bool (y52.2.2)]) (k := 1) rfl (by decide) ?_
      refine L_extract (rfl : _ = Value.tuple #[v59, Value.bool (y52.2.1), Value.bool (y52.2.2)]) (k := 2) rfl (by decide) ?_
      refine L_assign (rfl : _ = v59) (by decide) ?_
      refine L_assign (rfl : _ = Value.bool (y52.2.1)) (by decide) ?_
      refine L_assign (rfl : _ = Value.bool (y52.2.2)) (by decide) ?_
      refine L_nil ?_
      refine then_n ?_
      refine W_seq ?_
      refine W_seq ?_
      refine W_region ?_
      refine L_move (rfl : _ = Value.bool (y52.2.2)) (by decide) ?_
      refine L_not (rfl : _ = Value.bool (y52.2.2)) (by decide) ?_
      refine L_nil ?_
      refine then_n ?_
      refine W_cond _ (rfl : _ = Value.bool (!y52.2.2)) (fun hb65 => ?_) (fun hb65 => ?_)
      ·have hr := ite_t hb65 hr
       refine W_seq ?_
       refine W_region ?_
       refine L_assign (rfl : _ = Value.bool (false)) (by decide) ?_
       refine L_nil ?_
       refine then_n ?_
       refine W_ret ?_
       refine then_r ?_
       refine block_r ?_
       refine then_r ?_
       refine then_r ?_
       refine block_r ?_
       obtain rfl := Option.some.inj hr
       have hr := hq44
       try dsimp only at hr
       refine then_r ?_
       refine then_r ?_
       obtain rfl := Option.some.inj hr
       exact done1 (Or.inl rfl) Try.results6 rfl ⟨_, _, rfl, rfl, hE58, Vbool⟩
      ·have hr := ite_f hb65 hr
       refine W_skip ?_
       refine then_n ?_
       refine W_seq ?_
       refine W_seq ?_
       refine W_region ?_
       refine L_move g49_5 (by decide) ?_
       refine L_len Try.underlying23 (rfl : _ = v39) (hv50.mono e55.le) (by decide) ?_
       refine L_move (rfl : _ = Value.int .i64 (0)) (by decide) ?_
       refine L_nil ?_
       refine then_n ?_
       obtain ⟨o67, ho68, hq70⟩ := bind_some hr
       refine W_cut (fun f w => ∃ (s : St), s.w = w ∧ Ext s0 s ∧ Le s57 s ∧ Sum.inl () = o67 ∧ f 0 = w0 ∧ f 3 = Value.pointer (some ⟨b28, 0, none⟩) ∧ f 6 = Value.int .i64 (x40) ∧ f 7 = v59 ∧ f 8 = Value.bool (y52.2.1) ∧ f 23 = Value.int .i64 (x40)) ?_ ?_
       ·refine W_block ?_
        refine W_loop (fun m f w => ∃ (s : St) (x66 : Int), s.w = w ∧ Ext s0 s ∧ Le s57 s ∧ law08_DeadRoom_l2 N x38 y52 m x66 = some o67 ∧ f 37 = Value.int .i64 x66 ∧ f 0 = w0 ∧ f 3 = Value.pointer (some ⟨b28, 0, none⟩) ∧ f 5 = v39 ∧ f 6 = Value.int .i64 (x40) ∧ f 7 = v59 ∧ f 8 = Value.bool (y52.2.1) ∧ f 23 = Value.int .i64 (x40) ∧ f 36 = Value.int .i64 ((x38.length : Int))) N ⟨s57, 0, rfl, hE58, (Le.refl _), ho68, rfl, g49_0, g49_3, g49_5, rfl, rfl, rfl, g49_23, rfl⟩ ?_
        rintro m69 f183 w184 ⟨s72, x66, rfl, hE74, l73, hr, g75_37, g75_0, g75_3, g75_5, g75_6, g75_7, g75_8, g75_23, g75_36⟩
        cases m69 with
        | zero => exact absurd hr (by simp [law08_DeadRoom_l2])
        | succ m69 =>
         rw [law08_DeadRoom_l2.eq_2] at hr
         refine W_seq ?_
         refine W_region ?_
         refine L_lss g75_37 g75_36 (by decide) ?_
         refine L_nil ?_
         refine then_n ?_
         refine W_seq ?_
         refine W_cond _ (rfl : _ = Value.bool (decide (x66 < (x38.length : Int)))) (fun hb76 => ?_) (fun hb76 => ?_)
         ·have hr := ite_t hb76 hr
          refine W_skip ?_
          refine then_n ?_
          refine W_seq ?_
          refine W_block ?_
          refine W_seq ?_
          refine W_region ?_
          refine L_move g75_37 (by decide) ?_
          refine L_assign (rfl : _ = Value.int .i64 (x66)) (by decide) ?_
          refine L_nil ?_
          refine then_n ?_
          refine W_seq ?_
          obtain ⟨y77, hy78, hr⟩ := bind_some hr
          obtain ⟨y81, hy82, hr⟩ := bind_some hr
          refine W_draws mixed (by kernel_rfl) [PV.data (y52.1 : List Int), PV.eq (Value.int .i64 (x66)), PV.ptr (y77 : Int), PV.eq (Value.int .i64 (y77)), PV.data (x38 : List Int), PV.eq (Value.int .i64 (x66)), PV.ptr (y81 : Int), PV.eq (Value.int .i64 (y81)), PV.eq (Value.bool (decide (y77 < y81)))] (Steps_cons ?_ (Steps_cons ?_ (Steps_cons ?_ (Steps_cons ?_ (Steps_cons ?_ (Steps_cons ?_ (Steps_cons ?_ (Steps_cons ?_ (Steps_cons ?_ Steps_nil))))))))) ?_
          ·intro f87 s85 e86 hA88 hB89 Q hk90
           have ha91 : f87 7 = v59 := (hB89 7 (by kernel_rfl)).trans g75_7
           refine L_move ha91 (by decide) ?_
           exact L_nil (hk90 _ _ (Ext.refl s85) (hv62.mono (l73.trans e86.le)))
          ·intro f94 s92 e93 hA95 hB96 Q hk97
           have ha98 : f94 10 = Value.int .i64 (x66) := (hB96 10 (by kernel_rfl)).trans rfl
           refine L_move ha98 (by decide) ?_
           exact L_nil (hk97 _ _ (Ext.refl s92) rfl)
          ·intro f101 s99 e100 hA102 hB103 Q hk104
           have ha105 : V _ (f101 40) (y52.1 : List Int) := hA102 0 40 (by kernel_rfl) (by kernel_rfl)
           obtain ⟨v106, q107, hv108⟩ : ∃ v, _ = v ∧ V _ v _ := ⟨_, rfl, ha105⟩
           have ha109 : f101 41 = Value.int .i64 (x66) := hA102 1 41 (by kernel_rfl) (by kernel_rfl)
           refine L_index Try.underlying23 ty3.inf q107 hv108 ha109 hy78 (by decide) ?_
           intro p79 hp80
           exact L_nil (hk104 _ _ (Ext.refl s99) hp80)
          ·intro f112 s110 e111 hA113 hB114 Q hk115
           have ha116 : Ptr _ (f112 42) (y77 : Int) := hA113 2 42 (by kernel_rfl) (by kernel_rfl)
           obtain ⟨v117, q118, hv119⟩ : ∃ v, _ = v ∧ Ptr _ v _ := ⟨_, rfl, ha116⟩
           refine L_load_int ty3 q118 hv119 (by decide) ?_
           exact L_nil (hk115 _ _ (Ext.refl s110) rfl)
          ·intro f122 s120 e121 hA123 hB124 Q hk125
           have ha126 : f122 5 = v39 := (hB124 5 (by kernel_rfl)).trans g75_5
           refine L_move ha126 (by decide) ?_
           exact L_nil (hk125 _ _ (Ext.refl s120) (hv50.mono (e55.le.trans (l73.trans e121.le))))
          ·intro f129 s127 e128 hA130 hB131 Q hk132
           have ha133 : f129 10 = Value.int .i64 (x66) := (hB131 10 (by kernel_rfl)).trans rfl
           refine L_move ha133 (by decide) ?_
           exact L_nil (hk132 _ _ (Ext.refl s127) rfl)
          ·intro f136 s134 e135 hA137 hB138 Q hk139
           have ha140 : V _ (f136 44) (x38 : List Int) := hA137 4 44 (by kernel_rfl) (by kernel_rfl)
           obtain ⟨v141, q142, hv143⟩ : ∃ v, _ = v ∧ V _ v _ := ⟨_, rfl, ha140⟩
           have ha144 : f136 45 = Value.int .i64 (x66) := hA137 5 45 (by kernel_rfl) (by kernel_rfl)
           refine L_index Try.underlying23 ty3.inf q142 hv143 ha144 hy82 (by decide) ?_
           intro p83 hp84
           exact L_nil (hk139 _ _ (Ext.refl s134) hp84)
          ·intro f147 s145 e146 hA148 hB149 Q hk150
           have ha151 : Ptr _ (f147 46) (y81 : Int) := hA148 6 46 (by kernel_rfl) (by kernel_rfl)
           obtain ⟨v152, q153, hv154⟩ : ∃ v, _ = v ∧ Ptr _ v _ := ⟨_, rfl, ha151⟩
           refine L_load_int ty3 q153 hv154 (by decide) ?_
           exact L_nil (hk150 _ _ (Ext.refl s145) rfl)
          ·intro f157 s155 e156 hA158 hB159 Q hk160
           have ha161 : f157 43 = Value.int .i64 (y77) := hA158 3 43 (by kernel_rfl) (by kernel_rfl)
           have ha162 : f157 47 = Value.int .i64 (y81) := hA158 7 47 (by kernel_rfl) (by kernel_rfl)
           refine L_lss ha161 ha162 (by decide) ?_
           exact L_nil (hk160 _ _ (Ext.refl s155) rfl)
          ·intro f165 s163 e164 hA166 hB167
           have hE168 := Tch.ext hE74 e164
           have ha169 : f165 0 = w0 := (hB167 0 (by kernel_rfl)).trans g75_0
           have ha170 : f165 3 = Value.pointer (some ⟨b28, 0, none⟩) := (hB167 3 (by kernel_rfl)).trans g75_3
           have ha171 : f165 5 = v39 := (hB167 5 (by kernel_rfl)).trans g75_5
           have ha172 : f165 6 = Value.int .i64 (x40) := (hB167 6 (by kernel_rfl)).trans g75_6
           have ha173 : f165 7 = v59 := (hB167 7 (by kernel_rfl)).trans g75_7
           have ha174 : f165 8 = Value.bool (y52.2.1) := (hB167 8 (by kernel_rfl)).trans g75_8
           have ha175 : f165 23 = Value.int .i64 (x40) := (hB167 23 (by kernel_rfl)).trans g75_23
           have ha176 : f165 36 = Value.int .i64 ((x38.length : Int)) := (hB167 36 (by kernel_rfl)).trans g75_36
           have ha177 : f165 37 = Value.int .i64 (x66) := (hB167 37 (by kernel_rfl)).trans g75_37
           have ha178 : f165 48 = Value.bool (decide (y77 < y81)) := hA166 8 48 (by kernel_rfl)
           refine then_n ?_
           refine W_cond _ ha178 (fun hb179 => ?_) (fun hb179 => ?_)
           ·have hr := ite_t hb179 hr
            refine W_seq ?_
            refine W_region ?_
            refine L_assign (rfl : _ = Value.bool (false)) (by decide) ?_
            refine L_nil ?_
            refine then_n ?_
            refine W_ret ?_
            refine block_r ?_
            refine then_r ?_
            refine then_r ?_
            refine block_r ?_
            obtain rfl := Option.some.inj hr
            have hr := hq70
            try dsimp only at hr
            refine then_r ?_
            refine then_r ?_
            refine block_r ?_
            refine then_r ?_
            refine then_r ?_
            refine block_r ?_
            obtain rfl := Option.some.inj hr
            have hr := hq44
            try dsimp only at hr
            refine then_r ?_
            refine then_r ?_
            obtain rfl := Option.some.inj hr
            exact done1 (Or.inl rfl) Try.results6 rfl ⟨_, _, rfl, rfl, hE168, Vbool⟩
           ·have hr := ite_f hb179 hr
            refine W_skip ?_
            refine block_n ?_
            refine then_n ?_
            refine W_region ?_
            obtain ⟨hc180, hr⟩ := chk_some hr
            refine L_add ha177 (rfl : _ = Value.int .i64 (1)) hc180 (by decide) ?_
            refine L_move (rfl : _ = Value.int .i64 (x66 + 1)) (by decide) ?_
            refine L_nil ?_
            exact then_n ⟨m69, Nat.lt_succ_self _, ⟨s163, (x66 + 1), rfl, hE168, (l73.trans e164.le), hr, rfl, ha169, ha170, ha171, ha172, ha173, ha174, ha175, ha176⟩⟩
         ·have hr := ite_f hb76 hr
          refine W_exit ?_
          refine then_x ?_
          refine then_x ?_
          refine block_here ?_
          exact then_n ⟨s72, rfl, hE74, l73, Option.some.inj hr, g75_0, g75_3, g75_6, g75_7, g75_8, g75_23⟩
       ·rintro f181 w182 ⟨s185, rfl, hE187, l186, ho68, g188_0, g188_3, g188_6, g188_7, g188_8, g188_23⟩
        subst ho68
        have hr := hq70
        try dsimp only at hr
        refine then_n ?_
        refine W_seq ?_
        refine W_region ?_
        refine L_move g188_7 (by decide) ?_
        refine L_assign (rfl : _ = v59) (by decide) ?_
        refine L_nil ?_
        refine then_n ?_
        obtain ⟨o190, ho191, hq192⟩ := bind_some hr
        refine W_seq_cut (fun f w => ∃ (s : St) (x189 : Bool), s.w = w ∧ Ext s0 s ∧ Le s185 s ∧ x189 = o190 ∧ f 11 = Value.bool x189 ∧ f 0 = w0 ∧ f 3 = Value.pointer (some ⟨b28, 0, none⟩) ∧ f 5 = v59 ∧ f 8 = Value.bool (y52.2.1) ∧ f 23 = Value.int .i64 (x40)) ?_ ?_
        ·have hr := ho191
         refine W_region ?_
         refine L_fieldAddr fld40_0 Verdict.of_Kind g188_3 (hv34.mono (l47.trans (e55.le.trans l186))) (by decide) ?_
         intro p193 hp194
         refine L_load_int ty3 (rfl : _ = p193) hp194 (by decide) ?_
         refine L_eql (rfl : _ = Value.int .i64 (y16.1.Kind)) (rfl : _ = Value.int .i64 (1)) (by decide) ?_
         refine L_move (rfl : _ = Value.bool (decide (y16.1.Kind = 1))) (by decide) ?_
         rcases Bool.eq_false_or_eq_true (decide (y16.1.Kind = 1)) with hb195 | hb195
         ·have hr := ite_t hb195 hr
          refine L_gf (e := 54) (by rfl) (by decide) (rfl : _ = Value.bool (decide (y16.1.Kind = 1))) hb195 (by decide) ?_
          refine L_gf (e := 54) (by rfl) (by decide) (rfl : _ = Value.bool (decide (y16.1.Kind = 1))) hb195 (by decide) ?_
          refine L_gf (e := 54) (by rfl) (by decide) (rfl : _ = Value.bool (decide (y16.1.Kind = 1))) hb195 (by decide) ?_
          refine L_gf (e := 54) (by rfl) (by decide) (rfl : _ = Value.bool (decide (y16.1.Kind = 1))) hb195 (by decide) ?_
          refine L_gu (e := 58) (by rfl) (rfl : _ = undef) (by decide) ?_
          refine L_gu (e := 58) (by rfl) (rfl : _ = undef) (by decide) ?_
          refine L_gu (e := 58) (by rfl) (rfl : _ = undef) (by decide) ?_
          refine L_gu (e := 58) (by rfl) (rfl : _ = undef) (by decide) ?_
          refine L_gf (e := 54) (by rfl) (by decide) (rfl : _ = Value.bool (decide (y16.1.Kind = 1))) hb195 (by decide) ?_
          refine L_pick_t (rfl : _ = Value.bool (decide (y16.1.Kind = 1))) hb195 (rfl : _ = Value.bool (true)) (by decide) ?_
          refine L_assign (rfl : _ = Value.bool (true)) (by decide) ?_
          refine L_nil ?_
          exact then_n ⟨s185, true, rfl, hE187, (Le.refl _), Option.some.inj hr, rfl, g188_0, g188_3, rfl, g188_8, g188_23⟩
         ·have hr := ite_f hb195 hr
          refine L_gt (e := 54) (by rfl) (by decide) (rfl : _ = Value.bool (decide (y16.1.Kind = 1))) hb195 ?_
          refine L_fieldAddr fld40_0 Verdict.of_Kind g188_3 (hv34.mono (l47.trans (e55.le.trans l186))) (by decide) ?_
          intro p196 hp197
          refine L_gt (e := 54) (by rfl) (by decide) (rfl : _ = Value.bool (decide (y16.1.Kind = 1))) hb195 ?_
          refine L_load_int ty3 (rfl : _ = p196) hp197 (by decide) ?_
          refine L_gt (e := 54) (by rfl) (by decide) (rfl : _ = Value.bool (decide (y16.1.Kind = 1))) hb195 ?_
          refine L_eql (rfl : _ = Value.int .i64 (y16.1.Kind)) (rfl : _ = Value.int .i64 (2)) (by decide) ?_
          refine L_gt (e := 54) (by rfl) (by decide) (rfl : _ = Value.bool (decide (y16.1.Kind = 1))) hb195 ?_
          refine L_move (rfl : _ = Value.bool (decide (y16.1.Kind = 2))) (by decide) ?_
          rcases Bool.eq_false_or_eq_true (decide (y16.1.Kind = 2)) with hb198 | hb198
          ·have hr := ite_t hb198 hr
           refine L_gt (e := 58) (by rfl) (by decide) (rfl : _ = Value.bool (decide (y16.1.Kind = 2))) hb198 ?_
           refine L_move g188_6 (by decide) ?_
           refine L_gt (e := 58) (by rfl) (by decide) (rfl : _ = Value.bool (decide (y16.1.Kind = 2))) hb198 ?_
           refine L_fieldAddr fld40_1 Verdict.of_Room g188_3 (hv34.mono (l47.trans (e55.le.trans l186))) (by decide) ?_
           intro p199 hp200
           refine L_gt (e := 58) (by rfl) (by decide) (rfl : _ = Value.bool (decide (y16.1.Kind = 2))) hb198 ?_
           refine L_load_int ty3 (rfl : _ = p199) hp200 (by decide) ?_
           refine L_gt (e := 58) (by rfl) (by decide) (rfl : _ = Value.bool (decide (y16.1.Kind = 2))) hb198 ?_
           refine L_geq (rfl : _ = Value.int .i64 (x40)) (rfl : _ = Value.int .i64 (y16.1.Room)) (by decide) ?_
           refine L_gt (e := 54) (by rfl) (by decide) (rfl : _ = Value.bool (decide (y16.1.Kind = 1))) hb195 ?_
           refine L_pick_t (rfl : _ = Value.bool (decide (y16.1.Kind = 2))) hb198 (rfl : _ = Value.bool (decide (y16.1.Room ≤ x40))) (by decide) ?_
           refine L_pick_f (rfl : _ = Value.bool (decide (y16.1.Kind = 1))) hb195 (rfl : _ = Value.bool (decide (y16.1.Room ≤ x40))) (by decide) ?_
           refine L_assign (rfl : _ = Value.bool (decide (y16.1.Room ≤ x40))) (by decide) ?_
           refine L_nil ?_
           exact then_n ⟨s185, (decide (y16.1.Room ≤ x40)), rfl, hE187, (Le.refl _), Option.some.inj hr, rfl, g188_0, g188_3, rfl, g188_8, g188_23⟩
          ·have hr := ite_f hb198 hr
           refine L_gf (e := 58) (by rfl) (by decide) (rfl : _ = Value.bool (decide (y16.1.Kind = 2))) hb198 (by decide) ?_
           refine L_gf (e := 58) (by rfl) (by decide) (rfl : _ = Value.bool (decide (y16.1.Kind = 2))) hb198 (by decide) ?_
           refine L_gf (e := 58) (by rfl) (by decide) (rfl : _ = Value.bool (decide (y16.1.Kind = 2))) hb198 (by decide) ?_
           refine L_gf (e := 58) (by rfl) (by decide) (rfl : _ = Value.bool (decide (y16.1.Kind = 2))) hb198 (by decide) ?_
           refine L_gt (e := 54) (by rfl) (by decide) (rfl : _ = Value.bool (decide (y16.1.Kind = 1))) hb195 ?_
           refine L_pick_f (rfl : _ = Value.bool (decide (y16.1.Kind = 2))) hb198 (rfl : _ = Value.bool (false)) (by decide) ?_
           refine L_pick_f (rfl : _ = Value.bool (decide (y16.1.Kind = 1))) hb195 (rfl : _ = Value.bool (false)) (by decide) ?_
           refine L_assign (rfl : _ = Value.bool (false)) (by decide) ?_
           refine L_nil ?_
           exact then_n ⟨s185, false, rfl, hE187, (Le.refl _), Option.some.inj hr, rfl, g188_0, g188_3, rfl, g188_8, g188_23⟩
        ·rintro f207 w208 ⟨s201, x189, rfl, hE203, l202, ho191, g204_11, g204_0, g204_3, g204_5, g204_8, g204_23⟩
         subst ho191
         have hr := hq192
         try dsimp only at hr
         refine W_seq ?_
         refine W_region ?_
         refine L_move g204_8 (by decide) ?_
         refine L_move g204_11 (by decide) ?_
         refine L_bne Try.underlying4 (rfl : _ = Value.bool (y52.2.1)) (rfl : _ = Value.bool (x189)) (by decide) ?_
         refine L_nil ?_
         refine then_n ?_
         refine W_cond _ (rfl : _ = Value.bool (!(y52.2.1 == x189))) (fun hb205 => ?_) (fun hb205 => ?_)
         ·have hr := ite_t hb205 hr
          refine W_seq ?_
          refine W_region ?_
          refine L_assign (rfl : _ = Value.bool (false)) (by decide) ?_
          refine L_nil ?_
          refine then_n ?_
          refine W_ret ?_
          refine block_r ?_
          refine then_r ?_
          refine then_r ?_
          refine block_r ?_
          obtain rfl := Option.some.inj hr
          have hr := hq44
          try dsimp only at hr
          refine then_r ?_
          refine then_r ?_
          obtain rfl := Option.some.inj hr
          exact done1 (Or.inl rfl) Try.results6 rfl ⟨_, _, rfl, rfl, hE203, Vbool⟩
         ·have hr := ite_f hb205 hr
          refine W_skip ?_
          refine block_n ?_
          refine then_n ?_
          refine W_region ?_
          obtain ⟨hc206, hr⟩ := chk_some hr
          refine L_add g204_23 (rfl : _ = Value.int .i64 (1)) hc206 (by decide) ?_
          refine L_move (rfl : _ = Value.int .i64 (x40 + 1)) (by decide) ?_
          refine L_nil ?_
          exact then_n ⟨m43, Nat.lt_succ_self _, ⟨s201, v59, y52.1, (x40 + 1), rfl, hE203, (l47.trans (e55.le.trans (l186.trans l202))), hr, g204_5, (hv62.mono (l186.trans l202)), rfl, g204_0, g204_3⟩⟩
     ·have hr := ite_f hb51 hr
      refine W_exit ?_
      refine then_x ?_
      refine then_x ?_
      refine block_here ?_
      exact then_n ⟨s46, rfl, hE48, l47, Option.some.inj hr, g49_3⟩
   ·rintro f209 w210 ⟨s213, rfl, hE215, l214, ho42, g216_3⟩
    subst ho42
    have hr := hq44
    try dsimp only at hr
    refine then_n ?_
    refine W_seq ?_
    refine W_region ?_
    refine L_fieldAddr fld40_0 Verdict.of_Kind g216_3 (hv34.mono l214) (by decide) ?_
    intro p217 hp218
    refine L_load_int ty3 (rfl : _ = p217) hp218 (by decide) ?_
    refine L_eql (rfl : _ = Value.int .i64 (y16.1.Kind)) (rfl : _ = Value.int .i64 (2)) (by decide) ?_
    refine L_fieldAddr fld40_1 Verdict.of_Room g216_3 (hv34.mono l214) (by decide) ?_
    intro p219 hp220
    refine L_load_int ty3 (rfl : _ = p219) hp220 (by decide) ?_
    refine L_gtr (rfl : _ = Value.int .i64 (y16.1.Room)) (rfl : _ = Value.int .i64 (0)) (by decide) ?_
    refine L_beq Try.underlying4 (rfl : _ = Value.bool (decide (y16.1.Kind = 2))) (rfl : _ = Value.bool (decide (0 < y16.1.Room))) (by decide) ?_
    refine L_move (rfl : _ = Value.bool (((decide (y16.1.Kind = 2)) == (decide (0 < y16.1.Room))))) (by decide) ?_
    rcases Bool.eq_false_or_eq_true (((decide (y16.1.Kind = 2)) == (decide (0 < y16.1.Room)))) with hb221 | hb221
    ·have hr := ite_t hb221 hr
     refine L_gt (e := 76) (by rfl) (by decide) (rfl : _ = Value.bool (((decide (y16.1.Kind = 2)) == (decide (0 < y16.1.Room))))) hb221 ?_
     refine L_fieldAddr fld40_0 Verdict.of_Kind g216_3 (hv34.mono l214) (by decide) ?_
     intro p222 hp223
     refine L_gt (e := 76) (by rfl) (by decide) (rfl : _ = Value.bool (((decide (y16.1.Kind = 2)) == (decide (0 < y16.1.Room))))) hb221 ?_
     refine L_load_int ty3 (rfl : _ = p222) hp223 (by decide) ?_
     refine L_gt (e := 76) (by rfl) (by decide) (rfl : _ = Value.bool (((decide (y16.1.Kind = 2)) == (decide (0 < y16.1.Room))))) hb221 ?_
     refine L_geq (rfl : _ = Value.int .i64 (y16.1.Kind)) (rfl : _ = Value.int .i64 (1)) (by decide) ?_
     refine L_pick_t (rfl : _ = Value.bool (((decide (y16.1.Kind = 2)) == (decide (0 < y16.1.Room))))) hb221 (rfl : _ = Value.bool (decide (1 ≤ y16.1.Kind))) (by decide) ?_
     refine L_move (rfl : _ = Value.bool (decide (1 ≤ y16.1.Kind))) (by decide) ?_
     rcases Bool.eq_false_or_eq_true (decide (1 ≤ y16.1.Kind)) with hb224 | hb224
     ·have hr := ite_t hb224 hr
      refine L_gt (e := 81) (by rfl) (by decide) (rfl : _ = Value.bool (decide (1 ≤ y16.1.Kind))) hb224 ?_
      refine L_fieldAddr fld40_0 Verdict.of_Kind g216_3 (hv34.mono l214) (by decide) ?_
      intro p225 hp226
      refine L_gt (e := 81) (by rfl) (by decide) (rfl : _ = Value.bool (decide (1 ≤ y16.1.Kind))) hb224 ?_
      refine L_load_int ty3 (rfl : _ = p225) hp226 (by decide) ?_
      refine L_gt (e := 81) (by rfl) (by decide) (rfl : _ = Value.bool (decide (1 ≤ y16.1.Kind))) hb224 ?_
      refine L_leq (rfl : _ = Value.int .i64 (y16.1.Kind)) (rfl : _ = Value.int .i64 (3)) (by decide) ?_
      refine L_pick_t (rfl : _ = Value.bool (decide (1 ≤ y16.1.Kind))) hb224 (rfl : _ = Value.bool (decide (y16.1.Kind ≤ 3))) (by decide) ?_
      refine L_move (rfl : _ = Value.bool (decide (y16.1.Kind ≤ 3))) (by decide) ?_
      rcases Bool.eq_false_or_eq_true (decide (y16.1.Kind ≤ 3)) with hb227 | hb227
      ·have hr := ite_t hb227 hr
       refine L_gt (e := 86) (by rfl) (by decide) (rfl : _ = Value.bool (decide (y16.1.Kind ≤ 3))) hb227 ?_
       obtain ⟨y228, hy229, hr⟩ := bind_some hr
       refine L_calls cal10 (args0) (law08_works_ok N _  y228 hy229) (by decide) ?_
       intro v230 s233 e231 hv232
       have hE234 := Tch.ext hE215 e231
       obtain rfl := hv232.bool
       refine L_pick_t (rfl : _ = Value.bool (decide (y16.1.Kind ≤ 3))) hb227 (rfl : _ = Value.bool (y228)) (by decide) ?_
       refine L_assign (rfl : _ = Value.bool (y228)) (by decide) ?_
       refine L_nil ?_
       refine then_n ?_
       refine W_ret ?_
       obtain rfl := Option.some.inj hr
       exact done1 (Or.inl rfl) Try.results6 rfl ⟨_, _, rfl, rfl, hE234, Vbool⟩
      ·have hr := ite_f hb227 hr
       refine L_gf (e := 86) (by rfl) (by decide) (rfl : _ = Value.bool (decide (y16.1.Kind ≤ 3))) hb227 (by decide) ?_
       refine L_pick_f (rfl : _ = Value.bool (decide (y16.1.Kind ≤ 3))) hb227 (rfl : _ = Value.bool (false)) (by decide) ?_
       refine L_assign (rfl : _ = Value.bool (false)) (by decide) ?_
       refine L_nil ?_
       refine then_n ?_
       refine W_ret ?_
       obtain rfl := Option.some.inj hr
       exact done1 (Or.inl rfl) Try.results6 rfl ⟨_, _, rfl, rfl, hE215, Vbool⟩
     ·have hr := ite_f hb224 hr
      refine L_gf (e := 81) (by rfl) (by decide) (rfl : _ = Value.bool (decide (1 ≤ y16.1.Kind))) hb224 (by decide) ?_
      refine L_gf (e := 81) (by rfl) (by decide) (rfl : _ = Value.bool (decide (1 ≤ y16.1.Kind))) hb224 (by decide) ?_
      refine L_gf (e := 81) (by rfl) (by decide) (rfl : _ = Value.bool (decide (1 ≤ y16.1.Kind))) hb224 (by decide) ?_
      refine L_pick_f (rfl : _ = Value.bool (decide (1 ≤ y16.1.Kind))) hb224 (rfl : _ = Value.bool (false)) (by decide) ?_
      refine L_move (rfl : _ = Value.bool (false)) (by decide) ?_
      refine L_gf (e := 86) (by rfl) (by decide) (rfl : _ = Value.bool (false)) rfl (by decide) ?_
      refine L_pick_f (rfl : _ = Value.bool (false)) rfl (rfl : _ = Value.bool (false)) (by decide) ?_
      refine L_assign (rfl : _ = Value.bool (false)) (by decide) ?_
      refine L_nil ?_
      refine then_n ?_
      refine W_ret ?_
      obtain rfl := Option.some.inj hr
      exact done1 (Or.inl rfl) Try.results6 rfl ⟨_, _, rfl, rfl, hE215, Vbool⟩
    ·have hr := ite_f hb221 hr
     refine L_gf (e := 76) (by rfl) (by decide) (rfl : _ = Value.bool (((decide (y16.1.Kind = 2)) == (decide (0 < y16.1.Room))))) hb221 (by decide) ?_
     refine L_gf (e := 76) (by rfl) (by decide) (rfl : _ = Value.bool (((decide (y16.1.Kind = 2)) == (decide (0 < y16.1.Room))))) hb221 (by decide) ?_
     refine L_gf (e := 76) (by rfl) (by decide) (rfl : _ = Value.bool (((decide (y16.1.Kind = 2)) == (decide (0 < y16.1.Room))))) hb221 (by decide) ?_
     refine L_pick_f (rfl : _ = Value.bool (((decide (y16.1.Kind = 2)) == (decide (0 < y16.1.Room))))) hb221 (rfl : _ = Value.bool (false)) (by decide) ?_
     refine L_move (rfl : _ = Value.bool (false)) (by decide) ?_
     refine L_gf (e := 81) (by rfl) (by decide) (rfl : _ = Value.bool (false)) rfl (by decide) ?_
     refine L_gf (e := 81) (by rfl) (by decide) (rfl : _ = Value.bool (false)) rfl (by decide) ?_
     refine L_gf (e := 81) (by rfl) (by decide) (rfl : _ = Value.bool (false)) rfl (by decide) ?_
     refine L_pick_f (rfl : _ = Value.bool (false)) rfl (rfl : _ = Value.bool (false)) (by decide) ?_
     refine L_move (rfl : _ = Value.bool (false)) (by decide) ?_
     refine L_gf (e := 86) (by rfl) (by decide) (rfl : _ = Value.bool (false)) rfl (by decide) ?_
     refine L_pick_f (rfl : _ = Value.bool (false)) rfl (rfl : _ = Value.bool (false)) (by decide) ?_
     refine L_assign (rfl : _ = Value.bool (false)) (by decide) ?_
     refine L_nil ?_
     refine then_n ?_
     refine W_ret ?_
     obtain rfl := Option.some.inj hr
     exact done1 (Or.inl rfl) Try.results6 rfl ⟨_, _, rfl, rfl, hE215, Vbool⟩

end Go.Arm
