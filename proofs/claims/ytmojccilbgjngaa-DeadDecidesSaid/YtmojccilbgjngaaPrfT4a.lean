/- Each function of the program computes what its plain function says. -/
import Derived.Test.YtmojccilbgjngaaPureT4
import Derived.Test.YtmojccilbgjngaaCoreM
namespace Go.Arm
open Go Go.RowKit Go.Proofs
theorem law08_few_ok (N : Nat) (s0 : St) (w0 : Value) (a0 : List (List Deed)) (h0 : V s0 w0 a0) (r : Bool) (hr : law08_few N a0 = some r) :
    Calls Try.prog 9 #[w0] s0.w (Ret s0 fun v s => V s v r) := by
 unfold law08_few at hr
 have j0 := Ext.refl s0
 refine Calls_of (n := 45) (args := [w0]) Try.func9 rfl rfl (by simp) (sr (asg (rv (vb false)) (nn (W_seq ?_))))
 obtain ⟨j1, j2, j3⟩ := bind_some hr
 refine W_seq_cut (fun f w => ∃ (s : St) (j4 : Bool), s.w = w ∧ Ext s0 s ∧ Le s0 s ∧ j4 = j1 ∧ f 16 = vb j4 ∧ f 0 = w0) ?_ ?_
 ·have hr := j2
  refine W_region (mv (rv w0) (ln Try.underlying22 (rv w0) h0 (L_gtr (rv (vi ((a0.length : Int)))) (rv (vi 80)) (by decide) (mv (rv (vb (decide (80 < (a0.length : Int))))) ?_))))
  rcases tf (decide (80 < (a0.length : Int))) with j5 | j5
  ·have hr := ite_t j5 hr; exact gf 7 (rv (vb (decide (80 < (a0.length : Int))))) j5 (gf 7 (rv (vb (decide (80 < (a0.length : Int))))) j5 (gf 7 (rv (vb (decide (80 < (a0.length : Int))))) j5 (gf 7 (rv (vb (decide (80 < (a0.length : Int))))) j5 (L_gu (e := 11) (by rfl) (rv (undef)) (by decide) (L_gu (e := 11) (by rfl) (rv (undef)) (by decide) (L_gu (e := 11) (by rfl) (rv (undef)) (by decide) (gf 7 (rv (vb (decide (80 < (a0.length : Int))))) j5 (pt (rv (vb (decide (80 < (a0.length : Int))))) j5 (rv (vb true)) (nn ⟨s0, true, rfl, j0, (Le.refl _), Option.some.inj hr, rfl, rfl⟩)))))))))
  ·have hr := ite_f j5 hr
   refine gt 7 (rv (vb (decide (80 < (a0.length : Int))))) j5 (mv (rv w0) (gt 7 (rv (vb (decide (80 < (a0.length : Int))))) j5 (ln Try.underlying22 (rv w0) h0 (gt 7 (rv (vb (decide (80 < (a0.length : Int))))) j5 (L_gtr (rv (vi ((a0.length : Int)))) (rv (vi 6)) (by decide) (gt 7 (rv (vb (decide (80 < (a0.length : Int))))) j5 (mv (rv (vb (decide (6 < (a0.length : Int))))) ?_)))))))
   rcases tf (decide (6 < (a0.length : Int))) with j6 | j6
   ·have hr := ite_t j6 hr; exact gt 11 (rv (vb (decide (6 < (a0.length : Int))))) j6 (mv (rv w0) (gt 11 (rv (vb (decide (6 < (a0.length : Int))))) j6 (ln Try.underlying22 (rv w0) h0 (gt 11 (rv (vb (decide (6 < (a0.length : Int))))) j6 (L_leq (rv (vi ((a0.length : Int)))) (rv (vi 64)) (by decide) (gt 7 (rv (vb (decide (80 < (a0.length : Int))))) j5 (pt (rv (vb (decide (6 < (a0.length : Int))))) j6 (rv (vb (decide ((a0.length : Int) ≤ 64)))) (pf (rv (vb (decide (80 < (a0.length : Int))))) j5 (rv (vb (decide ((a0.length : Int) ≤ 64)))) (nn ⟨s0, (decide ((a0.length : Int) ≤ 64)), rfl, j0, (Le.refl _), Option.some.inj hr, rfl, rfl⟩)))))))))
   ·have hr := ite_f j6 hr; exact gf 11 (rv (vb (decide (6 < (a0.length : Int))))) j6 (gf 11 (rv (vb (decide (6 < (a0.length : Int))))) j6 (gf 11 (rv (vb (decide (6 < (a0.length : Int))))) j6 (gt 7 (rv (vb (decide (80 < (a0.length : Int))))) j5 (pf (rv (vb (decide (6 < (a0.length : Int))))) j6 (rv (vb false)) (pf (rv (vb (decide (80 < (a0.length : Int))))) j5 (rv (vb false)) (nn ⟨s0, false, rfl, j0, (Le.refl _), Option.some.inj hr, rfl, rfl⟩))))))
 ·rintro j5 j6 ⟨j7, j4, rfl, j8, j9, j2, ja, jb⟩
  subst j2
  have hr := j3
  try dsimp only at hr
  refine W_cond _ ja (fun jc => ?_) (fun jc => ?_)
  ·have hr := ite_t jc hr; refine sr (asg (rv (vb false)) (nn (W_ret (then_r ?_)))); obtain rfl := Option.some.inj hr; exact done1 (Or.inl rfl) Try.results9 rfl ⟨_, _, rfl, rfl, j8, Vbool⟩
  ·have hr := ite_f jc hr
   refine W_skip (then_n (W_seq (sr (asg (rv (vi 0)) (nn ?_)))))
   obtain ⟨jd, je, jf⟩ := bind_some hr
   refine W_cut (fun f w => ∃ (s : St), s.w = w ∧ Ext s0 s ∧ Le j7 s ∧ Sum.inl () = jd) ?_ ?_
   ·refine W_block (W_loop (fun m f w => ∃ (s : St) (jg : Int), s.w = w ∧ Ext s0 s ∧ Le j7 s ∧ law08_few_l1 N a0 m jg = some jd ∧ f 3 = vi jg ∧ f 0 = w0) N ⟨j7, 0, rfl, j8, (Le.refl _), je, rfl, jb⟩ ?_)
    rintro jh ji jj ⟨jk, jg, rfl, jl, jm, hr, jn, jo⟩
    cases jh with
    | zero => exact absurd hr (by simp [law08_few_l1])
    | succ jh =>
     rw [law08_few_l1.eq_2] at hr
     refine W_seq (sr (mv jn (mv jo (ln Try.underlying22 (rv w0) (h0.mono (j9.trans jm)) (ls (rv (vi jg)) (rv (vi ((a0.length : Int)))) (nn ?_))))))
     refine W_cond _ (rv (vb (decide (jg < (a0.length : Int))))) (fun jp => ?_) (fun jp => ?_)
     ·have hr := ite_t jp hr
      refine W_skip (then_n (W_seq (W_block ?_)))
      obtain ⟨jq, jr, js⟩ := bind_some hr
      refine W_seq_cut (fun f w => ∃ (s : St) (jt : Bool), s.w = w ∧ Ext s0 s ∧ Le jk s ∧ jt = jq ∧ f 44 = vb jt ∧ f 0 = w0 ∧ f 3 = vi (jg)) ?_ ?_
      ·have hr := jr
       refine W_region (mv jo (mv jn ?_))
       obtain ⟨ju, jv, hr⟩ := bind_some hr
       refine ix Try.underlying22 ty65.inf (rv w0) (h0.mono (j9.trans jm)) (rv (vi jg)) jv (fun jw jx => ld ty65 (rv jw) jx (fun jy jz => ln Try.underlying65 (rv jy) jz (L_gtr (rv (vi ((ju.length : Int)))) (rv (vi 14)) (by decide) (mv (rv (vb (decide (14 < (ju.length : Int))))) ?_))))
       rcases tf (decide (14 < (ju.length : Int))) with k0 | k0
       ·have hr := ite_t k0 hr
        refine gt 29 (rv (vb (decide (14 < (ju.length : Int))))) k0 (mv jo (gt 29 (rv (vb (decide (14 < (ju.length : Int))))) k0 (mv jn (gt 29 (rv (vb (decide (14 < (ju.length : Int))))) k0 ?_))))
        obtain ⟨k1, k2, hr⟩ := bind_some hr
        refine ix Try.underlying22 ty65.inf (rv w0) (h0.mono (j9.trans jm)) (rv (vi jg)) k2 (fun k3 k4 => gt 29 (rv (vb (decide (14 < (ju.length : Int))))) k0 (ld ty65 (rv k3) k4 (fun k5 k6 => gt 29 (rv (vb (decide (14 < (ju.length : Int))))) k0 (ln Try.underlying65 (rv k5) k6 (gt 29 (rv (vb (decide (14 < (ju.length : Int))))) k0 (L_leq (rv (vi ((k1.length : Int)))) (rv (vi 200)) (by decide) (pt (rv (vb (decide (14 < (ju.length : Int))))) k0 (rv (vb (decide ((k1.length : Int) ≤ 200)))) (mv (rv (vb (decide ((k1.length : Int) ≤ 200)))) ?_))))))))
        rcases tf (decide ((k1.length : Int) ≤ 200)) with k7 | k7
        ·have hr := ite_t k7 hr; exact gf 37 (rv (vb (decide ((k1.length : Int) ≤ 200)))) k7 (gf 37 (rv (vb (decide ((k1.length : Int) ≤ 200)))) k7 (gf 37 (rv (vb (decide ((k1.length : Int) ≤ 200)))) k7 (gf 37 (rv (vb (decide ((k1.length : Int) ≤ 200)))) k7 (gf 37 (rv (vb (decide ((k1.length : Int) ≤ 200)))) k7 (gf 37 (rv (vb (decide ((k1.length : Int) ≤ 200)))) k7 (pt (rv (vb (decide ((k1.length : Int) ≤ 200)))) k7 (rv (vb true)) (nn ⟨jk, true, rfl, jl, (Le.refl _), Option.some.inj hr, rfl, jo, jn⟩)))))))
        ·have hr := ite_f k7 hr; refine gt 37 (rv (vb (decide ((k1.length : Int) ≤ 200)))) k7 (mv jo (gt 37 (rv (vb (decide ((k1.length : Int) ≤ 200)))) k7 (mv jn (gt 37 (rv (vb (decide ((k1.length : Int) ≤ 200)))) k7 ?_)))); obtain ⟨k8, k9, hr⟩ := bind_some hr; exact ix Try.underlying22 ty65.inf (rv w0) (h0.mono (j9.trans jm)) (rv (vi jg)) k9 (fun ka kb => gt 37 (rv (vb (decide ((k1.length : Int) ≤ 200)))) k7 (ld ty65 (rv ka) kb (fun kc kd => gt 37 (rv (vb (decide ((k1.length : Int) ≤ 200)))) k7 (ln Try.underlying65 (rv kc) kd (gt 37 (rv (vb (decide ((k1.length : Int) ≤ 200)))) k7 (L_gtr (rv (vi ((k8.length : Int)))) (rv (vi 300)) (by decide) (pf (rv (vb (decide ((k1.length : Int) ≤ 200)))) k7 (rv (vb (decide (300 < (k8.length : Int))))) (nn ⟨jk, (decide (300 < (k8.length : Int))), rfl, jl, (Le.refl _), Option.some.inj hr, rfl, jo, jn⟩))))))))
       ·have hr := ite_f k0 hr; refine gf 29 (rv (vb (decide (14 < (ju.length : Int))))) k0 (gf 29 (rv (vb (decide (14 < (ju.length : Int))))) k0 (gf 29 (rv (vb (decide (14 < (ju.length : Int))))) k0 (gf 29 (rv (vb (decide (14 < (ju.length : Int))))) k0 (gf 29 (rv (vb (decide (14 < (ju.length : Int))))) k0 (gf 29 (rv (vb (decide (14 < (ju.length : Int))))) k0 (pf (rv (vb (decide (14 < (ju.length : Int))))) k0 (rv (vb false)) (mv (rv (vb false)) (gt 37 (rv (vb false)) rfl (mv jo (gt 37 (rv (vb false)) rfl (mv jn (gt 37 (rv (vb false)) rfl ?_)))))))))))); obtain ⟨k1, k2, hr⟩ := bind_some hr; exact ix Try.underlying22 ty65.inf (rv w0) (h0.mono (j9.trans jm)) (rv (vi jg)) k2 (fun k3 k4 => gt 37 (rv (vb false)) rfl (ld ty65 (rv k3) k4 (fun k5 k6 => gt 37 (rv (vb false)) rfl (ln Try.underlying65 (rv k5) k6 (gt 37 (rv (vb false)) rfl (L_gtr (rv (vi ((k1.length : Int)))) (rv (vi 300)) (by decide) (pf (rv (vb false)) rfl (rv (vb (decide (300 < (k1.length : Int))))) (nn ⟨jk, (decide (300 < (k1.length : Int))), rfl, jl, (Le.refl _), Option.some.inj hr, rfl, jo, jn⟩))))))))
      ·rintro ju jv ⟨jw, jt, rfl, jx, jy, jr, jz, k0, k1⟩
       subst jr
       have hr := js
       try dsimp only at hr
       refine W_cond _ jz (fun k2 => ?_) (fun k2 => ?_)
       ·have hr := ite_t k2 hr; refine sr (asg (rv (vb false)) (nn (W_ret (block_r (then_r (then_r (block_r ?_))))))); obtain rfl := Option.some.inj hr; have hr := jf; (try dsimp only at hr); refine then_r (then_r ?_); obtain rfl := Option.some.inj hr; exact done1 (Or.inl rfl) Try.results9 rfl ⟨_, _, rfl, rfl, jx, Vbool⟩
       ·have hr := ite_f k2 hr; refine W_skip (block_n (then_n (W_region (mv k1 ?_)))); obtain ⟨k3, hr⟩ := chk_some hr; exact ad (rv (vi jg)) (rv (vi 1)) k3 (asg (rv (vi (jg + 1))) (nn ⟨jh, Nat.lt_succ_self _, ⟨jw, (jg + 1), rfl, jx, (jm.trans jy), hr, rfl, k0⟩⟩))
     ·have hr := ite_f jp hr; refine W_exit (then_x (then_x (block_here ?_))); exact then_n ⟨jk, rfl, jl, jm, Option.some.inj hr⟩
   ·rintro jg jh ⟨ji, rfl, jj, jk, je⟩; subst je; have hr := jf; (try dsimp only at hr); refine then_n (sr (asg (rv (vb true)) (nn (W_ret ?_)))); obtain rfl := Option.some.inj hr; exact done1 (Or.inl rfl) Try.results9 rfl ⟨_, _, rfl, rfl, jj, Vbool⟩

theorem dead_begins_ok (N : Nat) (s0 : St) (w0 : Value) (a0 : Deed) (h0 : V s0 w0 a0) (r : Bool) (hr : dead_begins N a0 = some r) :
    Calls Try.prog 75 #[w0] s0.w (Ret s0 fun v s => V s v r) := by
 unfold dead_begins at hr
 have j0 := Ext.refl s0
 refine Calls_of (n := 11) (args := [w0]) Try.func75 rfl rfl (by simp) (sr (L_box (rv w0) h0 (by decide) (fun j1 j2 j3 j4 => ?_)))
 have j5 := Tch.ext j0 j3
 refine asg (rv (vb false)) (nn (sr (fa fld64_0 Deed.of_Kind (rv j2) j4 (fun j6 j7 => li ty3 (rv j6) j7 (el (rv (vi (a0.Kind))) (rv (vi 3)) (mv (rv (vb (decide (a0.Kind = 3)))) ?_))))))
 rcases tf (decide (a0.Kind = 3)) with j8 | j8
 ·have hr := ite_t j8 hr; refine gf 6 (rv (vb (decide (a0.Kind = 3)))) j8 (gf 6 (rv (vb (decide (a0.Kind = 3)))) j8 (gf 6 (rv (vb (decide (a0.Kind = 3)))) j8 (pt (rv (vb (decide (a0.Kind = 3)))) j8 (rv (vb true)) (asg (rv (vb true)) (nn (W_ret ?_)))))); obtain rfl := Option.some.inj hr; exact done1 (Or.inl rfl) Try.results75 rfl ⟨_, _, rfl, rfl, j5, Vbool⟩
 ·have hr := ite_f j8 hr; refine gt 6 (rv (vb (decide (a0.Kind = 3)))) j8 (fa fld64_0 Deed.of_Kind (rv j2) j4 (fun j9 ja => gt 6 (rv (vb (decide (a0.Kind = 3)))) j8 (li ty3 (rv j9) ja (gt 6 (rv (vb (decide (a0.Kind = 3)))) j8 (el (rv (vi (a0.Kind))) (rv (vi 4)) (pf (rv (vb (decide (a0.Kind = 3)))) j8 (rv (vb (decide (a0.Kind = 4)))) (asg (rv (vb (decide (a0.Kind = 4)))) (nn (W_ret ?_))))))))); obtain rfl := Option.some.inj hr; exact done1 (Or.inl rfl) Try.results75 rfl ⟨_, _, rfl, rfl, j5, Vbool⟩

theorem dead_count_lang_Deed_ok (N : Nat) (s0 : St) (w0 : Value) (a0 : List Deed) (h0 : V s0 w0 a0) (w1 : Value) (a1 : Deed → Option Bool) (h1 : Fn1 Try.prog s0 w1 a1) (r : Int) (hr : dead_count_lang_Deed N a0 a1 = some r) :
    Calls Try.prog 79 #[w0, w1] s0.w (Ret s0 fun v s => V s v r) := by
 unfold dead_count_lang_Deed at hr
 have j0 := Ext.refl s0
 refine Calls_of (n := 21) (args := [w0, w1]) Try.func79 rfl rfl (by simp) (sr (asg (rv (vi 0)) (nn (sr (asg (rv (vi 0)) (nn (W_seq (sr (mv (rv w0) (ln Try.underlying59 (rv w0) h0 (mv (rv (vi 0)) (nn ?_))))))))))))
 obtain ⟨j1, j2, j3⟩ := bind_some hr
 refine W_cut (fun f w => ∃ (s : St) (j4 : Int), s.w = w ∧ Ext s0 s ∧ Le s0 s ∧ j4 = j1 ∧ f 5 = vi j4) ?_ ?_
 ·refine W_block (W_loop (fun m f w => ∃ (s : St) (j5 : Int) (j6 : Int), s.w = w ∧ Ext s0 s ∧ Le s0 s ∧ dead_count_lang_Deed_l1 N a0 a1 m j5 j6 = some j1 ∧ f 5 = vi j5 ∧ f 10 = vi j6 ∧ f 1 = w1 ∧ f 8 = w0 ∧ f 9 = vi ((a0.length : Int))) N ⟨s0, 0, 0, rfl, j0, (Le.refl _), j2, rfl, rfl, rfl, rfl, rfl⟩ ?_)
  rintro j7 j8 j9 ⟨ja, j5, j6, rfl, jb, jc, hr, jd, je, jf, jg, jh⟩
  cases j7 with
  | zero => exact absurd hr (by simp [dead_count_lang_Deed_l1])
  | succ j7 =>
   rw [dead_count_lang_Deed_l1.eq_2] at hr
   refine sr (ls je jh (nn (W_seq ?_)))
   refine W_cond _ (rv (vb (decide (j6 < (a0.length : Int))))) (fun ji => ?_) (fun ji => ?_)
   ·have hr := ite_t ji hr
    refine W_skip (then_n (W_seq (W_block (sr ?_))))
    obtain ⟨jj, jk, hr⟩ := bind_some hr
    refine ix Try.underlying59 ty64.inf jg (h0.mono jc) je jk (fun jl jm => ld ty64 (rv jl) jm (fun jn jo => L_alloc (α := Deed) (x := ⟨0, 0, 0, 0, false⟩) zero64 Deed.zero_rel (by decide) (fun jp jq jr js jt => ?_)))
    have ju := Tch.ext jb jr
    refine L_store_ro ty64 (rv (Value.pointer (some ⟨jq, 0, none⟩))) (rv jn) (jo.mono jr.le) (jt) (fun jv jw jx => ?_)
    have jy := Tch.trans ju jw (fun k hk => Or.inr (by subst hk; exact (Nat.le_trans jb.size js)))
    refine nn (sr (mv jf (ld ty64 (rv (Value.pointer (some ⟨jq, 0, none⟩))) jx (fun jz k0 => ?_))))
    obtain ⟨k1, k2, hr⟩ := bind_some hr
    refine L_call1 (rv w1) (h1.mono (jc.trans (jr.le.trans jw.le))) (rv jz) k0 k2 (by decide) (fun k3 k4 k5 k6 => ?_)
    have k7 := Tch.ext jy k5
    obtain rfl := k6.bool
    refine nn ?_
    refine W_cond _ (rv (vb k1)) (fun k8 => ?_) (fun k8 => ?_)
    ·have hr := ite_t k8 hr; refine W_region (mv jd ?_); obtain ⟨k9, hr⟩ := chk_some hr; refine ad (rv (vi j5)) (rv (vi 1)) k9 (asg (rv (vi (j5 + 1))) (L_nil (block_n (then_n (W_region ?_))))); obtain ⟨ka, hr⟩ := chk_some hr; exact ad je (rv (vi 1)) ka (mv (rv (vi (j6 + 1))) (nn ⟨j7, Nat.lt_succ_self _, ⟨k4, (j5 + 1), (j6 + 1), rfl, k7, (jc.trans (jr.le.trans (jw.le.trans k5.le))), hr, rfl, rfl, jf, jg, jh⟩⟩))
    ·have hr := ite_f k8 hr; refine W_skip (block_n (then_n (W_region ?_))); obtain ⟨k9, hr⟩ := chk_some hr; exact ad je (rv (vi 1)) k9 (mv (rv (vi (j6 + 1))) (nn ⟨j7, Nat.lt_succ_self _, ⟨k4, j5, (j6 + 1), rfl, k7, (jc.trans (jr.le.trans (jw.le.trans k5.le))), hr, jd, rfl, jf, jg, jh⟩⟩))
   ·have hr := ite_f ji hr; refine W_exit (then_x (then_x (block_here ?_))); exact then_n ⟨ja, j5, rfl, jb, jc, Option.some.inj hr, jd⟩
 ·rintro j5 j6 ⟨j7, j4, rfl, j8, j9, j2, ja⟩; subst j2; have hr := j3; (try dsimp only at hr); refine then_n (sr (mv ja (asg (rv (vi j4)) (nn (W_ret ?_))))); obtain rfl := Option.some.inj hr; exact done1 (Or.inl rfl) Try.results79 rfl ⟨_, _, rfl, rfl, j8, Vint⟩

theorem slices_Index_Llang_Deed_lang_Deed_ok (N : Nat) (s0 : St) (w0 : Value) (a0 : List Deed) (h0 : V s0 w0 a0) (w1 : Value) (a1 : Deed) (h1 : V s0 w1 a1) (r : Int) (hr : slices_Index_Llang_Deed_lang_Deed N a0 a1 = some r) :
    Calls Try.prog 88 #[w0, w1] s0.w (Ret s0 fun v s => V s v r) := by
 unfold slices_Index_Llang_Deed_lang_Deed at hr
 have j0 := Ext.refl s0
 refine Calls_of (n := 19) (args := [w0, w1]) Try.func88 rfl rfl (by simp) (sr (L_box (rv w1) h1 (by decide) (fun j1 j2 j3 j4 => ?_)))
 have j5 := Tch.ext j0 j3
 refine asg (rv (vi 0)) (nn (W_seq (sr (mv (rv w0) (ln Try.underlying59 (rv w0) (h0.mono j3.le) (mv (rv (vi 0)) (nn ?_)))))))
 obtain ⟨j6, j7, j8⟩ := bind_some hr
 refine W_cut (fun f w => ∃ (s : St), s.w = w ∧ Ext s0 s ∧ Le j1 s ∧ Sum.inl () = j6) ?_ ?_
 ·refine W_block (W_loop (fun m f w => ∃ (s : St) (j9 : Int), s.w = w ∧ Ext s0 s ∧ Le j1 s ∧ slices_Index_Llang_Deed_lang_Deed_l1 N a0 a1 m j9 = some j6 ∧ f 8 = vi j9 ∧ f 0 = w0 ∧ f 3 = j2 ∧ f 7 = vi ((a0.length : Int))) N ⟨j1, 0, rfl, j5, (Le.refl _), j7, rfl, rfl, rfl, rfl⟩ ?_)
  rintro ja jb jc ⟨jd, j9, rfl, je, jf, hr, jg, jh, ji, jj⟩
  cases ja with
  | zero => exact absurd hr (by simp [slices_Index_Llang_Deed_lang_Deed_l1])
  | succ ja =>
   rw [slices_Index_Llang_Deed_lang_Deed_l1.eq_2] at hr
   refine sr (ls jg jj (nn (W_seq ?_)))
   refine W_cond _ (rv (vb (decide (j9 < (a0.length : Int))))) (fun jk => ?_) (fun jk => ?_)
   ·have hr := ite_t jk hr
    refine W_skip (then_n (W_seq (W_block (sr (mv jg (asg (rv (vi j9)) (nn (W_seq ?_))))))))
    obtain ⟨jl, jm, hr⟩ := bind_some hr
    refine W_draws mixed (by kernel_rfl) [PV.data (a1 : Deed), PV.data (a0 : List Deed), PV.eq (vi j9), PV.ptr (jl : Deed), PV.data (jl : Deed), PV.eq (vb (decide (a1 = jl)))] (Steps_cons ?_ (Steps_cons ?_ (Steps_cons ?_ (Steps_cons ?_ (Steps_cons ?_ (Steps_cons ?_ Steps_nil)))))) ?_
    ·intro jn jo jp jq jr Q js; have jt : jn 3 = j2 := (jr 3 (by kernel_rfl)).trans ji; exact ld ty64 jt (j4.mono (jf.trans jp.le)) (fun ju jv => fin js jv)
    ·intro jn jo jp jq jr Q js; have jt : jn 0 = w0 := (jr 0 (by kernel_rfl)).trans jh; exact mv jt (fin js (h0.mono (j3.le.trans (jf.trans jp.le))))
    ·intro jn jo jp jq jr Q js; have jt : jn 5 = vi (j9) := (jr 5 (by kernel_rfl)).trans rfl; exact mv jt (fin js rfl)
    ·intro jn jo jp jq jr Q js; have jt : V _ (jn 12) (a0 : List Deed) := jq 1 12 (by kernel_rfl) (by kernel_rfl); obtain ⟨ju, jv, jw⟩ : ∃ v, _ = v ∧ V _ v _ := ⟨_, rfl, jt⟩; have jx : jn 13 = vi (j9) := jq 2 13 (by kernel_rfl) (by kernel_rfl); exact ix Try.underlying59 ty64.inf jv jw jx jm (fun jy jz => fin js jz)
    ·intro jn jo jp jq jr Q js; have jt : Ptr _ (jn 14) (jl : Deed) := jq 3 14 (by kernel_rfl) (by kernel_rfl); obtain ⟨ju, jv, jw⟩ : ∃ v, _ = v ∧ Ptr _ v _ := ⟨_, rfl, jt⟩; exact ld ty64 jv jw (fun jx jy => fin js jy)
    ·intro jn jo jp jq jr Q js; have jt : V _ (jn 11) (a1 : Deed) := jq 0 11 (by kernel_rfl) (by kernel_rfl); obtain ⟨ju, jv, jw⟩ : ∃ v, _ = v ∧ V _ v _ := ⟨_, rfl, jt⟩; have jx : V _ (jn 15) (jl : Deed) := jq 4 15 (by kernel_rfl) (by kernel_rfl); obtain ⟨jy, jz, k0⟩ : ∃ v, _ = v ∧ V _ v _ := ⟨_, rfl, jx⟩; exact L_seq64 jv jw jz k0 (by decide) (fin js rfl)
    ·intro jn jo jp jq jr
     have js := Tch.ext je jp
     have jt : jn 0 = w0 := (jr 0 (by kernel_rfl)).trans jh
     have ju : jn 3 = j2 := (jr 3 (by kernel_rfl)).trans ji
     have jv : jn 5 = vi (j9) := (jr 5 (by kernel_rfl)).trans rfl
     have jw : jn 7 = vi ((a0.length : Int)) := (jr 7 (by kernel_rfl)).trans jj
     have jx : jn 8 = vi (j9) := (jr 8 (by kernel_rfl)).trans jg
     have jy : jn 16 = vb (decide (a1 = jl)) := jq 5 16 (by kernel_rfl)
     refine then_n ?_
     refine W_cond _ jy (fun jz => ?_) (fun jz => ?_)
     ·have hr := ite_t jz hr; refine sr (mv jv (asg (rv (vi j9)) (nn (W_ret (block_r (then_r (then_r (block_r ?_)))))))); obtain rfl := Option.some.inj hr; have hr := j8; (try dsimp only at hr); refine then_r (then_r ?_); obtain rfl := Option.some.inj hr; exact done1 (Or.inl rfl) Try.results88 rfl ⟨_, _, rfl, rfl, js, Vint⟩
     ·have hr := ite_f jz hr; refine W_skip (block_n (then_n (W_region ?_))); obtain ⟨k0, hr⟩ := chk_some hr; exact ad jx (rv (vi 1)) k0 (mv (rv (vi (j9 + 1))) (nn ⟨ja, Nat.lt_succ_self _, ⟨jo, (j9 + 1), rfl, js, (jf.trans jp.le), hr, rfl, jt, ju, jw⟩⟩))
   ·have hr := ite_f jk hr; refine W_exit (then_x (then_x (block_here ?_))); exact then_n ⟨jd, rfl, je, jf, Option.some.inj hr⟩
 ·rintro j9 ja ⟨jb, rfl, jc, jd, j7⟩; subst j7; have hr := j8; (try dsimp only at hr); refine then_n (sr (asg (rv (vi (-1))) (nn (W_ret ?_)))); obtain rfl := Option.some.inj hr; exact done1 (Or.inl rfl) Try.results88 rfl ⟨_, _, rfl, rfl, jc, Vint⟩

theorem slices_Contains_Llang_Deed_lang_Deed_ok (N : Nat) (s0 : St) (w0 : Value) (a0 : List Deed) (h0 : V s0 w0 a0) (w1 : Value) (a1 : Deed) (h1 : V s0 w1 a1) (r : Bool) (hr : slices_Contains_Llang_Deed_lang_Deed N a0 a1 = some r) :
    Calls Try.prog 80 #[w0, w1] s0.w (Ret s0 fun v s => V s v r) := by
 unfold slices_Contains_Llang_Deed_lang_Deed at hr
 have j0 := Ext.refl s0
 refine Calls_of (n := 9) (args := [w0, w1]) Try.func80 rfl rfl (by simp) (sr (L_box (rv w1) h1 (by decide) (fun j1 j2 j3 j4 => ?_)))
 have j5 := Tch.ext j0 j3
 refine asg (rv (vb false)) (nn (sr (mv (rv w0) (ld ty64 (rv j2) j4 (fun j6 j7 => ?_)))))
 obtain ⟨j8, j9, hr⟩ := bind_some hr
 refine L_calls cal88 (args2 (rv w0) (rv j6)) (slices_Index_Llang_Deed_lang_Deed_ok N _ _ _ (h0.mono j3.le) _ _ j7 j8 j9) (by decide) (fun ja jb jc jd => ?_)
 have je := Tch.ext j5 jc
 obtain rfl := jd.int
 refine L_geq (rv (vi j8)) (rv (vi 0)) (by decide) (asg (rv (vb (decide (0 ≤ j8)))) (nn (W_ret ?_)))
 obtain rfl := Option.some.inj hr
 exact done1 (Or.inl rfl) Try.results80 rfl ⟨_, _, rfl, rfl, je, Vbool⟩

set_option maxHeartbeats 2843000 in
theorem dead_formed_ok (N : Nat) (s0 : St) (w0 : Value) (a0 : Deed) (h0 : V s0 w0 a0) (w1 : Value) (a1 : List Deed) (h1 : V s0 w1 a1) (a2 : Int) (r : Bool) (hr : dead_formed N a0 a1 a2 = some r) :
    Calls Try.prog 58 #[w0, w1, .int .i64 a2] s0.w (Ret s0 fun v s => V s v r) := by
 unfold dead_formed at hr
 have j0 := Ext.refl s0
 refine Calls_of (n := 109) (args := [w0, w1, .int .i64 a2]) Try.func58 rfl rfl (by simp) (sr (L_box (rv w0) h0 (by decide) (fun j1 j2 j3 j4 => ?_)))
 have j5 := Tch.ext j0 j3
 refine asg (rv (vb false)) (nn ?_)
 obtain ⟨j6, j7, j8⟩ := bind_some hr
 refine W_seq_cut (fun f w => ∃ (s : St) (j9 : Bool), s.w = w ∧ Ext s0 s ∧ Le j1 s ∧ j9 = j6 ∧ f 7 = vb j9 ∧ f 1 = w1 ∧ f 2 = vi (a2) ∧ f 3 = j2) ?_ ?_
 ·have hr := j7
  refine W_region (fa fld64_2 Deed.of_Tag (rv j2) j4 (fun ja jb => li ty3 (rv ja) jb (L_geq (rv (vi (a0.Tag))) (rv (vi 0)) (by decide) (mv (rv (vb (decide (0 ≤ a0.Tag)))) ?_))))
  rcases tf (decide (0 ≤ a0.Tag)) with jc | jc
  ·have hr := ite_t jc hr; exact gt 14 (rv (vb (decide (0 ≤ a0.Tag)))) jc (fa fld64_2 Deed.of_Tag (rv j2) j4 (fun jd je => gt 14 (rv (vb (decide (0 ≤ a0.Tag)))) jc (li ty3 (rv jd) je (gt 14 (rv (vb (decide (0 ≤ a0.Tag)))) jc (L_leq (rv (vi (a0.Tag))) (rv (vi 1048576)) (by decide) (pt (rv (vb (decide (0 ≤ a0.Tag)))) jc (rv (vb (decide (a0.Tag ≤ 1048576)))) (asg (rv (vb (decide (a0.Tag ≤ 1048576)))) (nn ⟨j1, (decide (a0.Tag ≤ 1048576)), rfl, j5, (Le.refl _), Option.some.inj hr, rfl, rfl, rfl, rfl⟩))))))))
  ·have hr := ite_f jc hr; exact gf 14 (rv (vb (decide (0 ≤ a0.Tag)))) jc (gf 14 (rv (vb (decide (0 ≤ a0.Tag)))) jc (gf 14 (rv (vb (decide (0 ≤ a0.Tag)))) jc (pf (rv (vb (decide (0 ≤ a0.Tag)))) jc (rv (vb false)) (asg (rv (vb false)) (nn ⟨j1, false, rfl, j5, (Le.refl _), Option.some.inj hr, rfl, rfl, rfl, rfl⟩)))))
 ·rintro ja jb ⟨jc, j9, rfl, jd, je, j7, jf, jg, jh, ji⟩
  subst j7
  have hr := j8
  try dsimp only at hr
  obtain ⟨jj, jk, jl⟩ := bind_some hr
  refine W_seq_cut (fun f w => ∃ (s : St) (jm : Bool), s.w = w ∧ Ext s0 s ∧ Le jc s ∧ jm = jj ∧ f 8 = vb jm ∧ f 1 = w1 ∧ f 3 = j2 ∧ f 7 = vb (j9)) ?_ ?_
  ·have hr := jk
   refine W_region (fa fld64_1 Deed.of_Peer ji (j4.mono je) (fun jn jo => li ty3 (rv jn) jo (L_geq (rv (vi (a0.Peer))) (rv (vi 0)) (by decide) (mv (rv (vb (decide (0 ≤ a0.Peer)))) ?_))))
   rcases tf (decide (0 ≤ a0.Peer)) with jp | jp
   ·have hr := ite_t jp hr; exact gt 22 (rv (vb (decide (0 ≤ a0.Peer)))) jp (fa fld64_1 Deed.of_Peer ji (j4.mono je) (fun jq jr => gt 22 (rv (vb (decide (0 ≤ a0.Peer)))) jp (li ty3 (rv jq) jr (gt 22 (rv (vb (decide (0 ≤ a0.Peer)))) jp (mv jh (gt 22 (rv (vb (decide (0 ≤ a0.Peer)))) jp (ls (rv (vi (a0.Peer))) (rv (vi a2)) (pt (rv (vb (decide (0 ≤ a0.Peer)))) jp (rv (vb (decide (a0.Peer < a2)))) (asg (rv (vb (decide (a0.Peer < a2)))) (nn ⟨jc, (decide (a0.Peer < a2)), rfl, jd, (Le.refl _), Option.some.inj hr, rfl, jg, ji, jf⟩))))))))))
   ·have hr := ite_f jp hr; exact gf 22 (rv (vb (decide (0 ≤ a0.Peer)))) jp (gf 22 (rv (vb (decide (0 ≤ a0.Peer)))) jp (gf 22 (rv (vb (decide (0 ≤ a0.Peer)))) jp (gf 22 (rv (vb (decide (0 ≤ a0.Peer)))) jp (pf (rv (vb (decide (0 ≤ a0.Peer)))) jp (rv (vb false)) (asg (rv (vb false)) (nn ⟨jc, false, rfl, jd, (Le.refl _), Option.some.inj hr, rfl, jg, ji, jf⟩))))))
  ·rintro jn jo ⟨jp, jm, rfl, jq, jr, jk, js, jt, ju, jv⟩
   subst jk
   have hr := jl
   try dsimp only at hr
   refine sr (mv jt ?_)
   obtain ⟨jw, jx, hr⟩ := bind_some hr
   refine L_calls cal79 (args2 (rv w1) (rv (Value.func (.func 75) #[] #[]))) (dead_count_lang_Deed_ok N _ _ _ (h1.mono (j3.le.trans (je.trans jr))) _ (fun x => dead_begins N x ) (Fn1.mk0 cal75 fun t vx x r hl hv hr => dead_begins_ok N t vx x hv  r hr) jw jx) (by decide) (fun jy jz k0 k1 => ?_)
   have k2 := Tch.ext jq k0
   obtain rfl := k1.int
   refine asg (rv (vi jw)) (nn (sr (fa fld64_0 Deed.of_Kind ju (j4.mono (je.trans (jr.trans k0.le))) (fun k3 k4 => li ty3 (rv k3) k4 (L_bld64_0 (s := jz) (rv (vi (a0.Kind))) (Vint : V _ _ (a0.Kind : Int)) (by decide) (fun k5 k6 => L_alloc (α := Deed) (x := ⟨0, 0, 0, 0, false⟩) zero64 Deed.zero_rel (by decide) (fun k7 k8 k9 ka kb => ?_)))))))
   have kc := Tch.ext k2 k9
   refine L_store ty64 (rv (Value.pointer (some ⟨k8, 0, none⟩))) (rv k5) (k6.mono k9.le) (kb) (fun kd ke kf => ?_)
   have kg := Tch.trans kc ke (fun k hk => Or.inr (by subst hk; exact (Nat.le_trans k2.size ka)))
   refine nn (W_seq (sr (fa fld64_0 Deed.of_Kind ju (j4.mono (je.trans (jr.trans (k0.le.trans (k9.le.trans ke.le))))) (fun kh ki => li ty3 (rv kh) ki (nn (W_block (sr (el (rv (vi (a0.Kind))) (rv (vi 1)) (asg (rv (vb (decide (a0.Kind = 1)))) (nn ?_))))))))))
   refine W_cond _ (rv (vb (decide (a0.Kind = 1)))) (fun kj => ?_) (fun kj => ?_)
   ·have hr := ite_t kj hr
    refine W_region (fa fld64_4 Deed.of_Sync ju (j4.mono (je.trans (jr.trans (k0.le.trans (k9.le.trans ke.le))))) (fun kk kl => L_load_bool ty4 (rv kk) kl (by decide) (L_fieldAddr_var fld64_4 (rv (Value.pointer (some ⟨k8, 0, none⟩))) (by decide) (L_store_field ty4 Deed.set_Sync (rv (Value.pointer (some ⟨k8, 4, none⟩))) (rv (vb (a0.Sync))) Vbool (kf) (fun km kn ko => ?_)))))
    have kp := Tch.trans kg kn (fun k hk => Or.inr (by subst hk; exact (Nat.le_trans k2.size ka)))
    refine L_nil (block_n (then_n (W_seq ?_)))
    refine W_drawP mixed 8 [PX.ptr (a0.Peer : Int), PX.eq (vi (a0.Peer)), PX.ptr (a0.Tag : Int), PX.eq (vi (a0.Tag)), PX.eq (Value.pointer (some ⟨k8, 1, none⟩)), PX.var s0.w.heap.size 64 ((Deed.with_Peer (Deed.with_Sync (⟨a0.Kind, 0, 0, 0, false⟩ : Deed) a0.Sync) a0.Peer) : Deed), PX.eq (Value.pointer (some ⟨k8, 2, none⟩)), PX.var s0.w.heap.size 64 ((Deed.with_Tag (Deed.with_Peer (Deed.with_Sync (⟨a0.Kind, 0, 0, 0, false⟩ : Deed) a0.Sync) a0.Peer) a0.Tag) : Deed), PX.var s0.w.heap.size 64 ((Deed.with_Sync (⟨a0.Kind, 0, 0, 0, false⟩ : Deed) a0.Sync) : Deed)] [94, 95, 96, 97, 98, 10, 99, 10, 10] [[], [], [], [], [], [8], [], [5]] rfl (by kernel_rfl) (ent1 rfl ⟨k8, rfl, (Nat.le_trans k2.size ka), ko⟩) (dis1 rfl) (StepsX_cons ?_ (StepsX_cons ?_ (StepsX_cons ?_ (StepsX_cons ?_ (StepsX_cons ?_ (StepsX_cons ?_ (StepsX_cons ?_ (StepsX_cons ?_ StepsX_nil)))))))) ?_
    ·intro kq kr ks kt ku Q kv; have kw : kq 3 = j2 := (ku 3 (by kernel_rfl)).trans ju; exact fa fld64_1 Deed.of_Peer kw (j4.mono (je.trans (jr.trans (k0.le.trans (k9.le.trans (ke.le.trans (kn.le.trans ks.le))))))) (fun kx ky => L_nil (kv _ _ No (Ext.refl kr) (fun _ h => h.elim) ky (fun _ h => h.elim)))
    ·intro kq kr ks kt ku Q kv; have kw : Ptr _ (kq 94) (a0.Peer : Int) := kt 0 (by kernel_rfl) (by show _ < 9; decide); obtain ⟨kx, ky, kz⟩ : ∃ v, _ = v ∧ Ptr _ v _ := ⟨_, rfl, kw⟩; exact li ty3 ky kz (L_nil (kv _ _ No (Ext.refl kr) (fun _ h => h.elim) rfl (fun _ h => h.elim)))
    ·intro kq kr ks kt ku Q kv; have kw : kq 3 = j2 := (ku 3 (by kernel_rfl)).trans ju; exact fa fld64_2 Deed.of_Tag kw (j4.mono (je.trans (jr.trans (k0.le.trans (k9.le.trans (ke.le.trans (kn.le.trans ks.le))))))) (fun kx ky => L_nil (kv _ _ No (Ext.refl kr) (fun _ h => h.elim) ky (fun _ h => h.elim)))
    ·intro kq kr ks kt ku Q kv; have kw : Ptr _ (kq 96) (a0.Tag : Int) := kt 2 (by kernel_rfl) (by show _ < 9; decide); obtain ⟨kx, ky, kz⟩ : ∃ v, _ = v ∧ Ptr _ v _ := ⟨_, rfl, kw⟩; exact li ty3 ky kz (L_nil (kv _ _ No (Ext.refl kr) (fun _ h => h.elim) rfl (fun _ h => h.elim)))
    ·intro kq kr ks kt ku Q kv
     obtain ⟨kw, kx, ky, kz⟩ : ∃ b, kq 10 = Value.pointer (some ⟨b, 0, none⟩) ∧ s0.w.heap.size ≤ b ∧ Var kr b 64 ((Deed.with_Sync (⟨a0.Kind, 0, 0, 0, false⟩ : Deed) a0.Sync) : Deed) := kt 8 (by kernel_rfl) (by show _ < 9; decide)
     have g0 : kq 10 = Value.pointer (some ⟨k8, 0, none⟩) := (ku 10 (by kernel_rfl)).trans rfl
     have g1 : kw = k8 := by have g2 := kx.symm.trans g0; cases g2; rfl
     rw [g1] at ky kz
     exact L_fieldAddr_var fld64_1 g0 (by decide) (L_nil (kv _ _ No (Ext.refl kr) (fun _ h => h.elim) rfl (fun _ h => h.elim)))
    ·intro kq kr ks kt ku Q kv
     obtain ⟨kw, kx, ky, kz⟩ : ∃ b, kq 10 = Value.pointer (some ⟨b, 0, none⟩) ∧ s0.w.heap.size ≤ b ∧ Var kr b 64 ((Deed.with_Sync (⟨a0.Kind, 0, 0, 0, false⟩ : Deed) a0.Sync) : Deed) := kt 8 (by kernel_rfl) (by show _ < 9; decide)
     have g0 : kq 10 = Value.pointer (some ⟨k8, 0, none⟩) := (ku 10 (by kernel_rfl)).trans rfl
     have g1 : kw = k8 := by have g2 := kx.symm.trans g0; cases g2; rfl
     rw [g1] at ky kz
     have g3 : kq 95 = vi (a0.Peer) := kt 1 (by kernel_rfl) (by show _ < 9; decide)
     have g4 : kq 98 = Value.pointer (some ⟨k8, 1, none⟩) := kt 4 (by kernel_rfl) (by show _ < 9; decide)
     exact L_store_field ty3 Deed.set_Peer g4 g3 Vint (kz) (fun g5 g6 g7 => L_nil (kv undef _ _ g6 (fun k h => ⟨8, (List.mem_singleton.2 rfl : (8 : Nat) ∈ [8]), (by show ownP (kq 10) k; rw [g0]; exact congrArg (fun z => Value.pointer (some ⟨z, 0, none⟩)) h.symm)⟩) ⟨_, g0, ky, g7⟩ (fun k h => Or.inl ⟨8, (List.mem_singleton.2 rfl : (8 : Nat) ∈ [8]), h⟩)))
    ·intro kq kr ks kt ku Q kv
     obtain ⟨kw, kx, ky, kz⟩ : ∃ b, kq 10 = Value.pointer (some ⟨b, 0, none⟩) ∧ s0.w.heap.size ≤ b ∧ Var kr b 64 ((Deed.with_Peer (Deed.with_Sync (⟨a0.Kind, 0, 0, 0, false⟩ : Deed) a0.Sync) a0.Peer) : Deed) := kt 5 (by kernel_rfl) (by show _ < 9; decide)
     have g0 : kq 10 = Value.pointer (some ⟨k8, 0, none⟩) := (ku 10 (by kernel_rfl)).trans rfl
     have g1 : kw = k8 := by have g2 := kx.symm.trans g0; cases g2; rfl
     rw [g1] at ky kz
     exact L_fieldAddr_var fld64_2 g0 (by decide) (L_nil (kv _ _ No (Ext.refl kr) (fun _ h => h.elim) rfl (fun _ h => h.elim)))
    ·intro kq kr ks kt ku Q kv
     obtain ⟨kw, kx, ky, kz⟩ : ∃ b, kq 10 = Value.pointer (some ⟨b, 0, none⟩) ∧ s0.w.heap.size ≤ b ∧ Var kr b 64 ((Deed.with_Peer (Deed.with_Sync (⟨a0.Kind, 0, 0, 0, false⟩ : Deed) a0.Sync) a0.Peer) : Deed) := kt 5 (by kernel_rfl) (by show _ < 9; decide)
     have g0 : kq 10 = Value.pointer (some ⟨k8, 0, none⟩) := (ku 10 (by kernel_rfl)).trans rfl
     have g1 : kw = k8 := by have g2 := kx.symm.trans g0; cases g2; rfl
     rw [g1] at ky kz
     have g3 : kq 97 = vi (a0.Tag) := kt 3 (by kernel_rfl) (by show _ < 9; decide)
     have g4 : kq 99 = Value.pointer (some ⟨k8, 2, none⟩) := kt 6 (by kernel_rfl) (by show _ < 9; decide)
     exact L_store_field ty3 Deed.set_Tag g4 g3 Vint (kz) (fun g5 g6 g7 => L_nil (kv undef _ _ g6 (fun k h => ⟨5, (List.mem_singleton.2 rfl : (5 : Nat) ∈ [5]), (by show ownP (kq 10) k; rw [g0]; exact congrArg (fun z => Value.pointer (some ⟨z, 0, none⟩)) h.symm)⟩) ⟨_, g0, ky, g7⟩ (fun k h => Or.inl ⟨5, (List.mem_singleton.2 rfl : (5 : Nat) ∈ [5]), h⟩)))
    ·intro kq kr ks kt ku kv
     have kw := Tch.trans kp ks (fun k h => Or.inr (by have kx := ent_is (k := 8) rfl rfl h; have ky := Eq.mp (congrArg (fun v => ownP v k) (rv (Value.pointer (some ⟨k8, 0, none⟩)))) kx; cases ky; exact (Nat.le_trans k2.size ka)))
     obtain ⟨kz, g0, g1, g2⟩ : ∃ b, kq 10 = Value.pointer (some ⟨b, 0, none⟩) ∧ s0.w.heap.size ≤ b ∧ Var kr b 64 ((Deed.with_Tag (Deed.with_Peer (Deed.with_Sync (⟨a0.Kind, 0, 0, 0, false⟩ : Deed) a0.Sync) a0.Peer) a0.Tag) : Deed) := kt 7 (by show _ < 9; decide) (by kernel_rfl)
     have g3 : kq 10 = Value.pointer (some ⟨k8, 0, none⟩) := (kv 10 (by kernel_rfl)).trans rfl
     have g4 : kz = k8 := by have ky := g0.symm.trans g3; cases ky; rfl
     rw [g4] at g1 g2
     have g5 : kq 3 = j2 := (kv 3 (by kernel_rfl)).trans ju
     have g6 : kq 7 = vb (j9) := (kv 7 (by kernel_rfl)).trans jv
     have g7 : kq 8 = vb (jm) := (kv 8 (by kernel_rfl)).trans js
     refine then_n (sr (ld ty64 g5 (j4.mono (je.trans (jr.trans (k0.le.trans (k9.le.trans (ke.le.trans (kn.le.trans ks.le))))))) (fun g8 g9 => L_load_var ty64 g3 (g2) (by decide) (fun ga gb => L_seq64 (rv g8) g9 (rv ga) gb (by decide) (mv (rfl : _ = vb (decide (a0 = (Deed.with_Tag (Deed.with_Peer (Deed.with_Sync (⟨a0.Kind, 0, 0, 0, false⟩ : Deed) a0.Sync) a0.Peer) a0.Tag)))) ?_)))))
     rcases tf (decide (a0 = (Deed.with_Tag (Deed.with_Peer (Deed.with_Sync (⟨a0.Kind, 0, 0, 0, false⟩ : Deed) a0.Sync) a0.Peer) a0.Tag))) with gc | gc
     ·have hr := ite_t gc hr
      refine gt 103 (rfl : _ = vb (decide (a0 = (Deed.with_Tag (Deed.with_Peer (Deed.with_Sync (⟨a0.Kind, 0, 0, 0, false⟩ : Deed) a0.Sync) a0.Peer) a0.Tag)))) gc (mv g6 (pt (rfl : _ = vb (decide (a0 = (Deed.with_Tag (Deed.with_Peer (Deed.with_Sync (⟨a0.Kind, 0, 0, 0, false⟩ : Deed) a0.Sync) a0.Peer) a0.Tag)))) gc (rv (vb j9)) (mv (rv (vb j9)) ?_)))
      rcases tf (j9) with gd | gd
      ·have hr := ite_t gd hr; refine gt 106 (rv (vb j9)) gd (mv g7 (pt (rv (vb j9)) gd (rv (vb jm)) (asg (rv (vb jm)) (nn (W_ret ?_))))); obtain rfl := Option.some.inj hr; exact done1 (Or.inl rfl) Try.results58 rfl ⟨_, _, rfl, rfl, kw, Vbool⟩
      ·have hr := ite_f gd hr; refine gf 106 (rv (vb j9)) gd (pf (rv (vb j9)) gd (rv (vb false)) (asg (rv (vb false)) (nn (W_ret ?_)))); obtain rfl := Option.some.inj hr; exact done1 (Or.inl rfl) Try.results58 rfl ⟨_, _, rfl, rfl, kw, Vbool⟩
     ·have hr := ite_f gc hr; refine gf 103 (rfl : _ = vb (decide (a0 = (Deed.with_Tag (Deed.with_Peer (Deed.with_Sync (⟨a0.Kind, 0, 0, 0, false⟩ : Deed) a0.Sync) a0.Peer) a0.Tag)))) gc (pf (rfl : _ = vb (decide (a0 = (Deed.with_Tag (Deed.with_Peer (Deed.with_Sync (⟨a0.Kind, 0, 0, 0, false⟩ : Deed) a0.Sync) a0.Peer) a0.Tag)))) gc (rv (vb false)) (mv (rv (vb false)) (gf 106 (rv (vb false)) rfl (pf (rv (vb false)) rfl (rv (vb false)) (asg (rv (vb false)) (nn (W_ret ?_))))))); obtain rfl := Option.some.inj hr; exact done1 (Or.inl rfl) Try.results58 rfl ⟨_, _, rfl, rfl, kw, Vbool⟩
   ·have hr := ite_f kj hr
    refine sr (el (rv (vi (a0.Kind))) (rv (vi 3)) (asg (rv (vb (decide (a0.Kind = 3)))) (nn ?_)))
    refine W_cond _ (rv (vb (decide (a0.Kind = 3)))) (fun kk => ?_) (fun kk => ?_)
    ·have hr := ite_t kk hr
     refine W_region (mv (rv (vi jw)) (L_fieldAddr_var fld64_3 (rv (Value.pointer (some ⟨k8, 0, none⟩))) (by decide) (L_store_field ty3 Deed.set_Req (rv (Value.pointer (some ⟨k8, 3, none⟩))) (rv (vi jw)) Vint (kf) (fun kl km kn => ?_))))
     have ko := Tch.trans kg km (fun k hk => Or.inr (by subst hk; exact (Nat.le_trans k2.size ka)))
     refine L_nil (block_n (then_n (W_seq ?_)))
     refine W_drawP mixed 8 [PX.ptr (a0.Peer : Int), PX.eq (vi (a0.Peer)), PX.ptr (a0.Tag : Int), PX.eq (vi (a0.Tag)), PX.eq (Value.pointer (some ⟨k8, 1, none⟩)), PX.var s0.w.heap.size 64 ((Deed.with_Peer (Deed.with_Req (⟨a0.Kind, 0, 0, 0, false⟩ : Deed) jw) a0.Peer) : Deed), PX.eq (Value.pointer (some ⟨k8, 2, none⟩)), PX.var s0.w.heap.size 64 ((Deed.with_Tag (Deed.with_Peer (Deed.with_Req (⟨a0.Kind, 0, 0, 0, false⟩ : Deed) jw) a0.Peer) a0.Tag) : Deed), PX.var s0.w.heap.size 64 ((Deed.with_Req (⟨a0.Kind, 0, 0, 0, false⟩ : Deed) jw) : Deed)] [94, 95, 96, 97, 98, 10, 99, 10, 10] [[], [], [], [], [], [8], [], [5]] rfl (by kernel_rfl) (ent1 rfl ⟨k8, rfl, (Nat.le_trans k2.size ka), kn⟩) (dis1 rfl) (StepsX_cons ?_ (StepsX_cons ?_ (StepsX_cons ?_ (StepsX_cons ?_ (StepsX_cons ?_ (StepsX_cons ?_ (StepsX_cons ?_ (StepsX_cons ?_ StepsX_nil)))))))) ?_
     ·intro kp kq kr ks kt Q ku; have kv : kp 3 = j2 := (kt 3 (by kernel_rfl)).trans ju; exact fa fld64_1 Deed.of_Peer kv (j4.mono (je.trans (jr.trans (k0.le.trans (k9.le.trans (ke.le.trans (km.le.trans kr.le))))))) (fun kw kx => L_nil (ku _ _ No (Ext.refl kq) (fun _ h => h.elim) kx (fun _ h => h.elim)))
     ·intro kp kq kr ks kt Q ku; have kv : Ptr _ (kp 94) (a0.Peer : Int) := ks 0 (by kernel_rfl) (by show _ < 9; decide); obtain ⟨kw, kx, ky⟩ : ∃ v, _ = v ∧ Ptr _ v _ := ⟨_, rfl, kv⟩; exact li ty3 kx ky (L_nil (ku _ _ No (Ext.refl kq) (fun _ h => h.elim) rfl (fun _ h => h.elim)))
     ·intro kp kq kr ks kt Q ku; have kv : kp 3 = j2 := (kt 3 (by kernel_rfl)).trans ju; exact fa fld64_2 Deed.of_Tag kv (j4.mono (je.trans (jr.trans (k0.le.trans (k9.le.trans (ke.le.trans (km.le.trans kr.le))))))) (fun kw kx => L_nil (ku _ _ No (Ext.refl kq) (fun _ h => h.elim) kx (fun _ h => h.elim)))
     ·intro kp kq kr ks kt Q ku; have kv : Ptr _ (kp 96) (a0.Tag : Int) := ks 2 (by kernel_rfl) (by show _ < 9; decide); obtain ⟨kw, kx, ky⟩ : ∃ v, _ = v ∧ Ptr _ v _ := ⟨_, rfl, kv⟩; exact li ty3 kx ky (L_nil (ku _ _ No (Ext.refl kq) (fun _ h => h.elim) rfl (fun _ h => h.elim)))
     ·intro kp kq kr ks kt Q ku
      obtain ⟨kv, kw, kx, ky⟩ : ∃ b, kp 10 = Value.pointer (some ⟨b, 0, none⟩) ∧ s0.w.heap.size ≤ b ∧ Var kq b 64 ((Deed.with_Req (⟨a0.Kind, 0, 0, 0, false⟩ : Deed) jw) : Deed) := ks 8 (by kernel_rfl) (by show _ < 9; decide)
      have kz : kp 10 = Value.pointer (some ⟨k8, 0, none⟩) := (kt 10 (by kernel_rfl)).trans rfl
      have g0 : kv = k8 := by have g1 := kw.symm.trans kz; cases g1; rfl
      rw [g0] at kx ky
      exact L_fieldAddr_var fld64_1 kz (by decide) (L_nil (ku _ _ No (Ext.refl kq) (fun _ h => h.elim) rfl (fun _ h => h.elim)))
     ·intro kp kq kr ks kt Q ku
      obtain ⟨kv, kw, kx, ky⟩ : ∃ b, kp 10 = Value.pointer (some ⟨b, 0, none⟩) ∧ s0.w.heap.size ≤ b ∧ Var kq b 64 ((Deed.with_Req (⟨a0.Kind, 0, 0, 0, false⟩ : Deed) jw) : Deed) := ks 8 (by kernel_rfl) (by show _ < 9; decide)
      have kz : kp 10 = Value.pointer (some ⟨k8, 0, none⟩) := (kt 10 (by kernel_rfl)).trans rfl
      have g0 : kv = k8 := by have g1 := kw.symm.trans kz; cases g1; rfl
      rw [g0] at kx ky
      have g2 : kp 95 = vi (a0.Peer) := ks 1 (by kernel_rfl) (by show _ < 9; decide)
      have g3 : kp 98 = Value.pointer (some ⟨k8, 1, none⟩) := ks 4 (by kernel_rfl) (by show _ < 9; decide)
      exact L_store_field ty3 Deed.set_Peer g3 g2 Vint (ky) (fun g4 g5 g6 => L_nil (ku undef _ _ g5 (fun k h => ⟨8, (List.mem_singleton.2 rfl : (8 : Nat) ∈ [8]), (by show ownP (kp 10) k; rw [kz]; exact congrArg (fun z => Value.pointer (some ⟨z, 0, none⟩)) h.symm)⟩) ⟨_, kz, kx, g6⟩ (fun k h => Or.inl ⟨8, (List.mem_singleton.2 rfl : (8 : Nat) ∈ [8]), h⟩)))
     ·intro kp kq kr ks kt Q ku
      obtain ⟨kv, kw, kx, ky⟩ : ∃ b, kp 10 = Value.pointer (some ⟨b, 0, none⟩) ∧ s0.w.heap.size ≤ b ∧ Var kq b 64 ((Deed.with_Peer (Deed.with_Req (⟨a0.Kind, 0, 0, 0, false⟩ : Deed) jw) a0.Peer) : Deed) := ks 5 (by kernel_rfl) (by show _ < 9; decide)
      have kz : kp 10 = Value.pointer (some ⟨k8, 0, none⟩) := (kt 10 (by kernel_rfl)).trans rfl
      have g0 : kv = k8 := by have g1 := kw.symm.trans kz; cases g1; rfl
      rw [g0] at kx ky
      exact L_fieldAddr_var fld64_2 kz (by decide) (L_nil (ku _ _ No (Ext.refl kq) (fun _ h => h.elim) rfl (fun _ h => h.elim)))
     ·intro kp kq kr ks kt Q ku
      obtain ⟨kv, kw, kx, ky⟩ : ∃ b, kp 10 = Value.pointer (some ⟨b, 0, none⟩) ∧ s0.w.heap.size ≤ b ∧ Var kq b 64 ((Deed.with_Peer (Deed.with_Req (⟨a0.Kind, 0, 0, 0, false⟩ : Deed) jw) a0.Peer) : Deed) := ks 5 (by kernel_rfl) (by show _ < 9; decide)
      have kz : kp 10 = Value.pointer (some ⟨k8, 0, none⟩) := (kt 10 (by kernel_rfl)).trans rfl
      have g0 : kv = k8 := by have g1 := kw.symm.trans kz; cases g1; rfl
      rw [g0] at kx ky
      have g2 : kp 97 = vi (a0.Tag) := ks 3 (by kernel_rfl) (by show _ < 9; decide)
      have g3 : kp 99 = Value.pointer (some ⟨k8, 2, none⟩) := ks 6 (by kernel_rfl) (by show _ < 9; decide)
      exact L_store_field ty3 Deed.set_Tag g3 g2 Vint (ky) (fun g4 g5 g6 => L_nil (ku undef _ _ g5 (fun k h => ⟨5, (List.mem_singleton.2 rfl : (5 : Nat) ∈ [5]), (by show ownP (kp 10) k; rw [kz]; exact congrArg (fun z => Value.pointer (some ⟨z, 0, none⟩)) h.symm)⟩) ⟨_, kz, kx, g6⟩ (fun k h => Or.inl ⟨5, (List.mem_singleton.2 rfl : (5 : Nat) ∈ [5]), h⟩)))
     ·intro kp kq kr ks kt ku
      have kv := Tch.trans ko kr (fun k h => Or.inr (by have kw := ent_is (k := 8) rfl rfl h; have kx := Eq.mp (congrArg (fun v => ownP v k) (rv (Value.pointer (some ⟨k8, 0, none⟩)))) kw; cases kx; exact (Nat.le_trans k2.size ka)))
      obtain ⟨ky, kz, g0, g1⟩ : ∃ b, kp 10 = Value.pointer (some ⟨b, 0, none⟩) ∧ s0.w.heap.size ≤ b ∧ Var kq b 64 ((Deed.with_Tag (Deed.with_Peer (Deed.with_Req (⟨a0.Kind, 0, 0, 0, false⟩ : Deed) jw) a0.Peer) a0.Tag) : Deed) := ks 7 (by show _ < 9; decide) (by kernel_rfl)
      have g2 : kp 10 = Value.pointer (some ⟨k8, 0, none⟩) := (ku 10 (by kernel_rfl)).trans rfl
      have g3 : ky = k8 := by have kx := kz.symm.trans g2; cases kx; rfl
      rw [g3] at g0 g1
      have g4 : kp 3 = j2 := (ku 3 (by kernel_rfl)).trans ju
      have g5 : kp 7 = vb (j9) := (ku 7 (by kernel_rfl)).trans jv
      have g6 : kp 8 = vb (jm) := (ku 8 (by kernel_rfl)).trans js
      refine then_n (sr (ld ty64 g4 (j4.mono (je.trans (jr.trans (k0.le.trans (k9.le.trans (ke.le.trans (km.le.trans kr.le))))))) (fun g7 g8 => L_load_var ty64 g2 (g1) (by decide) (fun g9 ga => L_seq64 (rv g7) g8 (rv g9) ga (by decide) (mv (rfl : _ = vb (decide (a0 = (Deed.with_Tag (Deed.with_Peer (Deed.with_Req (⟨a0.Kind, 0, 0, 0, false⟩ : Deed) jw) a0.Peer) a0.Tag)))) ?_)))))
      rcases tf (decide (a0 = (Deed.with_Tag (Deed.with_Peer (Deed.with_Req (⟨a0.Kind, 0, 0, 0, false⟩ : Deed) jw) a0.Peer) a0.Tag))) with gb | gb
      ·have hr := ite_t gb hr
       refine gt 103 (rfl : _ = vb (decide (a0 = (Deed.with_Tag (Deed.with_Peer (Deed.with_Req (⟨a0.Kind, 0, 0, 0, false⟩ : Deed) jw) a0.Peer) a0.Tag)))) gb (mv g5 (pt (rfl : _ = vb (decide (a0 = (Deed.with_Tag (Deed.with_Peer (Deed.with_Req (⟨a0.Kind, 0, 0, 0, false⟩ : Deed) jw) a0.Peer) a0.Tag)))) gb (rv (vb j9)) (mv (rv (vb j9)) ?_)))
       rcases tf (j9) with gc | gc
       ·have hr := ite_t gc hr; refine gt 106 (rv (vb j9)) gc (mv g6 (pt (rv (vb j9)) gc (rv (vb jm)) (asg (rv (vb jm)) (nn (W_ret ?_))))); obtain rfl := Option.some.inj hr; exact done1 (Or.inl rfl) Try.results58 rfl ⟨_, _, rfl, rfl, kv, Vbool⟩
       ·have hr := ite_f gc hr; refine gf 106 (rv (vb j9)) gc (pf (rv (vb j9)) gc (rv (vb false)) (asg (rv (vb false)) (nn (W_ret ?_)))); obtain rfl := Option.some.inj hr; exact done1 (Or.inl rfl) Try.results58 rfl ⟨_, _, rfl, rfl, kv, Vbool⟩
      ·have hr := ite_f gb hr; refine gf 103 (rfl : _ = vb (decide (a0 = (Deed.with_Tag (Deed.with_Peer (Deed.with_Req (⟨a0.Kind, 0, 0, 0, false⟩ : Deed) jw) a0.Peer) a0.Tag)))) gb (pf (rfl : _ = vb (decide (a0 = (Deed.with_Tag (Deed.with_Peer (Deed.with_Req (⟨a0.Kind, 0, 0, 0, false⟩ : Deed) jw) a0.Peer) a0.Tag)))) gb (rv (vb false)) (mv (rv (vb false)) (gf 106 (rv (vb false)) rfl (pf (rv (vb false)) rfl (rv (vb false)) (asg (rv (vb false)) (nn (W_ret ?_))))))); obtain rfl := Option.some.inj hr; exact done1 (Or.inl rfl) Try.results58 rfl ⟨_, _, rfl, rfl, kv, Vbool⟩
    ·have hr := ite_f kk hr
     refine W_seq (sr (el (rv (vi (a0.Kind))) (rv (vi 2)) (asg (rv (vb (decide (a0.Kind = 2)))) (nn ?_))))
     refine W_cond _ (rv (vb (decide (a0.Kind = 2)))) (fun kl => ?_) (fun kl => ?_)
     ·have hr := ite_t kl hr
      refine W_skip (then_n ?_)
      refine W_cond _ (rv (vb (decide (a0.Kind = 2)))) (fun _ => ?_) (fun h => absurd (h.symm.trans kl) (by decide))
      refine W_seq (sr (fa fld64_0 Deed.of_Kind ju (j4.mono (je.trans (jr.trans (k0.le.trans (k9.le.trans ke.le))))) (fun km kn => li ty3 (rv km) kn (el (rv (vi (a0.Kind))) (rv (vi 4)) (nn ?_)))))
      refine W_cond _ (rv (vb (decide (a0.Kind = 4)))) (fun ko => ?_) (fun ko => ?_)
      ·have hr := ite_t ko hr
       refine W_region (mv (rv (vi jw)) (L_fieldAddr_var fld64_3 (rv (Value.pointer (some ⟨k8, 0, none⟩))) (by decide) (L_store_field ty3 Deed.set_Req (rv (Value.pointer (some ⟨k8, 3, none⟩))) (rv (vi jw)) Vint (kf) (fun kp kq kr => ?_))))
       have ks := Tch.trans kg kq (fun k hk => Or.inr (by subst hk; exact (Nat.le_trans k2.size ka)))
       refine nn ?_
       rcases tf (j9) with kt | kt
       ·have hr := ite_t kt hr
        rcases tf (jm) with ku | ku
        ·have hr := ite_t ku hr
         refine W_draws mixed (by kernel_rfl) [PV.eq (vb j9), PV.eq (vb j9), PV.eq (undef), PV.eq (undef), PV.eq (undef), PV.eq (vb true), PV.eq (vb jm), PV.eq (vb jm), PV.eq (undef), PV.eq (undef), PV.eq (undef), PV.eq (vb true), PV.eq (vb true), PV.eq (vb true)] (Steps_cons ?_ (Steps_cons ?_ (Steps_cons ?_ (Steps_cons ?_ (Steps_cons ?_ (Steps_cons ?_ (Steps_cons ?_ (Steps_cons ?_ (Steps_cons ?_ (Steps_cons ?_ (Steps_cons ?_ (Steps_cons ?_ (Steps_cons ?_ (Steps_cons ?_ Steps_nil)))))))))))))) ?_
         ·intro kv kw kx ky kz Q g0; have g1 : kv 7 = vb (j9) := (kz 7 (by kernel_rfl)).trans jv; exact mv g1 (fin g0 rfl)
         ·intro kv kw kx ky kz Q g0; have g1 : kv 52 = vb (j9) := ky 0 52 (by kernel_rfl) (by kernel_rfl); exact mv g1 (fin g0 rfl)
         ·intro kv kw kx ky kz Q g0; have g1 : kv 53 = vb (j9) := ky 1 53 (by kernel_rfl) (by kernel_rfl); exact gf 53 g1 kt (fin g0 rfl)
         ·intro kv kw kx ky kz Q g0; have g1 : kv 53 = vb (j9) := ky 1 53 (by kernel_rfl) (by kernel_rfl); exact gf 53 g1 kt (fin g0 rfl)
         ·intro kv kw kx ky kz Q g0; have g1 : kv 53 = vb (j9) := ky 1 53 (by kernel_rfl) (by kernel_rfl); exact gf 53 g1 kt (fin g0 rfl)
         ·intro kv kw kx ky kz Q g0; have g1 : kv 53 = vb (j9) := ky 1 53 (by kernel_rfl) (by kernel_rfl); exact pt g1 kt (rv (vb true)) (fin g0 rfl)
         ·intro kv kw kx ky kz Q g0; have g1 : kv 8 = vb (jm) := (kz 8 (by kernel_rfl)).trans js; exact mv g1 (fin g0 rfl)
         ·intro kv kw kx ky kz Q g0; have g1 : kv 58 = vb (jm) := ky 6 58 (by kernel_rfl) (by kernel_rfl); exact mv g1 (fin g0 rfl)
         ·intro kv kw kx ky kz Q g0; have g1 : kv 59 = vb (jm) := ky 7 59 (by kernel_rfl) (by kernel_rfl); exact gf 59 g1 ku (fin g0 rfl)
         ·intro kv kw kx ky kz Q g0; have g1 : kv 59 = vb (jm) := ky 7 59 (by kernel_rfl) (by kernel_rfl); exact gf 59 g1 ku (fin g0 rfl)
         ·intro kv kw kx ky kz Q g0; have g1 : kv 59 = vb (jm) := ky 7 59 (by kernel_rfl) (by kernel_rfl); exact gf 59 g1 ku (fin g0 rfl)
         ·intro kv kw kx ky kz Q g0; have g1 : kv 59 = vb (jm) := ky 7 59 (by kernel_rfl) (by kernel_rfl); exact pt g1 ku (rv (vb true)) (fin g0 rfl)
         ·intro kv kw kx ky kz Q g0; have g1 : kv 57 = vb (true) := ky 5 57 (by kernel_rfl) (by kernel_rfl); exact asg g1 (fin g0 rfl)
         ·intro kv kw kx ky kz Q g0; have g1 : kv 63 = vb (true) := ky 11 63 (by kernel_rfl) (by kernel_rfl); exact asg g1 (fin g0 rfl)
         ·intro kv kw kx ky kz
          have g0 := Tch.ext ks kx
          have g1 : kv 3 = j2 := (kz 3 (by kernel_rfl)).trans ju
          have g2 : kv 7 = vb (true) := ky 12 7 (by kernel_rfl)
          have g3 : kv 8 = vb (true) := ky 13 8 (by kernel_rfl)
          have g4 : kv 10 = Value.pointer (some ⟨k8, 0, none⟩) := (kz 10 (by kernel_rfl)).trans rfl
          refine block_n (then_n (W_seq ?_))
          refine W_drawP mixed 8 [PX.ptr (a0.Peer : Int), PX.eq (vi (a0.Peer)), PX.ptr (a0.Tag : Int), PX.eq (vi (a0.Tag)), PX.eq (Value.pointer (some ⟨k8, 1, none⟩)), PX.var s0.w.heap.size 64 ((Deed.with_Peer (Deed.with_Req (⟨a0.Kind, 0, 0, 0, false⟩ : Deed) jw) a0.Peer) : Deed), PX.eq (Value.pointer (some ⟨k8, 2, none⟩)), PX.var s0.w.heap.size 64 ((Deed.with_Tag (Deed.with_Peer (Deed.with_Req (⟨a0.Kind, 0, 0, 0, false⟩ : Deed) jw) a0.Peer) a0.Tag) : Deed), PX.var s0.w.heap.size 64 ((Deed.with_Req (⟨a0.Kind, 0, 0, 0, false⟩ : Deed) jw) : Deed)] [94, 95, 96, 97, 98, 10, 99, 10, 10] [[], [], [], [], [], [8], [], [5]] rfl (by kernel_rfl) (ent1 rfl ⟨k8, g4, (Nat.le_trans k2.size ka), (kr).ext kx⟩) (dis1 rfl) (StepsX_cons ?_ (StepsX_cons ?_ (StepsX_cons ?_ (StepsX_cons ?_ (StepsX_cons ?_ (StepsX_cons ?_ (StepsX_cons ?_ (StepsX_cons ?_ StepsX_nil)))))))) ?_
          ·intro g5 g6 g7 g8 g9 Q ga; have gb : g5 3 = j2 := (g9 3 (by kernel_rfl)).trans g1; exact fa fld64_1 Deed.of_Peer gb (j4.mono (je.trans (jr.trans (k0.le.trans (k9.le.trans (ke.le.trans (kq.le.trans (kx.le.trans g7.le)))))))) (fun gc gd => L_nil (ga _ _ No (Ext.refl g6) (fun _ h => h.elim) gd (fun _ h => h.elim)))
          ·intro g5 g6 g7 g8 g9 Q ga; have gb : Ptr _ (g5 94) (a0.Peer : Int) := g8 0 (by kernel_rfl) (by show _ < 9; decide); obtain ⟨gc, gd, gg⟩ : ∃ v, _ = v ∧ Ptr _ v _ := ⟨_, rfl, gb⟩; exact li ty3 gd gg (L_nil (ga _ _ No (Ext.refl g6) (fun _ h => h.elim) rfl (fun _ h => h.elim)))
          ·intro g5 g6 g7 g8 g9 Q ga; have gb : g5 3 = j2 := (g9 3 (by kernel_rfl)).trans g1; exact fa fld64_2 Deed.of_Tag gb (j4.mono (je.trans (jr.trans (k0.le.trans (k9.le.trans (ke.le.trans (kq.le.trans (kx.le.trans g7.le)))))))) (fun gc gd => L_nil (ga _ _ No (Ext.refl g6) (fun _ h => h.elim) gd (fun _ h => h.elim)))
          ·intro g5 g6 g7 g8 g9 Q ga; have gb : Ptr _ (g5 96) (a0.Tag : Int) := g8 2 (by kernel_rfl) (by show _ < 9; decide); obtain ⟨gc, gd, gg⟩ : ∃ v, _ = v ∧ Ptr _ v _ := ⟨_, rfl, gb⟩; exact li ty3 gd gg (L_nil (ga _ _ No (Ext.refl g6) (fun _ h => h.elim) rfl (fun _ h => h.elim)))
          ·intro g5 g6 g7 g8 g9 Q ga
           obtain ⟨gb, gc, gd, gg⟩ : ∃ b, g5 10 = Value.pointer (some ⟨b, 0, none⟩) ∧ s0.w.heap.size ≤ b ∧ Var g6 b 64 ((Deed.with_Req (⟨a0.Kind, 0, 0, 0, false⟩ : Deed) jw) : Deed) := g8 8 (by kernel_rfl) (by show _ < 9; decide)
           have gh : g5 10 = Value.pointer (some ⟨k8, 0, none⟩) := (g9 10 (by kernel_rfl)).trans g4
           have gi : gb = k8 := by have gj := gc.symm.trans gh; cases gj; rfl
           rw [gi] at gd gg
           exact L_fieldAddr_var fld64_1 gh (by decide) (L_nil (ga _ _ No (Ext.refl g6) (fun _ h => h.elim) rfl (fun _ h => h.elim)))
          ·intro g5 g6 g7 g8 g9 Q ga
           obtain ⟨gb, gc, gd, gg⟩ : ∃ b, g5 10 = Value.pointer (some ⟨b, 0, none⟩) ∧ s0.w.heap.size ≤ b ∧ Var g6 b 64 ((Deed.with_Req (⟨a0.Kind, 0, 0, 0, false⟩ : Deed) jw) : Deed) := g8 8 (by kernel_rfl) (by show _ < 9; decide)
           have gh : g5 10 = Value.pointer (some ⟨k8, 0, none⟩) := (g9 10 (by kernel_rfl)).trans g4
           have gi : gb = k8 := by have gj := gc.symm.trans gh; cases gj; rfl
           rw [gi] at gd gg
           have gk : g5 95 = vi (a0.Peer) := g8 1 (by kernel_rfl) (by show _ < 9; decide)
           have gl : g5 98 = Value.pointer (some ⟨k8, 1, none⟩) := g8 4 (by kernel_rfl) (by show _ < 9; decide)
           exact L_store_field ty3 Deed.set_Peer gl gk Vint (gg) (fun gm gn go => L_nil (ga undef _ _ gn (fun k h => ⟨8, (List.mem_singleton.2 rfl : (8 : Nat) ∈ [8]), (by show ownP (g5 10) k; rw [gh]; exact congrArg (fun z => Value.pointer (some ⟨z, 0, none⟩)) h.symm)⟩) ⟨_, gh, gd, go⟩ (fun k h => Or.inl ⟨8, (List.mem_singleton.2 rfl : (8 : Nat) ∈ [8]), h⟩)))
          ·intro g5 g6 g7 g8 g9 Q ga
           obtain ⟨gb, gc, gd, gg⟩ : ∃ b, g5 10 = Value.pointer (some ⟨b, 0, none⟩) ∧ s0.w.heap.size ≤ b ∧ Var g6 b 64 ((Deed.with_Peer (Deed.with_Req (⟨a0.Kind, 0, 0, 0, false⟩ : Deed) jw) a0.Peer) : Deed) := g8 5 (by kernel_rfl) (by show _ < 9; decide)
           have gh : g5 10 = Value.pointer (some ⟨k8, 0, none⟩) := (g9 10 (by kernel_rfl)).trans g4
           have gi : gb = k8 := by have gj := gc.symm.trans gh; cases gj; rfl
           rw [gi] at gd gg
           exact L_fieldAddr_var fld64_2 gh (by decide) (L_nil (ga _ _ No (Ext.refl g6) (fun _ h => h.elim) rfl (fun _ h => h.elim)))
          ·intro g5 g6 g7 g8 g9 Q ga
           obtain ⟨gb, gc, gd, gg⟩ : ∃ b, g5 10 = Value.pointer (some ⟨b, 0, none⟩) ∧ s0.w.heap.size ≤ b ∧ Var g6 b 64 ((Deed.with_Peer (Deed.with_Req (⟨a0.Kind, 0, 0, 0, false⟩ : Deed) jw) a0.Peer) : Deed) := g8 5 (by kernel_rfl) (by show _ < 9; decide)
           have gh : g5 10 = Value.pointer (some ⟨k8, 0, none⟩) := (g9 10 (by kernel_rfl)).trans g4
           have gi : gb = k8 := by have gj := gc.symm.trans gh; cases gj; rfl
           rw [gi] at gd gg
           have gk : g5 97 = vi (a0.Tag) := g8 3 (by kernel_rfl) (by show _ < 9; decide)
           have gl : g5 99 = Value.pointer (some ⟨k8, 2, none⟩) := g8 6 (by kernel_rfl) (by show _ < 9; decide)
           exact L_store_field ty3 Deed.set_Tag gl gk Vint (gg) (fun gm gn go => L_nil (ga undef _ _ gn (fun k h => ⟨5, (List.mem_singleton.2 rfl : (5 : Nat) ∈ [5]), (by show ownP (g5 10) k; rw [gh]; exact congrArg (fun z => Value.pointer (some ⟨z, 0, none⟩)) h.symm)⟩) ⟨_, gh, gd, go⟩ (fun k h => Or.inl ⟨5, (List.mem_singleton.2 rfl : (5 : Nat) ∈ [5]), h⟩)))
          ·intro g5 g6 g7 g8 g9 ga
           have gb := Tch.trans g0 g7 (fun k h => Or.inr (by have gc := ent_is (k := 8) rfl rfl h; have gd := Eq.mp (congrArg (fun v => ownP v k) (g4 : _ = Value.pointer (some ⟨k8, 0, none⟩))) gc; cases gd; exact (Nat.le_trans k2.size ka)))
           obtain ⟨gg, gh, gi, gj⟩ : ∃ b, g5 10 = Value.pointer (some ⟨b, 0, none⟩) ∧ s0.w.heap.size ≤ b ∧ Var g6 b 64 ((Deed.with_Tag (Deed.with_Peer (Deed.with_Req (⟨a0.Kind, 0, 0, 0, false⟩ : Deed) jw) a0.Peer) a0.Tag) : Deed) := g8 7 (by show _ < 9; decide) (by kernel_rfl)
           have gk : g5 10 = Value.pointer (some ⟨k8, 0, none⟩) := (ga 10 (by kernel_rfl)).trans g4
           have gl : gg = k8 := by have gd := gh.symm.trans gk; cases gd; rfl
           rw [gl] at gi gj
           have gm : g5 3 = j2 := (ga 3 (by kernel_rfl)).trans g1
           have gn : g5 7 = vb (true) := (ga 7 (by kernel_rfl)).trans g2
           have go : g5 8 = vb (true) := (ga 8 (by kernel_rfl)).trans g3
           refine then_n (sr (ld ty64 gm (j4.mono (je.trans (jr.trans (k0.le.trans (k9.le.trans (ke.le.trans (kq.le.trans (kx.le.trans g7.le)))))))) (fun gp gq => L_load_var ty64 gk (gj) (by decide) (fun gr gs => L_seq64 (rv gp) gq (rv gr) gs (by decide) (mv (rfl : _ = vb (decide (a0 = (Deed.with_Tag (Deed.with_Peer (Deed.with_Req (⟨a0.Kind, 0, 0, 0, false⟩ : Deed) jw) a0.Peer) a0.Tag)))) ?_)))))
           rcases tf (decide (a0 = (Deed.with_Tag (Deed.with_Peer (Deed.with_Req (⟨a0.Kind, 0, 0, 0, false⟩ : Deed) jw) a0.Peer) a0.Tag))) with gu | gu
           ·have hr := ite_t gu hr; refine gt 103 (rfl : _ = vb (decide (a0 = (Deed.with_Tag (Deed.with_Peer (Deed.with_Req (⟨a0.Kind, 0, 0, 0, false⟩ : Deed) jw) a0.Peer) a0.Tag)))) gu (mv gn (pt (rfl : _ = vb (decide (a0 = (Deed.with_Tag (Deed.with_Peer (Deed.with_Req (⟨a0.Kind, 0, 0, 0, false⟩ : Deed) jw) a0.Peer) a0.Tag)))) gu (rv (vb true)) (mv (rv (vb true)) (gt 106 (rv (vb true)) rfl (mv go (pt (rv (vb true)) rfl (rv (vb true)) (asg (rv (vb true)) (nn (W_ret ?_))))))))); obtain rfl := Option.some.inj hr; exact done1 (Or.inl rfl) Try.results58 rfl ⟨_, _, rfl, rfl, gb, Vbool⟩
           ·have hr := ite_f gu hr; refine gf 103 (rfl : _ = vb (decide (a0 = (Deed.with_Tag (Deed.with_Peer (Deed.with_Req (⟨a0.Kind, 0, 0, 0, false⟩ : Deed) jw) a0.Peer) a0.Tag)))) gu (pf (rfl : _ = vb (decide (a0 = (Deed.with_Tag (Deed.with_Peer (Deed.with_Req (⟨a0.Kind, 0, 0, 0, false⟩ : Deed) jw) a0.Peer) a0.Tag)))) gu (rv (vb false)) (mv (rv (vb false)) (gf 106 (rv (vb false)) rfl (pf (rv (vb false)) rfl (rv (vb false)) (asg (rv (vb false)) (nn (W_ret ?_))))))); obtain rfl := Option.some.inj hr; exact done1 (Or.inl rfl) Try.results58 rfl ⟨_, _, rfl, rfl, gb, Vbool⟩
        ·have hr := ite_f ku hr
         refine W_draws mixed (by kernel_rfl) [PV.eq (vb j9), PV.eq (vb j9), PV.eq (undef), PV.eq (undef), PV.eq (undef), PV.eq (vb true), PV.eq (vb jm), PV.eq (vb jm), PV.ptr (a0.Peer : Int), PV.eq (vi (a0.Peer)), PV.eq (vb (decide (a0.Peer = (-1)))), PV.eq (vb (decide (a0.Peer = (-1)))), PV.eq (vb true), PV.eq (vb (decide (a0.Peer = (-1))))] (Steps_cons ?_ (Steps_cons ?_ (Steps_cons ?_ (Steps_cons ?_ (Steps_cons ?_ (Steps_cons ?_ (Steps_cons ?_ (Steps_cons ?_ (Steps_cons ?_ (Steps_cons ?_ (Steps_cons ?_ (Steps_cons ?_ (Steps_cons ?_ (Steps_cons ?_ Steps_nil)))))))))))))) ?_
         ·intro kv kw kx ky kz Q g0; have g1 : kv 7 = vb (j9) := (kz 7 (by kernel_rfl)).trans jv; exact mv g1 (fin g0 rfl)
         ·intro kv kw kx ky kz Q g0; have g1 : kv 52 = vb (j9) := ky 0 52 (by kernel_rfl) (by kernel_rfl); exact mv g1 (fin g0 rfl)
         ·intro kv kw kx ky kz Q g0; have g1 : kv 53 = vb (j9) := ky 1 53 (by kernel_rfl) (by kernel_rfl); exact gf 53 g1 kt (fin g0 rfl)
         ·intro kv kw kx ky kz Q g0; have g1 : kv 53 = vb (j9) := ky 1 53 (by kernel_rfl) (by kernel_rfl); exact gf 53 g1 kt (fin g0 rfl)
         ·intro kv kw kx ky kz Q g0; have g1 : kv 53 = vb (j9) := ky 1 53 (by kernel_rfl) (by kernel_rfl); exact gf 53 g1 kt (fin g0 rfl)
         ·intro kv kw kx ky kz Q g0; have g1 : kv 53 = vb (j9) := ky 1 53 (by kernel_rfl) (by kernel_rfl); exact pt g1 kt (rv (vb true)) (fin g0 rfl)
         ·intro kv kw kx ky kz Q g0; have g1 : kv 8 = vb (jm) := (kz 8 (by kernel_rfl)).trans js; exact mv g1 (fin g0 rfl)
         ·intro kv kw kx ky kz Q g0; have g1 : kv 58 = vb (jm) := ky 6 58 (by kernel_rfl) (by kernel_rfl); exact mv g1 (fin g0 rfl)
         ·intro kv kw kx ky kz Q g0; have g1 : kv 3 = j2 := (kz 3 (by kernel_rfl)).trans ju; have g2 : kv 59 = vb (jm) := ky 7 59 (by kernel_rfl) (by kernel_rfl); exact gt 59 g2 ku (fa fld64_1 Deed.of_Peer g1 (j4.mono (je.trans (jr.trans (k0.le.trans (k9.le.trans (ke.le.trans (kq.le.trans kx.le))))))) (fun g3 g4 => fin g0 g4))
         ·intro kv kw kx ky kz Q g0; have g1 : kv 59 = vb (jm) := ky 7 59 (by kernel_rfl) (by kernel_rfl); have g2 : Ptr _ (kv 60) (a0.Peer : Int) := ky 8 60 (by kernel_rfl) (by kernel_rfl); obtain ⟨g3, g4, g5⟩ : ∃ v, _ = v ∧ Ptr _ v _ := ⟨_, rfl, g2⟩; exact gt 59 g1 ku (li ty3 g4 g5 (fin g0 rfl))
         ·intro kv kw kx ky kz Q g0; have g1 : kv 59 = vb (jm) := ky 7 59 (by kernel_rfl) (by kernel_rfl); have g2 : kv 61 = vi (a0.Peer) := ky 9 61 (by kernel_rfl) (by kernel_rfl); exact gt 59 g1 ku (el g2 (rv (vi (-1))) (fin g0 rfl))
         ·intro kv kw kx ky kz Q g0; have g1 : kv 59 = vb (jm) := ky 7 59 (by kernel_rfl) (by kernel_rfl); have g2 : kv 62 = vb (decide (a0.Peer = (-1))) := ky 10 62 (by kernel_rfl) (by kernel_rfl); exact pf g1 ku g2 (fin g0 rfl)
         ·intro kv kw kx ky kz Q g0; have g1 : kv 57 = vb (true) := ky 5 57 (by kernel_rfl) (by kernel_rfl); exact asg g1 (fin g0 rfl)
         ·intro kv kw kx ky kz Q g0; have g1 : kv 63 = vb (decide (a0.Peer = (-1))) := ky 11 63 (by kernel_rfl) (by kernel_rfl); exact asg g1 (fin g0 rfl)
         ·intro kv kw kx ky kz
          have g0 := Tch.ext ks kx
          have g1 : kv 3 = j2 := (kz 3 (by kernel_rfl)).trans ju
          have g2 : kv 7 = vb (true) := ky 12 7 (by kernel_rfl)
          have g3 : kv 8 = vb (decide (a0.Peer = (-1))) := ky 13 8 (by kernel_rfl)
          have g4 : kv 10 = Value.pointer (some ⟨k8, 0, none⟩) := (kz 10 (by kernel_rfl)).trans rfl
          refine block_n (then_n (W_seq ?_))
          refine W_drawP mixed 8 [PX.ptr (a0.Peer : Int), PX.eq (vi (a0.Peer)), PX.ptr (a0.Tag : Int), PX.eq (vi (a0.Tag)), PX.eq (Value.pointer (some ⟨k8, 1, none⟩)), PX.var s0.w.heap.size 64 ((Deed.with_Peer (Deed.with_Req (⟨a0.Kind, 0, 0, 0, false⟩ : Deed) jw) a0.Peer) : Deed), PX.eq (Value.pointer (some ⟨k8, 2, none⟩)), PX.var s0.w.heap.size 64 ((Deed.with_Tag (Deed.with_Peer (Deed.with_Req (⟨a0.Kind, 0, 0, 0, false⟩ : Deed) jw) a0.Peer) a0.Tag) : Deed), PX.var s0.w.heap.size 64 ((Deed.with_Req (⟨a0.Kind, 0, 0, 0, false⟩ : Deed) jw) : Deed)] [94, 95, 96, 97, 98, 10, 99, 10, 10] [[], [], [], [], [], [8], [], [5]] rfl (by kernel_rfl) (ent1 rfl ⟨k8, g4, (Nat.le_trans k2.size ka), (kr).ext kx⟩) (dis1 rfl) (StepsX_cons ?_ (StepsX_cons ?_ (StepsX_cons ?_ (StepsX_cons ?_ (StepsX_cons ?_ (StepsX_cons ?_ (StepsX_cons ?_ (StepsX_cons ?_ StepsX_nil)))))))) ?_
          ·intro g5 g6 g7 g8 g9 Q ga; have gb : g5 3 = j2 := (g9 3 (by kernel_rfl)).trans g1; exact fa fld64_1 Deed.of_Peer gb (j4.mono (je.trans (jr.trans (k0.le.trans (k9.le.trans (ke.le.trans (kq.le.trans (kx.le.trans g7.le)))))))) (fun gc gd => L_nil (ga _ _ No (Ext.refl g6) (fun _ h => h.elim) gd (fun _ h => h.elim)))
          ·intro g5 g6 g7 g8 g9 Q ga; have gb : Ptr _ (g5 94) (a0.Peer : Int) := g8 0 (by kernel_rfl) (by show _ < 9; decide); obtain ⟨gc, gd, gg⟩ : ∃ v, _ = v ∧ Ptr _ v _ := ⟨_, rfl, gb⟩; exact li ty3 gd gg (L_nil (ga _ _ No (Ext.refl g6) (fun _ h => h.elim) rfl (fun _ h => h.elim)))
          ·intro g5 g6 g7 g8 g9 Q ga; have gb : g5 3 = j2 := (g9 3 (by kernel_rfl)).trans g1; exact fa fld64_2 Deed.of_Tag gb (j4.mono (je.trans (jr.trans (k0.le.trans (k9.le.trans (ke.le.trans (kq.le.trans (kx.le.trans g7.le)))))))) (fun gc gd => L_nil (ga _ _ No (Ext.refl g6) (fun _ h => h.elim) gd (fun _ h => h.elim)))
          ·intro g5 g6 g7 g8 g9 Q ga; have gb : Ptr _ (g5 96) (a0.Tag : Int) := g8 2 (by kernel_rfl) (by show _ < 9; decide); obtain ⟨gc, gd, gg⟩ : ∃ v, _ = v ∧ Ptr _ v _ := ⟨_, rfl, gb⟩; exact li ty3 gd gg (L_nil (ga _ _ No (Ext.refl g6) (fun _ h => h.elim) rfl (fun _ h => h.elim)))
          ·intro g5 g6 g7 g8 g9 Q ga
           obtain ⟨gb, gc, gd, gg⟩ : ∃ b, g5 10 = Value.pointer (some ⟨b, 0, none⟩) ∧ s0.w.heap.size ≤ b ∧ Var g6 b 64 ((Deed.with_Req (⟨a0.Kind, 0, 0, 0, false⟩ : Deed) jw) : Deed) := g8 8 (by kernel_rfl) (by show _ < 9; decide)
           have gh : g5 10 = Value.pointer (some ⟨k8, 0, none⟩) := (g9 10 (by kernel_rfl)).trans g4
           have gi : gb = k8 := by have gj := gc.symm.trans gh; cases gj; rfl
           rw [gi] at gd gg
           exact L_fieldAddr_var fld64_1 gh (by decide) (L_nil (ga _ _ No (Ext.refl g6) (fun _ h => h.elim) rfl (fun _ h => h.elim)))
          ·intro g5 g6 g7 g8 g9 Q ga
           obtain ⟨gb, gc, gd, gg⟩ : ∃ b, g5 10 = Value.pointer (some ⟨b, 0, none⟩) ∧ s0.w.heap.size ≤ b ∧ Var g6 b 64 ((Deed.with_Req (⟨a0.Kind, 0, 0, 0, false⟩ : Deed) jw) : Deed) := g8 8 (by kernel_rfl) (by show _ < 9; decide)
           have gh : g5 10 = Value.pointer (some ⟨k8, 0, none⟩) := (g9 10 (by kernel_rfl)).trans g4
           have gi : gb = k8 := by have gj := gc.symm.trans gh; cases gj; rfl
           rw [gi] at gd gg
           have gk : g5 95 = vi (a0.Peer) := g8 1 (by kernel_rfl) (by show _ < 9; decide)
           have gl : g5 98 = Value.pointer (some ⟨k8, 1, none⟩) := g8 4 (by kernel_rfl) (by show _ < 9; decide)
           exact L_store_field ty3 Deed.set_Peer gl gk Vint (gg) (fun gm gn go => L_nil (ga undef _ _ gn (fun k h => ⟨8, (List.mem_singleton.2 rfl : (8 : Nat) ∈ [8]), (by show ownP (g5 10) k; rw [gh]; exact congrArg (fun z => Value.pointer (some ⟨z, 0, none⟩)) h.symm)⟩) ⟨_, gh, gd, go⟩ (fun k h => Or.inl ⟨8, (List.mem_singleton.2 rfl : (8 : Nat) ∈ [8]), h⟩)))
          ·intro g5 g6 g7 g8 g9 Q ga
           obtain ⟨gb, gc, gd, gg⟩ : ∃ b, g5 10 = Value.pointer (some ⟨b, 0, none⟩) ∧ s0.w.heap.size ≤ b ∧ Var g6 b 64 ((Deed.with_Peer (Deed.with_Req (⟨a0.Kind, 0, 0, 0, false⟩ : Deed) jw) a0.Peer) : Deed) := g8 5 (by kernel_rfl) (by show _ < 9; decide)
           have gh : g5 10 = Value.pointer (some ⟨k8, 0, none⟩) := (g9 10 (by kernel_rfl)).trans g4
           have gi : gb = k8 := by have gj := gc.symm.trans gh; cases gj; rfl
           rw [gi] at gd gg
           exact L_fieldAddr_var fld64_2 gh (by decide) (L_nil (ga _ _ No (Ext.refl g6) (fun _ h => h.elim) rfl (fun _ h => h.elim)))
          ·intro g5 g6 g7 g8 g9 Q ga
           obtain ⟨gb, gc, gd, gg⟩ : ∃ b, g5 10 = Value.pointer (some ⟨b, 0, none⟩) ∧ s0.w.heap.size ≤ b ∧ Var g6 b 64 ((Deed.with_Peer (Deed.with_Req (⟨a0.Kind, 0, 0, 0, false⟩ : Deed) jw) a0.Peer) : Deed) := g8 5 (by kernel_rfl) (by show _ < 9; decide)
           have gh : g5 10 = Value.pointer (some ⟨k8, 0, none⟩) := (g9 10 (by kernel_rfl)).trans g4
           have gi : gb = k8 := by have gj := gc.symm.trans gh; cases gj; rfl
           rw [gi] at gd gg
           have gk : g5 97 = vi (a0.Tag) := g8 3 (by kernel_rfl) (by show _ < 9; decide)
           have gl : g5 99 = Value.pointer (some ⟨k8, 2, none⟩) := g8 6 (by kernel_rfl) (by show _ < 9; decide)
           exact L_store_field ty3 Deed.set_Tag gl gk Vint (gg) (fun gm gn go => L_nil (ga undef _ _ gn (fun k h => ⟨5, (List.mem_singleton.2 rfl : (5 : Nat) ∈ [5]), (by show ownP (g5 10) k; rw [gh]; exact congrArg (fun z => Value.pointer (some ⟨z, 0, none⟩)) h.symm)⟩) ⟨_, gh, gd, go⟩ (fun k h => Or.inl ⟨5, (List.mem_singleton.2 rfl : (5 : Nat) ∈ [5]), h⟩)))
          ·intro g5 g6 g7 g8 g9 ga
           have gb := Tch.trans g0 g7 (fun k h => Or.inr (by have gc := ent_is (k := 8) rfl rfl h; have gd := Eq.mp (congrArg (fun v => ownP v k) (g4 : _ = Value.pointer (some ⟨k8, 0, none⟩))) gc; cases gd; exact (Nat.le_trans k2.size ka)))
           obtain ⟨gg, gh, gi, gj⟩ : ∃ b, g5 10 = Value.pointer (some ⟨b, 0, none⟩) ∧ s0.w.heap.size ≤ b ∧ Var g6 b 64 ((Deed.with_Tag (Deed.with_Peer (Deed.with_Req (⟨a0.Kind, 0, 0, 0, false⟩ : Deed) jw) a0.Peer) a0.Tag) : Deed) := g8 7 (by show _ < 9; decide) (by kernel_rfl)
           have gk : g5 10 = Value.pointer (some ⟨k8, 0, none⟩) := (ga 10 (by kernel_rfl)).trans g4
           have gl : gg = k8 := by have gd := gh.symm.trans gk; cases gd; rfl
           rw [gl] at gi gj
           have gm : g5 3 = j2 := (ga 3 (by kernel_rfl)).trans g1
           have gn : g5 7 = vb (true) := (ga 7 (by kernel_rfl)).trans g2
           have go : g5 8 = vb (decide (a0.Peer = (-1))) := (ga 8 (by kernel_rfl)).trans g3
           refine then_n (sr (ld ty64 gm (j4.mono (je.trans (jr.trans (k0.le.trans (k9.le.trans (ke.le.trans (kq.le.trans (kx.le.trans g7.le)))))))) (fun gp gq => L_load_var ty64 gk (gj) (by decide) (fun gr gs => L_seq64 (rv gp) gq (rv gr) gs (by decide) (mv (rfl : _ = vb (decide (a0 = (Deed.with_Tag (Deed.with_Peer (Deed.with_Req (⟨a0.Kind, 0, 0, 0, false⟩ : Deed) jw) a0.Peer) a0.Tag)))) ?_)))))
           rcases tf (decide (a0 = (Deed.with_Tag (Deed.with_Peer (Deed.with_Req (⟨a0.Kind, 0, 0, 0, false⟩ : Deed) jw) a0.Peer) a0.Tag))) with gu | gu
           ·have hr := ite_t gu hr; refine gt 103 (rfl : _ = vb (decide (a0 = (Deed.with_Tag (Deed.with_Peer (Deed.with_Req (⟨a0.Kind, 0, 0, 0, false⟩ : Deed) jw) a0.Peer) a0.Tag)))) gu (mv gn (pt (rfl : _ = vb (decide (a0 = (Deed.with_Tag (Deed.with_Peer (Deed.with_Req (⟨a0.Kind, 0, 0, 0, false⟩ : Deed) jw) a0.Peer) a0.Tag)))) gu (rv (vb true)) (mv (rv (vb true)) (gt 106 (rv (vb true)) rfl (mv go (pt (rv (vb true)) rfl (rv (vb (decide (a0.Peer = (-1))))) (asg (rv (vb (decide (a0.Peer = (-1))))) (nn (W_ret ?_))))))))); obtain rfl := Option.some.inj hr; exact done1 (Or.inl rfl) Try.results58 rfl ⟨_, _, rfl, rfl, gb, Vbool⟩
           ·have hr := ite_f gu hr; refine gf 103 (rfl : _ = vb (decide (a0 = (Deed.with_Tag (Deed.with_Peer (Deed.with_Req (⟨a0.Kind, 0, 0, 0, false⟩ : Deed) jw) a0.Peer) a0.Tag)))) gu (pf (rfl : _ = vb (decide (a0 = (Deed.with_Tag (Deed.with_Peer (Deed.with_Req (⟨a0.Kind, 0, 0, 0, false⟩ : Deed) jw) a0.Peer) a0.Tag)))) gu (rv (vb false)) (mv (rv (vb false)) (gf 106 (rv (vb false)) rfl (pf (rv (vb false)) rfl (rv (vb false)) (asg (rv (vb false)) (nn (W_ret ?_))))))); obtain rfl := Option.some.inj hr; exact done1 (Or.inl rfl) Try.results58 rfl ⟨_, _, rfl, rfl, gb, Vbool⟩
       ·have hr := ite_f kt hr
        rcases tf (jm) with ku | ku
        ·have hr := ite_t ku hr
         refine W_draws mixed (by kernel_rfl) [PV.eq (vb j9), PV.eq (vb j9), PV.ptr (a0.Tag : Int), PV.eq (vi (a0.Tag)), PV.eq (vb (decide (a0.Tag = (-1)))), PV.eq (vb (decide (a0.Tag = (-1)))), PV.eq (vb jm), PV.eq (vb jm), PV.eq (undef), PV.eq (undef), PV.eq (undef), PV.eq (vb true), PV.eq (vb (decide (a0.Tag = (-1)))), PV.eq (vb true)] (Steps_cons ?_ (Steps_cons ?_ (Steps_cons ?_ (Steps_cons ?_ (Steps_cons ?_ (Steps_cons ?_ (Steps_cons ?_ (Steps_cons ?_ (Steps_cons ?_ (Steps_cons ?_ (Steps_cons ?_ (Steps_cons ?_ (Steps_cons ?_ (Steps_cons ?_ Steps_nil)))))))))))))) ?_
         ·intro kv kw kx ky kz Q g0; have g1 : kv 7 = vb (j9) := (kz 7 (by kernel_rfl)).trans jv; exact mv g1 (fin g0 rfl)
         ·intro kv kw kx ky kz Q g0; have g1 : kv 52 = vb (j9) := ky 0 52 (by kernel_rfl) (by kernel_rfl); exact mv g1 (fin g0 rfl)
         ·intro kv kw kx ky kz Q g0; have g1 : kv 3 = j2 := (kz 3 (by kernel_rfl)).trans ju; have g2 : kv 53 = vb (j9) := ky 1 53 (by kernel_rfl) (by kernel_rfl); exact gt 53 g2 kt (fa fld64_2 Deed.of_Tag g1 (j4.mono (je.trans (jr.trans (k0.le.trans (k9.le.trans (ke.le.trans (kq.le.trans kx.le))))))) (fun g3 g4 => fin g0 g4))
         ·intro kv kw kx ky kz Q g0; have g1 : kv 53 = vb (j9) := ky 1 53 (by kernel_rfl) (by kernel_rfl); have g2 : Ptr _ (kv 54) (a0.Tag : Int) := ky 2 54 (by kernel_rfl) (by kernel_rfl); obtain ⟨g3, g4, g5⟩ : ∃ v, _ = v ∧ Ptr _ v _ := ⟨_, rfl, g2⟩; exact gt 53 g1 kt (li ty3 g4 g5 (fin g0 rfl))
         ·intro kv kw kx ky kz Q g0; have g1 : kv 53 = vb (j9) := ky 1 53 (by kernel_rfl) (by kernel_rfl); have g2 : kv 55 = vi (a0.Tag) := ky 3 55 (by kernel_rfl) (by kernel_rfl); exact gt 53 g1 kt (el g2 (rv (vi (-1))) (fin g0 rfl))
         ·intro kv kw kx ky kz Q g0; have g1 : kv 53 = vb (j9) := ky 1 53 (by kernel_rfl) (by kernel_rfl); have g2 : kv 56 = vb (decide (a0.Tag = (-1))) := ky 4 56 (by kernel_rfl) (by kernel_rfl); exact pf g1 kt g2 (fin g0 rfl)
         ·intro kv kw kx ky kz Q g0; have g1 : kv 8 = vb (jm) := (kz 8 (by kernel_rfl)).trans js; exact mv g1 (fin g0 rfl)
         ·intro kv kw kx ky kz Q g0; have g1 : kv 58 = vb (jm) := ky 6 58 (by kernel_rfl) (by kernel_rfl); exact mv g1 (fin g0 rfl)
         ·intro kv kw kx ky kz Q g0; have g1 : kv 59 = vb (jm) := ky 7 59 (by kernel_rfl) (by kernel_rfl); exact gf 59 g1 ku (fin g0 rfl)
         ·intro kv kw kx ky kz Q g0; have g1 : kv 59 = vb (jm) := ky 7 59 (by kernel_rfl) (by kernel_rfl); exact gf 59 g1 ku (fin g0 rfl)
         ·intro kv kw kx ky kz Q g0; have g1 : kv 59 = vb (jm) := ky 7 59 (by kernel_rfl) (by kernel_rfl); exact gf 59 g1 ku (fin g0 rfl)
         ·intro kv kw kx ky kz Q g0; have g1 : kv 59 = vb (jm) := ky 7 59 (by kernel_rfl) (by kernel_rfl); exact pt g1 ku (rv (vb true)) (fin g0 rfl)
         ·intro kv kw kx ky kz Q g0; have g1 : kv 57 = vb (decide (a0.Tag = (-1))) := ky 5 57 (by kernel_rfl) (by kernel_rfl); exact asg g1 (fin g0 rfl)
         ·intro kv kw kx ky kz Q g0; have g1 : kv 63 = vb (true) := ky 11 63 (by kernel_rfl) (by kernel_rfl); exact asg g1 (fin g0 rfl)
         ·intro kv kw kx ky kz
          have g0 := Tch.ext ks kx
          have g1 : kv 3 = j2 := (kz 3 (by kernel_rfl)).trans ju
          have g2 : kv 7 = vb (decide (a0.Tag = (-1))) := ky 12 7 (by kernel_rfl)
          have g3 : kv 8 = vb (true) := ky 13 8 (by kernel_rfl)
          have g4 : kv 10 = Value.pointer (some ⟨k8, 0, none⟩) := (kz 10 (by kernel_rfl)).trans rfl
          refine block_n (then_n (W_seq ?_))
          refine W_drawP mixed 8 [PX.ptr (a0.Peer : Int), PX.eq (vi (a0.Peer)), PX.ptr (a0.Tag : Int), PX.eq (vi (a0.Tag)), PX.eq (Value.pointer (some ⟨k8, 1, none⟩)), PX.var s0.w.heap.size 64 ((Deed.with_Peer (Deed.with_Req (⟨a0.Kind, 0, 0, 0, false⟩ : Deed) jw) a0.Peer) : Deed), PX.eq (Value.pointer (some ⟨k8, 2, none⟩)), PX.var s0.w.heap.size 64 ((Deed.with_Tag (Deed.with_Peer (Deed.with_Req (⟨a0.Kind, 0, 0, 0, false⟩ : Deed) jw) a0.Peer) a0.Tag) : Deed), PX.var s0.w.heap.size 64 ((Deed.with_Req (⟨a0.Kind, 0, 0, 0, false⟩ : Deed) jw) : Deed)] [94, 95, 96, 97, 98, 10, 99, 10, 10] [[], [], [], [], [], [8], [], [5]] rfl (by kernel_rfl) (ent1 rfl ⟨k8, g4, (Nat.le_trans k2.size ka), (kr).ext kx⟩) (dis1 rfl) (StepsX_cons ?_ (StepsX_cons ?_ (StepsX_cons ?_ (StepsX_cons ?_ (StepsX_cons ?_ (StepsX_cons ?_ (StepsX_cons ?_ (StepsX_cons ?_ StepsX_nil)))))))) ?_
          ·intro g5 g6 g7 g8 g9 Q ga; have gb : g5 3 = j2 := (g9 3 (by kernel_rfl)).trans g1; exact fa fld64_1 Deed.of_Peer gb (j4.mono (je.trans (jr.trans (k0.le.trans (k9.le.trans (ke.le.trans (kq.le.trans (kx.le.trans g7.le)))))))) (fun gc gd => L_nil (ga _ _ No (Ext.refl g6) (fun _ h => h.elim) gd (fun _ h => h.elim)))
          ·intro g5 g6 g7 g8 g9 Q ga; have gb : Ptr _ (g5 94) (a0.Peer : Int) := g8 0 (by kernel_rfl) (by show _ < 9; decide); obtain ⟨gc, gd, gg⟩ : ∃ v, _ = v ∧ Ptr _ v _ := ⟨_, rfl, gb⟩; exact li ty3 gd gg (L_nil (ga _ _ No (Ext.refl g6) (fun _ h => h.elim) rfl (fun _ h => h.elim)))
          ·intro g5 g6 g7 g8 g9 Q ga; have gb : g5 3 = j2 := (g9 3 (by kernel_rfl)).trans g1; exact fa fld64_2 Deed.of_Tag gb (j4.mono (je.trans (jr.trans (k0.le.trans (k9.le.trans (ke.le.trans (kq.le.trans (kx.le.trans g7.le)))))))) (fun gc gd => L_nil (ga _ _ No (Ext.refl g6) (fun _ h => h.elim) gd (fun _ h => h.elim)))
          ·intro g5 g6 g7 g8 g9 Q ga; have gb : Ptr _ (g5 96) (a0.Tag : Int) := g8 2 (by kernel_rfl) (by show _ < 9; decide); obtain ⟨gc, gd, gg⟩ : ∃ v, _ = v ∧ Ptr _ v _ := ⟨_, rfl, gb⟩; exact li ty3 gd gg (L_nil (ga _ _ No (Ext.refl g6) (fun _ h => h.elim) rfl (fun _ h => h.elim)))
          ·intro g5 g6 g7 g8 g9 Q ga
           obtain ⟨gb, gc, gd, gg⟩ : ∃ b, g5 10 = Value.pointer (some ⟨b, 0, none⟩) ∧ s0.w.heap.size ≤ b ∧ Var g6 b 64 ((Deed.with_Req (⟨a0.Kind, 0, 0, 0, false⟩ : Deed) jw) : Deed) := g8 8 (by kernel_rfl) (by show _ < 9; decide)
           have gh : g5 10 = Value.pointer (some ⟨k8, 0, none⟩) := (g9 10 (by kernel_rfl)).trans g4
           have gi : gb = k8 := by have gj := gc.symm.trans gh; cases gj; rfl
           rw [gi] at gd gg
           exact L_fieldAddr_var fld64_1 gh (by decide) (L_nil (ga _ _ No (Ext.refl g6) (fun _ h => h.elim) rfl (fun _ h => h.elim)))
          ·intro g5 g6 g7 g8 g9 Q ga
           obtain ⟨gb, gc, gd, gg⟩ : ∃ b, g5 10 = Value.pointer (some ⟨b, 0, none⟩) ∧ s0.w.heap.size ≤ b ∧ Var g6 b 64 ((Deed.with_Req (⟨a0.Kind, 0, 0, 0, false⟩ : Deed) jw) : Deed) := g8 8 (by kernel_rfl) (by show _ < 9; decide)
           have gh : g5 10 = Value.pointer (some ⟨k8, 0, none⟩) := (g9 10 (by kernel_rfl)).trans g4
           have gi : gb = k8 := by have gj := gc.symm.trans gh; cases gj; rfl
           rw [gi] at gd gg
           have gk : g5 95 = vi (a0.Peer) := g8 1 (by kernel_rfl) (by show _ < 9; decide)
           have gl : g5 98 = Value.pointer (some ⟨k8, 1, none⟩) := g8 4 (by kernel_rfl) (by show _ < 9; decide)
           exact L_store_field ty3 Deed.set_Peer gl gk Vint (gg) (fun gm gn go => L_nil (ga undef _ _ gn (fun k h => ⟨8, (List.mem_singleton.2 rfl : (8 : Nat) ∈ [8]), (by show ownP (g5 10) k; rw [gh]; exact congrArg (fun z => Value.pointer (some ⟨z, 0, none⟩)) h.symm)⟩) ⟨_, gh, gd, go⟩ (fun k h => Or.inl ⟨8, (List.mem_singleton.2 rfl : (8 : Nat) ∈ [8]), h⟩)))
          ·intro g5 g6 g7 g8 g9 Q ga
           obtain ⟨gb, gc, gd, gg⟩ : ∃ b, g5 10 = Value.pointer (some ⟨b, 0, none⟩) ∧ s0.w.heap.size ≤ b ∧ Var g6 b 64 ((Deed.with_Peer (Deed.with_Req (⟨a0.Kind, 0, 0, 0, false⟩ : Deed) jw) a0.Peer) : Deed) := g8 5 (by kernel_rfl) (by show _ < 9; decide)
           have gh : g5 10 = Value.pointer (some ⟨k8, 0, none⟩) := (g9 10 (by kernel_rfl)).trans g4
           have gi : gb = k8 := by have gj := gc.symm.trans gh; cases gj; rfl
           rw [gi] at gd gg
           exact L_fieldAddr_var fld64_2 gh (by decide) (L_nil (ga _ _ No (Ext.refl g6) (fun _ h => h.elim) rfl (fun _ h => h.elim)))
          ·intro g5 g6 g7 g8 g9 Q ga
           obtain ⟨gb, gc, gd, gg⟩ : ∃ b, g5 10 = Value.pointer (some ⟨b, 0, none⟩) ∧ s0.w.heap.size ≤ b ∧ Var g6 b 64 ((Deed.with_Peer (Deed.with_Req (⟨a0.Kind, 0, 0, 0, false⟩ : Deed) jw) a0.Peer) : Deed) := g8 5 (by kernel_rfl) (by show _ < 9; decide)
           have gh : g5 10 = Value.pointer (some ⟨k8, 0, none⟩) := (g9 10 (by kernel_rfl)).trans g4
           have gi : gb = k8 := by have gj := gc.symm.trans gh; cases gj; rfl
           rw [gi] at gd gg
           have gk : g5 97 = vi (a0.Tag) := g8 3 (by kernel_rfl) (by show _ < 9; decide)
           have gl : g5 99 = Value.pointer (some ⟨k8, 2, none⟩) := g8 6 (by kernel_rfl) (by show _ < 9; decide)
           exact L_store_field ty3 Deed.set_Tag gl gk Vint (gg) (fun gm gn go => L_nil (ga undef _ _ gn (fun k h => ⟨5, (List.mem_singleton.2 rfl : (5 : Nat) ∈ [5]), (by show ownP (g5 10) k; rw [gh]; exact congrArg (fun z => Value.pointer (some ⟨z, 0, none⟩)) h.symm)⟩) ⟨_, gh, gd, go⟩ (fun k h => Or.inl ⟨5, (List.mem_singleton.2 rfl : (5 : Nat) ∈ [5]), h⟩)))
          ·intro g5 g6 g7 g8 g9 ga
           have gb := Tch.trans g0 g7 (fun k h => Or.inr (by have gc := ent_is (k := 8) rfl rfl h; have gd := Eq.mp (congrArg (fun v => ownP v k) (g4 : _ = Value.pointer (some ⟨k8, 0, none⟩))) gc; cases gd; exact (Nat.le_trans k2.size ka)))
           obtain ⟨gg, gh, gi, gj⟩ : ∃ b, g5 10 = Value.pointer (some ⟨b, 0, none⟩) ∧ s0.w.heap.size ≤ b ∧ Var g6 b 64 ((Deed.with_Tag (Deed.with_Peer (Deed.with_Req (⟨a0.Kind, 0, 0, 0, false⟩ : Deed) jw) a0.Peer) a0.Tag) : Deed) := g8 7 (by show _ < 9; decide) (by kernel_rfl)
           have gk : g5 10 = Value.pointer (some ⟨k8, 0, none⟩) := (ga 10 (by kernel_rfl)).trans g4
           have gl : gg = k8 := by have gd := gh.symm.trans gk; cases gd; rfl
           rw [gl] at gi gj
           have gm : g5 3 = j2 := (ga 3 (by kernel_rfl)).trans g1
           have gn : g5 7 = vb (decide (a0.Tag = (-1))) := (ga 7 (by kernel_rfl)).trans g2
           have go : g5 8 = vb (true) := (ga 8 (by kernel_rfl)).trans g3
           refine then_n (sr (ld ty64 gm (j4.mono (je.trans (jr.trans (k0.le.trans (k9.le.trans (ke.le.trans (kq.le.trans (kx.le.trans g7.le)))))))) (fun gp gq => L_load_var ty64 gk (gj) (by decide) (fun gr gs => L_seq64 (rv gp) gq (rv gr) gs (by decide) (mv (rfl : _ = vb (decide (a0 = (Deed.with_Tag (Deed.with_Peer (Deed.with_Req (⟨a0.Kind, 0, 0, 0, false⟩ : Deed) jw) a0.Peer) a0.Tag)))) ?_)))))
           rcases tf (decide (a0 = (Deed.with_Tag (Deed.with_Peer (Deed.with_Req (⟨a0.Kind, 0, 0, 0, false⟩ : Deed) jw) a0.Peer) a0.Tag))) with gu | gu
           ·have hr := ite_t gu hr
            refine gt 103 (rfl : _ = vb (decide (a0 = (Deed.with_Tag (Deed.with_Peer (Deed.with_Req (⟨a0.Kind, 0, 0, 0, false⟩ : Deed) jw) a0.Peer) a0.Tag)))) gu (mv gn (pt (rfl : _ = vb (decide (a0 = (Deed.with_Tag (Deed.with_Peer (Deed.with_Req (⟨a0.Kind, 0, 0, 0, false⟩ : Deed) jw) a0.Peer) a0.Tag)))) gu (rv (vb (decide (a0.Tag = (-1))))) (mv (rv (vb (decide (a0.Tag = (-1))))) ?_)))
            rcases tf (decide (a0.Tag = (-1))) with gv | gv
            ·have hr := ite_t gv hr; refine gt 106 (rv (vb (decide (a0.Tag = (-1))))) gv (mv go (pt (rv (vb (decide (a0.Tag = (-1))))) gv (rv (vb true)) (asg (rv (vb true)) (nn (W_ret ?_))))); obtain rfl := Option.some.inj hr; exact done1 (Or.inl rfl) Try.results58 rfl ⟨_, _, rfl, rfl, gb, Vbool⟩
            ·have hr := ite_f gv hr; refine gf 106 (rv (vb (decide (a0.Tag = (-1))))) gv (pf (rv (vb (decide (a0.Tag = (-1))))) gv (rv (vb false)) (asg (rv (vb false)) (nn (W_ret ?_)))); obtain rfl := Option.some.inj hr; exact done1 (Or.inl rfl) Try.results58 rfl ⟨_, _, rfl, rfl, gb, Vbool⟩
           ·have hr := ite_f gu hr; refine gf 103 (rfl : _ = vb (decide (a0 = (Deed.with_Tag (Deed.with_Peer (Deed.with_Req (⟨a0.Kind, 0, 0, 0, false⟩ : Deed) jw) a0.Peer) a0.Tag)))) gu (pf (rfl : _ = vb (decide (a0 = (Deed.with_Tag (Deed.with_Peer (Deed.with_Req (⟨a0.Kind, 0, 0, 0, false⟩ : Deed) jw) a0.Peer) a0.Tag)))) gu (rv (vb false)) (mv (rv (vb false)) (gf 106 (rv (vb false)) rfl (pf (rv (vb false)) rfl (rv (vb false)) (asg (rv (vb false)) (nn (W_ret ?_))))))); obtain rfl := Option.some.inj hr; exact done1 (Or.inl rfl) Try.results58 rfl ⟨_, _, rfl, rfl, gb, Vbool⟩
        ·have hr := ite_f ku hr
         refine W_draws mixed (by kernel_rfl) [PV.eq (vb j9), PV.eq (vb j9), PV.ptr (a0.Tag : Int), PV.eq (vi (a0.Tag)), PV.eq (vb (decide (a0.Tag = (-1)))), PV.eq (vb (decide (a0.Tag = (-1)))), PV.eq (vb jm), PV.eq (vb jm), PV.ptr (a0.Peer : Int), PV.eq (vi (a0.Peer)), PV.eq (vb (decide (a0.Peer = (-1)))), PV.eq (vb (decide (a0.Peer = (-1)))), PV.eq (vb (decide (a0.Tag = (-1)))), PV.eq (vb (decide (a0.Peer = (-1))))] (Steps_cons ?_ (Steps_cons ?_ (Steps_cons ?_ (Steps_cons ?_ (Steps_cons ?_ (Steps_cons ?_ (Steps_cons ?_ (Steps_cons ?_ (Steps_cons ?_ (Steps_cons ?_ (Steps_cons ?_ (Steps_cons ?_ (Steps_cons ?_ (Steps_cons ?_ Steps_nil)))))))))))))) ?_
         ·intro kv kw kx ky kz Q g0; have g1 : kv 7 = vb (j9) := (kz 7 (by kernel_rfl)).trans jv; exact mv g1 (fin g0 rfl)
         ·intro kv kw kx ky kz Q g0; have g1 : kv 52 = vb (j9) := ky 0 52 (by kernel_rfl) (by kernel_rfl); exact mv g1 (fin g0 rfl)
         ·intro kv kw kx ky kz Q g0; have g1 : kv 3 = j2 := (kz 3 (by kernel_rfl)).trans ju; have g2 : kv 53 = vb (j9) := ky 1 53 (by kernel_rfl) (by kernel_rfl); exact gt 53 g2 kt (fa fld64_2 Deed.of_Tag g1 (j4.mono (je.trans (jr.trans (k0.le.trans (k9.le.trans (ke.le.trans (kq.le.trans kx.le))))))) (fun g3 g4 => fin g0 g4))
         ·intro kv kw kx ky kz Q g0; have g1 : kv 53 = vb (j9) := ky 1 53 (by kernel_rfl) (by kernel_rfl); have g2 : Ptr _ (kv 54) (a0.Tag : Int) := ky 2 54 (by kernel_rfl) (by kernel_rfl); obtain ⟨g3, g4, g5⟩ : ∃ v, _ = v ∧ Ptr _ v _ := ⟨_, rfl, g2⟩; exact gt 53 g1 kt (li ty3 g4 g5 (fin g0 rfl))
         ·intro kv kw kx ky kz Q g0; have g1 : kv 53 = vb (j9) := ky 1 53 (by kernel_rfl) (by kernel_rfl); have g2 : kv 55 = vi (a0.Tag) := ky 3 55 (by kernel_rfl) (by kernel_rfl); exact gt 53 g1 kt (el g2 (rv (vi (-1))) (fin g0 rfl))
         ·intro kv kw kx ky kz Q g0; have g1 : kv 53 = vb (j9) := ky 1 53 (by kernel_rfl) (by kernel_rfl); have g2 : kv 56 = vb (decide (a0.Tag = (-1))) := ky 4 56 (by kernel_rfl) (by kernel_rfl); exact pf g1 kt g2 (fin g0 rfl)
         ·intro kv kw kx ky kz Q g0; have g1 : kv 8 = vb (jm) := (kz 8 (by kernel_rfl)).trans js; exact mv g1 (fin g0 rfl)
         ·intro kv kw kx ky kz Q g0; have g1 : kv 58 = vb (jm) := ky 6 58 (by kernel_rfl) (by kernel_rfl); exact mv g1 (fin g0 rfl)
         ·intro kv kw kx ky kz Q g0; have g1 : kv 3 = j2 := (kz 3 (by kernel_rfl)).trans ju; have g2 : kv 59 = vb (jm) := ky 7 59 (by kernel_rfl) (by kernel_rfl); exact gt 59 g2 ku (fa fld64_1 Deed.of_Peer g1 (j4.mono (je.trans (jr.trans (k0.le.trans (k9.le.trans (ke.le.trans (kq.le.trans kx.le))))))) (fun g3 g4 => fin g0 g4))
         ·intro kv kw kx ky kz Q g0; have g1 : kv 59 = vb (jm) := ky 7 59 (by kernel_rfl) (by kernel_rfl); have g2 : Ptr _ (kv 60) (a0.Peer : Int) := ky 8 60 (by kernel_rfl) (by kernel_rfl); obtain ⟨g3, g4, g5⟩ : ∃ v, _ = v ∧ Ptr _ v _ := ⟨_, rfl, g2⟩; exact gt 59 g1 ku (li ty3 g4 g5 (fin g0 rfl))
         ·intro kv kw kx ky kz Q g0; have g1 : kv 59 = vb (jm) := ky 7 59 (by kernel_rfl) (by kernel_rfl); have g2 : kv 61 = vi (a0.Peer) := ky 9 61 (by kernel_rfl) (by kernel_rfl); exact gt 59 g1 ku (el g2 (rv (vi (-1))) (fin g0 rfl))
         ·intro kv kw kx ky kz Q g0; have g1 : kv 59 = vb (jm) := ky 7 59 (by kernel_rfl) (by kernel_rfl); have g2 : kv 62 = vb (decide (a0.Peer = (-1))) := ky 10 62 (by kernel_rfl) (by kernel_rfl); exact pf g1 ku g2 (fin g0 rfl)
         ·intro kv kw kx ky kz Q g0; have g1 : kv 57 = vb (decide (a0.Tag = (-1))) := ky 5 57 (by kernel_rfl) (by kernel_rfl); exact asg g1 (fin g0 rfl)
         ·intro kv kw kx ky kz Q g0; have g1 : kv 63 = vb (decide (a0.Peer = (-1))) := ky 11 63 (by kernel_rfl) (by kernel_rfl); exact asg g1 (fin g0 rfl)
         ·intro kv kw kx ky kz
          have g0 := Tch.ext ks kx
          have g1 : kv 3 = j2 := (kz 3 (by kernel_rfl)).trans ju
          have g2 : kv 7 = vb (decide (a0.Tag = (-1))) := ky 12 7 (by kernel_rfl)
          have g3 : kv 8 = vb (decide (a0.Peer = (-1))) := ky 13 8 (by kernel_rfl)
          have g4 : kv 10 = Value.pointer (some ⟨k8, 0, none⟩) := (kz 10 (by kernel_rfl)).trans rfl
          refine block_n (then_n (W_seq ?_))
          refine W_drawP mixed 8 [PX.ptr (a0.Peer : Int), PX.eq (vi (a0.Peer)), PX.ptr (a0.Tag : Int), PX.eq (vi (a0.Tag)), PX.eq (Value.pointer (some ⟨k8, 1, none⟩)), PX.var s0.w.heap.size 64 ((Deed.with_Peer (Deed.with_Req (⟨a0.Kind, 0, 0, 0, false⟩ : Deed) jw) a0.Peer) : Deed), PX.eq (Value.pointer (some ⟨k8, 2, none⟩)), PX.var s0.w.heap.size 64 ((Deed.with_Tag (Deed.with_Peer (Deed.with_Req (⟨a0.Kind, 0, 0, 0, false⟩ : Deed) jw) a0.Peer) a0.Tag) : Deed), PX.var s0.w.heap.size 64 ((Deed.with_Req (⟨a0.Kind, 0, 0, 0, false⟩ : Deed) jw) : Deed)] [94, 95, 96, 97, 98, 10, 99, 10, 10] [[], [], [], [], [], [8], [], [5]] rfl (by kernel_rfl) (ent1 rfl ⟨k8, g4, (Nat.le_trans k2.size ka), (kr).ext kx⟩) (dis1 rfl) (StepsX_cons ?_ (StepsX_cons ?_ (StepsX_cons ?_ (StepsX_cons ?_ (StepsX_cons ?_ (StepsX_cons ?_ (StepsX_cons ?_ (StepsX_cons ?_ StepsX_nil)))))))) ?_
          ·intro g5 g6 g7 g8 g9 Q ga; have gb : g5 3 = j2 := (g9 3 (by kernel_rfl)).trans g1; exact fa fld64_1 Deed.of_Peer gb (j4.mono (je.trans (jr.trans (k0.le.trans (k9.le.trans (ke.le.trans (kq.le.trans (kx.le.trans g7.le)))))))) (fun gc gd => L_nil (ga _ _ No (Ext.refl g6) (fun _ h => h.elim) gd (fun _ h => h.elim)))
          ·intro g5 g6 g7 g8 g9 Q ga; have gb : Ptr _ (g5 94) (a0.Peer : Int) := g8 0 (by kernel_rfl) (by show _ < 9; decide); obtain ⟨gc, gd, gg⟩ : ∃ v, _ = v ∧ Ptr _ v _ := ⟨_, rfl, gb⟩; exact li ty3 gd gg (L_nil (ga _ _ No (Ext.refl g6) (fun _ h => h.elim) rfl (fun _ h => h.elim)))
          ·intro g5 g6 g7 g8 g9 Q ga; have gb : g5 3 = j2 := (g9 3 (by kernel_rfl)).trans g1; exact fa fld64_2 Deed.of_Tag gb (j4.mono (je.trans (jr.trans (k0.le.trans (k9.le.trans (ke.le.trans (kq.le.trans (kx.le.trans g7.le)))))))) (fun gc gd => L_nil (ga _ _ No (Ext.refl g6) (fun _ h => h.elim) gd (fun _ h => h.elim)))
          ·intro g5 g6 g7 g8 g9 Q ga; have gb : Ptr _ (g5 96) (a0.Tag : Int) := g8 2 (by kernel_rfl) (by show _ < 9; decide); obtain ⟨gc, gd, gg⟩ : ∃ v, _ = v ∧ Ptr _ v _ := ⟨_, rfl, gb⟩; exact li ty3 gd gg (L_nil (ga _ _ No (Ext.refl g6) (fun _ h => h.elim) rfl (fun _ h => h.elim)))
          ·intro g5 g6 g7 g8 g9 Q ga
           obtain ⟨gb, gc, gd, gg⟩ : ∃ b, g5 10 = Value.pointer (some ⟨b, 0, none⟩) ∧ s0.w.heap.size ≤ b ∧ Var g6 b 64 ((Deed.with_Req (⟨a0.Kind, 0, 0, 0, false⟩ : Deed) jw) : Deed) := g8 8 (by kernel_rfl) (by show _ < 9; decide)
           have gh : g5 10 = Value.pointer (some ⟨k8, 0, none⟩) := (g9 10 (by kernel_rfl)).trans g4
           have gi : gb = k8 := by have gj := gc.symm.trans gh; cases gj; rfl
           rw [gi] at gd gg
           exact L_fieldAddr_var fld64_1 gh (by decide) (L_nil (ga _ _ No (Ext.refl g6) (fun _ h => h.elim) rfl (fun _ h => h.elim)))
          ·intro g5 g6 g7 g8 g9 Q ga
           obtain ⟨gb, gc, gd, gg⟩ : ∃ b, g5 10 = Value.pointer (some ⟨b, 0, none⟩) ∧ s0.w.heap.size ≤ b ∧ Var g6 b 64 ((Deed.with_Req (⟨a0.Kind, 0, 0, 0, false⟩ : Deed) jw) : Deed) := g8 8 (by kernel_rfl) (by show _ < 9; decide)
           have gh : g5 10 = Value.pointer (some ⟨k8, 0, none⟩) := (g9 10 (by kernel_rfl)).trans g4
           have gi : gb = k8 := by have gj := gc.symm.trans gh; cases gj; rfl
           rw [gi] at gd gg
           have gk : g5 95 = vi (a0.Peer) := g8 1 (by kernel_rfl) (by show _ < 9; decide)
           have gl : g5 98 = Value.pointer (some ⟨k8, 1, none⟩) := g8 4 (by kernel_rfl) (by show _ < 9; decide)
           exact L_store_field ty3 Deed.set_Peer gl gk Vint (gg) (fun gm gn go => L_nil (ga undef _ _ gn (fun k h => ⟨8, (List.mem_singleton.2 rfl : (8 : Nat) ∈ [8]), (by show ownP (g5 10) k; rw [gh]; exact congrArg (fun z => Value.pointer (some ⟨z, 0, none⟩)) h.symm)⟩) ⟨_, gh, gd, go⟩ (fun k h => Or.inl ⟨8, (List.mem_singleton.2 rfl : (8 : Nat) ∈ [8]), h⟩)))
          ·intro g5 g6 g7 g8 g9 Q ga
           obtain ⟨gb, gc, gd, gg⟩ : ∃ b, g5 10 = Value.pointer (some ⟨b, 0, none⟩) ∧ s0.w.heap.size ≤ b ∧ Var g6 b 64 ((Deed.with_Peer (Deed.with_Req (⟨a0.Kind, 0, 0, 0, false⟩ : Deed) jw) a0.Peer) : Deed) := g8 5 (by kernel_rfl) (by show _ < 9; decide)
           have gh : g5 10 = Value.pointer (some ⟨k8, 0, none⟩) := (g9 10 (by kernel_rfl)).trans g4
           have gi : gb = k8 := by have gj := gc.symm.trans gh; cases gj; rfl
           rw [gi] at gd gg
           exact L_fieldAddr_var fld64_2 gh (by decide) (L_nil (ga _ _ No (Ext.refl g6) (fun _ h => h.elim) rfl (fun _ h => h.elim)))
          ·intro g5 g6 g7 g8 g9 Q ga
           obtain ⟨gb, gc, gd, gg⟩ : ∃ b, g5 10 = Value.pointer (some ⟨b, 0, none⟩) ∧ s0.w.heap.size ≤ b ∧ Var g6 b 64 ((Deed.with_Peer (Deed.with_Req (⟨a0.Kind, 0, 0, 0, false⟩ : Deed) jw) a0.Peer) : Deed) := g8 5 (by kernel_rfl) (by show _ < 9; decide)
           have gh : g5 10 = Value.pointer (some ⟨k8, 0, none⟩) := (g9 10 (by kernel_rfl)).trans g4
           have gi : gb = k8 := by have gj := gc.symm.trans gh; cases gj; rfl
           rw [gi] at gd gg
           have gk : g5 97 = vi (a0.Tag) := g8 3 (by kernel_rfl) (by show _ < 9; decide)
           have gl : g5 99 = Value.pointer (some ⟨k8, 2, none⟩) := g8 6 (by kernel_rfl) (by show _ < 9; decide)
           exact L_store_field ty3 Deed.set_Tag gl gk Vint (gg) (fun gm gn go => L_nil (ga undef _ _ gn (fun k h => ⟨5, (List.mem_singleton.2 rfl : (5 : Nat) ∈ [5]), (by show ownP (g5 10) k; rw [gh]; exact congrArg (fun z => Value.pointer (some ⟨z, 0, none⟩)) h.symm)⟩) ⟨_, gh, gd, go⟩ (fun k h => Or.inl ⟨5, (List.mem_singleton.2 rfl : (5 : Nat) ∈ [5]), h⟩)))
          ·intro g5 g6 g7 g8 g9 ga
           have gb := Tch.trans g0 g7 (fun k h => Or.inr (by have gc := ent_is (k := 8) rfl rfl h; have gd := Eq.mp (congrArg (fun v => ownP v k) (g4 : _ = Value.pointer (some ⟨k8, 0, none⟩))) gc; cases gd; exact (Nat.le_trans k2.size ka)))
           obtain ⟨gg, gh, gi, gj⟩ : ∃ b, g5 10 = Value.pointer (some ⟨b, 0, none⟩) ∧ s0.w.heap.size ≤ b ∧ Var g6 b 64 ((Deed.with_Tag (Deed.with_Peer (Deed.with_Req (⟨a0.Kind, 0, 0, 0, false⟩ : Deed) jw) a0.Peer) a0.Tag) : Deed) := g8 7 (by show _ < 9; decide) (by kernel_rfl)
           have gk : g5 10 = Value.pointer (some ⟨k8, 0, none⟩) := (ga 10 (by kernel_rfl)).trans g4
           have gl : gg = k8 := by have gd := gh.symm.trans gk; cases gd; rfl
           rw [gl] at gi gj
           have gm : g5 3 = j2 := (ga 3 (by kernel_rfl)).trans g1
           have gn : g5 7 = vb (decide (a0.Tag = (-1))) := (ga 7 (by kernel_rfl)).trans g2
           have go : g5 8 = vb (decide (a0.Peer = (-1))) := (ga 8 (by kernel_rfl)).trans g3
           refine then_n (sr (ld ty64 gm (j4.mono (je.trans (jr.trans (k0.le.trans (k9.le.trans (ke.le.trans (kq.le.trans (kx.le.trans g7.le)))))))) (fun gp gq => L_load_var ty64 gk (gj) (by decide) (fun gr gs => L_seq64 (rv gp) gq (rv gr) gs (by decide) (mv (rfl : _ = vb (decide (a0 = (Deed.with_Tag (Deed.with_Peer (Deed.with_Req (⟨a0.Kind, 0, 0, 0, false⟩ : Deed) jw) a0.Peer) a0.Tag)))) ?_)))))
           rcases tf (decide (a0 = (Deed.with_Tag (Deed.with_Peer (Deed.with_Req (⟨a0.Kind, 0, 0, 0, false⟩ : Deed) jw) a0.Peer) a0.Tag))) with gu | gu
           ·have hr := ite_t gu hr
            refine gt 103 (rfl : _ = vb (decide (a0 = (Deed.with_Tag (Deed.with_Peer (Deed.with_Req (⟨a0.Kind, 0, 0, 0, false⟩ : Deed) jw) a0.Peer) a0.Tag)))) gu (mv gn (pt (rfl : _ = vb (decide (a0 = (Deed.with_Tag (Deed.with_Peer (Deed.with_Req (⟨a0.Kind, 0, 0, 0, false⟩ : Deed) jw) a0.Peer) a0.Tag)))) gu (rv (vb (decide (a0.Tag = (-1))))) (mv (rv (vb (decide (a0.Tag = (-1))))) ?_)))
            rcases tf (decide (a0.Tag = (-1))) with gv | gv
            ·have hr := ite_t gv hr; refine gt 106 (rv (vb (decide (a0.Tag = (-1))))) gv (mv go (pt (rv (vb (decide (a0.Tag = (-1))))) gv (rv (vb (decide (a0.Peer = (-1))))) (asg (rv (vb (decide (a0.Peer = (-1))))) (nn (W_ret ?_))))); obtain rfl := Option.some.inj hr; exact done1 (Or.inl rfl) Try.results58 rfl ⟨_, _, rfl, rfl, gb, Vbool⟩
            ·have hr := ite_f gv hr; refine gf 106 (rv (vb (decide (a0.Tag = (-1))))) gv (pf (rv (vb (decide (a0.Tag = (-1))))) gv (rv (vb false)) (asg (rv (vb false)) (nn (W_ret ?_)))); obtain rfl := Option.some.inj hr; exact done1 (Or.inl rfl) Try.results58 rfl ⟨_, _, rfl, rfl, gb, Vbool⟩
           ·have hr := ite_f gu hr; refine gf 103 (rfl : _ = vb (decide (a0 = (Deed.with_Tag (Deed.with_Peer (Deed.with_Req (⟨a0.Kind, 0, 0, 0, false⟩ : Deed) jw) a0.Peer) a0.Tag)))) gu (pf (rfl : _ = vb (decide (a0 = (Deed.with_Tag (Deed.with_Peer (Deed.with_Req (⟨a0.Kind, 0, 0, 0, false⟩ : Deed) jw) a0.Peer) a0.Tag)))) gu (rv (vb false)) (mv (rv (vb false)) (gf 106 (rv (vb false)) rfl (pf (rv (vb false)) rfl (rv (vb false)) (asg (rv (vb false)) (nn (W_ret ?_))))))); obtain rfl := Option.some.inj hr; exact done1 (Or.inl rfl) Try.results58 rfl ⟨_, _, rfl, rfl, gb, Vbool⟩
      ·have hr := ite_f ko hr
       refine W_skip (then_n ?_)
       rcases tf (j9) with kp | kp
       ·have hr := ite_t kp hr
        rcases tf (jm) with kq | kq
        ·have hr := ite_t kq hr
         refine W_draws mixed (by kernel_rfl) [PV.eq (vb j9), PV.eq (vb j9), PV.eq (undef), PV.eq (undef), PV.eq (undef), PV.eq (vb true), PV.eq (vb jm), PV.eq (vb jm), PV.eq (undef), PV.eq (undef), PV.eq (undef), PV.eq (vb true), PV.eq (vb true), PV.eq (vb true)] (Steps_cons ?_ (Steps_cons ?_ (Steps_cons ?_ (Steps_cons ?_ (Steps_cons ?_ (Steps_cons ?_ (Steps_cons ?_ (Steps_cons ?_ (Steps_cons ?_ (Steps_cons ?_ (Steps_cons ?_ (Steps_cons ?_ (Steps_cons ?_ (Steps_cons ?_ Steps_nil)))))))))))))) ?_
         ·intro kr ks kt ku kv Q kw; have kx : kr 7 = vb (j9) := (kv 7 (by kernel_rfl)).trans jv; exact mv kx (fin kw rfl)
         ·intro kr ks kt ku kv Q kw; have kx : kr 52 = vb (j9) := ku 0 52 (by kernel_rfl) (by kernel_rfl); exact mv kx (fin kw rfl)
         ·intro kr ks kt ku kv Q kw; have kx : kr 53 = vb (j9) := ku 1 53 (by kernel_rfl) (by kernel_rfl); exact gf 53 kx kp (fin kw rfl)
         ·intro kr ks kt ku kv Q kw; have kx : kr 53 = vb (j9) := ku 1 53 (by kernel_rfl) (by kernel_rfl); exact gf 53 kx kp (fin kw rfl)
         ·intro kr ks kt ku kv Q kw; have kx : kr 53 = vb (j9) := ku 1 53 (by kernel_rfl) (by kernel_rfl); exact gf 53 kx kp (fin kw rfl)
         ·intro kr ks kt ku kv Q kw; have kx : kr 53 = vb (j9) := ku 1 53 (by kernel_rfl) (by kernel_rfl); exact pt kx kp (rv (vb true)) (fin kw rfl)
         ·intro kr ks kt ku kv Q kw; have kx : kr 8 = vb (jm) := (kv 8 (by kernel_rfl)).trans js; exact mv kx (fin kw rfl)
         ·intro kr ks kt ku kv Q kw; have kx : kr 58 = vb (jm) := ku 6 58 (by kernel_rfl) (by kernel_rfl); exact mv kx (fin kw rfl)
         ·intro kr ks kt ku kv Q kw; have kx : kr 59 = vb (jm) := ku 7 59 (by kernel_rfl) (by kernel_rfl); exact gf 59 kx kq (fin kw rfl)
         ·intro kr ks kt ku kv Q kw; have kx : kr 59 = vb (jm) := ku 7 59 (by kernel_rfl) (by kernel_rfl); exact gf 59 kx kq (fin kw rfl)
         ·intro kr ks kt ku kv Q kw; have kx : kr 59 = vb (jm) := ku 7 59 (by kernel_rfl) (by kernel_rfl); exact gf 59 kx kq (fin kw rfl)
         ·intro kr ks kt ku kv Q kw; have kx : kr 59 = vb (jm) := ku 7 59 (by kernel_rfl) (by kernel_rfl); exact pt kx kq (rv (vb true)) (fin kw rfl)
         ·intro kr ks kt ku kv Q kw; have kx : kr 57 = vb (true) := ku 5 57 (by kernel_rfl) (by kernel_rfl); exact asg kx (fin kw rfl)
         ·intro kr ks kt ku kv Q kw; have kx : kr 63 = vb (true) := ku 11 63 (by kernel_rfl) (by kernel_rfl); exact asg kx (fin kw rfl)
         ·intro kr ks kt ku kv
          have kw := Tch.ext kg kt
          have kx : kr 3 = j2 := (kv 3 (by kernel_rfl)).trans ju
          have ky : kr 7 = vb (true) := ku 12 7 (by kernel_rfl)
          have kz : kr 8 = vb (true) := ku 13 8 (by kernel_rfl)
          have g0 : kr 10 = Value.pointer (some ⟨k8, 0, none⟩) := (kv 10 (by kernel_rfl)).trans rfl
          refine block_n (then_n (W_seq ?_))
          refine W_drawP mixed 8 [PX.ptr (a0.Peer : Int), PX.eq (vi (a0.Peer)), PX.ptr (a0.Tag : Int), PX.eq (vi (a0.Tag)), PX.eq (Value.pointer (some ⟨k8, 1, none⟩)), PX.var s0.w.heap.size 64 ((Deed.with_Peer (⟨a0.Kind, 0, 0, 0, false⟩ : Deed) a0.Peer) : Deed), PX.eq (Value.pointer (some ⟨k8, 2, none⟩)), PX.var s0.w.heap.size 64 ((Deed.with_Tag (Deed.with_Peer (⟨a0.Kind, 0, 0, 0, false⟩ : Deed) a0.Peer) a0.Tag) : Deed), PX.var s0.w.heap.size 64 ((⟨a0.Kind, 0, 0, 0, false⟩ : Deed) : Deed)] [94, 95, 96, 97, 98, 10, 99, 10, 10] [[], [], [], [], [], [8], [], [5]] rfl (by kernel_rfl) (ent1 rfl ⟨k8, g0, (Nat.le_trans k2.size ka), (kf).ext kt⟩) (dis1 rfl) (StepsX_cons ?_ (StepsX_cons ?_ (StepsX_cons ?_ (StepsX_cons ?_ (StepsX_cons ?_ (StepsX_cons ?_ (StepsX_cons ?_ (StepsX_cons ?_ StepsX_nil)))))))) ?_
          ·intro g1 g2 g3 g4 g5 Q g6; have g7 : g1 3 = j2 := (g5 3 (by kernel_rfl)).trans kx; exact fa fld64_1 Deed.of_Peer g7 (j4.mono (je.trans (jr.trans (k0.le.trans (k9.le.trans (ke.le.trans (kt.le.trans g3.le))))))) (fun g8 g9 => L_nil (g6 _ _ No (Ext.refl g2) (fun _ h => h.elim) g9 (fun _ h => h.elim)))
          ·intro g1 g2 g3 g4 g5 Q g6; have g7 : Ptr _ (g1 94) (a0.Peer : Int) := g4 0 (by kernel_rfl) (by show _ < 9; decide); obtain ⟨g8, g9, ga⟩ : ∃ v, _ = v ∧ Ptr _ v _ := ⟨_, rfl, g7⟩; exact li ty3 g9 ga (L_nil (g6 _ _ No (Ext.refl g2) (fun _ h => h.elim) rfl (fun _ h => h.elim)))
          ·intro g1 g2 g3 g4 g5 Q g6; have g7 : g1 3 = j2 := (g5 3 (by kernel_rfl)).trans kx; exact fa fld64_2 Deed.of_Tag g7 (j4.mono (je.trans (jr.trans (k0.le.trans (k9.le.trans (ke.le.trans (kt.le.trans g3.le))))))) (fun g8 g9 => L_nil (g6 _ _ No (Ext.refl g2) (fun _ h => h.elim) g9 (fun _ h => h.elim)))
          ·intro g1 g2 g3 g4 g5 Q g6; have g7 : Ptr _ (g1 96) (a0.Tag : Int) := g4 2 (by kernel_rfl) (by show _ < 9; decide); obtain ⟨g8, g9, ga⟩ : ∃ v, _ = v ∧ Ptr _ v _ := ⟨_, rfl, g7⟩; exact li ty3 g9 ga (L_nil (g6 _ _ No (Ext.refl g2) (fun _ h => h.elim) rfl (fun _ h => h.elim)))
          ·intro g1 g2 g3 g4 g5 Q g6
           obtain ⟨g7, g8, g9, ga⟩ : ∃ b, g1 10 = Value.pointer (some ⟨b, 0, none⟩) ∧ s0.w.heap.size ≤ b ∧ Var g2 b 64 ((⟨a0.Kind, 0, 0, 0, false⟩ : Deed) : Deed) := g4 8 (by kernel_rfl) (by show _ < 9; decide)
           have gb : g1 10 = Value.pointer (some ⟨k8, 0, none⟩) := (g5 10 (by kernel_rfl)).trans g0
           have gc : g7 = k8 := by have gd := g8.symm.trans gb; cases gd; rfl
           rw [gc] at g9 ga
           exact L_fieldAddr_var fld64_1 gb (by decide) (L_nil (g6 _ _ No (Ext.refl g2) (fun _ h => h.elim) rfl (fun _ h => h.elim)))
          ·intro g1 g2 g3 g4 g5 Q g6
           obtain ⟨g7, g8, g9, ga⟩ : ∃ b, g1 10 = Value.pointer (some ⟨b, 0, none⟩) ∧ s0.w.heap.size ≤ b ∧ Var g2 b 64 ((⟨a0.Kind, 0, 0, 0, false⟩ : Deed) : Deed) := g4 8 (by kernel_rfl) (by show _ < 9; decide)
           have gb : g1 10 = Value.pointer (some ⟨k8, 0, none⟩) := (g5 10 (by kernel_rfl)).trans g0
           have gc : g7 = k8 := by have gd := g8.symm.trans gb; cases gd; rfl
           rw [gc] at g9 ga
           have gg : g1 95 = vi (a0.Peer) := g4 1 (by kernel_rfl) (by show _ < 9; decide)
           have gh : g1 98 = Value.pointer (some ⟨k8, 1, none⟩) := g4 4 (by kernel_rfl) (by show _ < 9; decide)
           exact L_store_field ty3 Deed.set_Peer gh gg Vint (ga) (fun gi gj gk => L_nil (g6 undef _ _ gj (fun k h => ⟨8, (List.mem_singleton.2 rfl : (8 : Nat) ∈ [8]), (by show ownP (g1 10) k; rw [gb]; exact congrArg (fun z => Value.pointer (some ⟨z, 0, none⟩)) h.symm)⟩) ⟨_, gb, g9, gk⟩ (fun k h => Or.inl ⟨8, (List.mem_singleton.2 rfl : (8 : Nat) ∈ [8]), h⟩)))
          ·intro g1 g2 g3 g4 g5 Q g6
           obtain ⟨g7, g8, g9, ga⟩ : ∃ b, g1 10 = Value.pointer (some ⟨b, 0, none⟩) ∧ s0.w.heap.size ≤ b ∧ Var g2 b 64 ((Deed.with_Peer (⟨a0.Kind, 0, 0, 0, false⟩ : Deed) a0.Peer) : Deed) := g4 5 (by kernel_rfl) (by show _ < 9; decide)
           have gb : g1 10 = Value.pointer (some ⟨k8, 0, none⟩) := (g5 10 (by kernel_rfl)).trans g0
           have gc : g7 = k8 := by have gd := g8.symm.trans gb; cases gd; rfl
           rw [gc] at g9 ga
           exact L_fieldAddr_var fld64_2 gb (by decide) (L_nil (g6 _ _ No (Ext.refl g2) (fun _ h => h.elim) rfl (fun _ h => h.elim)))
          ·intro g1 g2 g3 g4 g5 Q g6
           obtain ⟨g7, g8, g9, ga⟩ : ∃ b, g1 10 = Value.pointer (some ⟨b, 0, none⟩) ∧ s0.w.heap.size ≤ b ∧ Var g2 b 64 ((Deed.with_Peer (⟨a0.Kind, 0, 0, 0, false⟩ : Deed) a0.Peer) : Deed) := g4 5 (by kernel_rfl) (by show _ < 9; decide)
           have gb : g1 10 = Value.pointer (some ⟨k8, 0, none⟩) := (g5 10 (by kernel_rfl)).trans g0
           have gc : g7 = k8 := by have gd := g8.symm.trans gb; cases gd; rfl
           rw [gc] at g9 ga
           have gg : g1 97 = vi (a0.Tag) := g4 3 (by kernel_rfl) (by show _ < 9; decide)
           have gh : g1 99 = Value.pointer (some ⟨k8, 2, none⟩) := g4 6 (by kernel_rfl) (by show _ < 9; decide)
           exact L_store_field ty3 Deed.set_Tag gh gg Vint (ga) (fun gi gj gk => L_nil (g6 undef _ _ gj (fun k h => ⟨5, (List.mem_singleton.2 rfl : (5 : Nat) ∈ [5]), (by show ownP (g1 10) k; rw [gb]; exact congrArg (fun z => Value.pointer (some ⟨z, 0, none⟩)) h.symm)⟩) ⟨_, gb, g9, gk⟩ (fun k h => Or.inl ⟨5, (List.mem_singleton.2 rfl : (5 : Nat) ∈ [5]), h⟩)))
          ·intro g1 g2 g3 g4 g5 g6
           have g7 := Tch.trans kw g3 (fun k h => Or.inr (by have g8 := ent_is (k := 8) rfl rfl h; have g9 := Eq.mp (congrArg (fun v => ownP v k) (g0 : _ = Value.pointer (some ⟨k8, 0, none⟩))) g8; cases g9; exact (Nat.le_trans k2.size ka)))
           obtain ⟨ga, gb, gc, gd⟩ : ∃ b, g1 10 = Value.pointer (some ⟨b, 0, none⟩) ∧ s0.w.heap.size ≤ b ∧ Var g2 b 64 ((Deed.with_Tag (Deed.with_Peer (⟨a0.Kind, 0, 0, 0, false⟩ : Deed) a0.Peer) a0.Tag) : Deed) := g4 7 (by show _ < 9; decide) (by kernel_rfl)
           have gg : g1 10 = Value.pointer (some ⟨k8, 0, none⟩) := (g6 10 (by kernel_rfl)).trans g0
           have gh : ga = k8 := by have g9 := gb.symm.trans gg; cases g9; rfl
           rw [gh] at gc gd
           have gi : g1 3 = j2 := (g6 3 (by kernel_rfl)).trans kx
           have gj : g1 7 = vb (true) := (g6 7 (by kernel_rfl)).trans ky
           have gk : g1 8 = vb (true) := (g6 8 (by kernel_rfl)).trans kz
           refine then_n (sr (ld ty64 gi (j4.mono (je.trans (jr.trans (k0.le.trans (k9.le.trans (ke.le.trans (kt.le.trans g3.le))))))) (fun gl gm => L_load_var ty64 gg (gd) (by decide) (fun gn go => L_seq64 (rv gl) gm (rv gn) go (by decide) (mv (rfl : _ = vb (decide (a0 = (Deed.with_Tag (Deed.with_Peer (⟨a0.Kind, 0, 0, 0, false⟩ : Deed) a0.Peer) a0.Tag)))) ?_)))))
           rcases tf (decide (a0 = (Deed.with_Tag (Deed.with_Peer (⟨a0.Kind, 0, 0, 0, false⟩ : Deed) a0.Peer) a0.Tag))) with gp | gp
           ·have hr := ite_t gp hr; refine gt 103 (rfl : _ = vb (decide (a0 = (Deed.with_Tag (Deed.with_Peer (⟨a0.Kind, 0, 0, 0, false⟩ : Deed) a0.Peer) a0.Tag)))) gp (mv gj (pt (rfl : _ = vb (decide (a0 = (Deed.with_Tag (Deed.with_Peer (⟨a0.Kind, 0, 0, 0, false⟩ : Deed) a0.Peer) a0.Tag)))) gp (rv (vb true)) (mv (rv (vb true)) (gt 106 (rv (vb true)) rfl (mv gk (pt (rv (vb true)) rfl (rv (vb true)) (asg (rv (vb true)) (nn (W_ret ?_))))))))); obtain rfl := Option.some.inj hr; exact done1 (Or.inl rfl) Try.results58 rfl ⟨_, _, rfl, rfl, g7, Vbool⟩
           ·have hr := ite_f gp hr; refine gf 103 (rfl : _ = vb (decide (a0 = (Deed.with_Tag (Deed.with_Peer (⟨a0.Kind, 0, 0, 0, false⟩ : Deed) a0.Peer) a0.Tag)))) gp (pf (rfl : _ = vb (decide (a0 = (Deed.with_Tag (Deed.with_Peer (⟨a0.Kind, 0, 0, 0, false⟩ : Deed) a0.Peer) a0.Tag)))) gp (rv (vb false)) (mv (rv (vb false)) (gf 106 (rv (vb false)) rfl (pf (rv (vb false)) rfl (rv (vb false)) (asg (rv (vb false)) (nn (W_ret ?_))))))); obtain rfl := Option.some.inj hr; exact done1 (Or.inl rfl) Try.results58 rfl ⟨_, _, rfl, rfl, g7, Vbool⟩
        ·have hr := ite_f kq hr
         refine W_draws mixed (by kernel_rfl) [PV.eq (vb j9), PV.eq (vb j9), PV.eq (undef), PV.eq (undef), PV.eq (undef), PV.eq (vb true), PV.eq (vb jm), PV.eq (vb jm), PV.ptr (a0.Peer : Int), PV.eq (vi (a0.Peer)), PV.eq (vb (decide (a0.Peer = (-1)))), PV.eq (vb (decide (a0.Peer = (-1)))), PV.eq (vb true), PV.eq (vb (decide (a0.Peer = (-1))))] (Steps_cons ?_ (Steps_cons ?_ (Steps_cons ?_ (Steps_cons ?_ (Steps_cons ?_ (Steps_cons ?_ (Steps_cons ?_ (Steps_cons ?_ (Steps_cons ?_ (Steps_cons ?_ (Steps_cons ?_ (Steps_cons ?_ (Steps_cons ?_ (Steps_cons ?_ Steps_nil)))))))))))))) ?_
         ·intro kr ks kt ku kv Q kw; have kx : kr 7 = vb (j9) := (kv 7 (by kernel_rfl)).trans jv; exact mv kx (fin kw rfl)
         ·intro kr ks kt ku kv Q kw; have kx : kr 52 = vb (j9) := ku 0 52 (by kernel_rfl) (by kernel_rfl); exact mv kx (fin kw rfl)
         ·intro kr ks kt ku kv Q kw; have kx : kr 53 = vb (j9) := ku 1 53 (by kernel_rfl) (by kernel_rfl); exact gf 53 kx kp (fin kw rfl)
         ·intro kr ks kt ku kv Q kw; have kx : kr 53 = vb (j9) := ku 1 53 (by kernel_rfl) (by kernel_rfl); exact gf 53 kx kp (fin kw rfl)
         ·intro kr ks kt ku kv Q kw; have kx : kr 53 = vb (j9) := ku 1 53 (by kernel_rfl) (by kernel_rfl); exact gf 53 kx kp (fin kw rfl)
         ·intro kr ks kt ku kv Q kw; have kx : kr 53 = vb (j9) := ku 1 53 (by kernel_rfl) (by kernel_rfl); exact pt kx kp (rv (vb true)) (fin kw rfl)
         ·intro kr ks kt ku kv Q kw; have kx : kr 8 = vb (jm) := (kv 8 (by kernel_rfl)).trans js; exact mv kx (fin kw rfl)
         ·intro kr ks kt ku kv Q kw; have kx : kr 58 = vb (jm) := ku 6 58 (by kernel_rfl) (by kernel_rfl); exact mv kx (fin kw rfl)
         ·intro kr ks kt ku kv Q kw; have kx : kr 3 = j2 := (kv 3 (by kernel_rfl)).trans ju; have ky : kr 59 = vb (jm) := ku 7 59 (by kernel_rfl) (by kernel_rfl); exact gt 59 ky kq (fa fld64_1 Deed.of_Peer kx (j4.mono (je.trans (jr.trans (k0.le.trans (k9.le.trans (ke.le.trans kt.le)))))) (fun kz g0 => fin kw g0))
         ·intro kr ks kt ku kv Q kw; have kx : kr 59 = vb (jm) := ku 7 59 (by kernel_rfl) (by kernel_rfl); have ky : Ptr _ (kr 60) (a0.Peer : Int) := ku 8 60 (by kernel_rfl) (by kernel_rfl); obtain ⟨kz, g0, g1⟩ : ∃ v, _ = v ∧ Ptr _ v _ := ⟨_, rfl, ky⟩; exact gt 59 kx kq (li ty3 g0 g1 (fin kw rfl))
         ·intro kr ks kt ku kv Q kw; have kx : kr 59 = vb (jm) := ku 7 59 (by kernel_rfl) (by kernel_rfl); have ky : kr 61 = vi (a0.Peer) := ku 9 61 (by kernel_rfl) (by kernel_rfl); exact gt 59 kx kq (el ky (rv (vi (-1))) (fin kw rfl))
         ·intro kr ks kt ku kv Q kw; have kx : kr 59 = vb (jm) := ku 7 59 (by kernel_rfl) (by kernel_rfl); have ky : kr 62 = vb (decide (a0.Peer = (-1))) := ku 10 62 (by kernel_rfl) (by kernel_rfl); exact pf kx kq ky (fin kw rfl)
         ·intro kr ks kt ku kv Q kw; have kx : kr 57 = vb (true) := ku 5 57 (by kernel_rfl) (by kernel_rfl); exact asg kx (fin kw rfl)
         ·intro kr ks kt ku kv Q kw; have kx : kr 63 = vb (decide (a0.Peer = (-1))) := ku 11 63 (by kernel_rfl) (by kernel_rfl); exact asg kx (fin kw rfl)
         ·intro kr ks kt ku kv
          have kw := Tch.ext kg kt
          have kx : kr 3 = j2 := (kv 3 (by kernel_rfl)).trans ju
          have ky : kr 7 = vb (true) := ku 12 7 (by kernel_rfl)
          have kz : kr 8 = vb (decide (a0.Peer = (-1))) := ku 13 8 (by kernel_rfl)
          have g0 : kr 10 = Value.pointer (some ⟨k8, 0, none⟩) := (kv 10 (by kernel_rfl)).trans rfl
          refine block_n (then_n (W_seq ?_))
          refine W_drawP mixed 8 [PX.ptr (a0.Peer : Int), PX.eq (vi (a0.Peer)), PX.ptr (a0.Tag : Int), PX.eq (vi (a0.Tag)), PX.eq (Value.pointer (some ⟨k8, 1, none⟩)), PX.var s0.w.heap.size 64 ((Deed.with_Peer (⟨a0.Kind, 0, 0, 0, false⟩ : Deed) a0.Peer) : Deed), PX.eq (Value.pointer (some ⟨k8, 2, none⟩)), PX.var s0.w.heap.size 64 ((Deed.with_Tag (Deed.with_Peer (⟨a0.Kind, 0, 0, 0, false⟩ : Deed) a0.Peer) a0.Tag) : Deed), PX.var s0.w.heap.size 64 ((⟨a0.Kind, 0, 0, 0, false⟩ : Deed) : Deed)] [94, 95, 96, 97, 98, 10, 99, 10, 10] [[], [], [], [], [], [8], [], [5]] rfl (by kernel_rfl) (ent1 rfl ⟨k8, g0, (Nat.le_trans k2.size ka), (kf).ext kt⟩) (dis1 rfl) (StepsX_cons ?_ (StepsX_cons ?_ (StepsX_cons ?_ (StepsX_cons ?_ (StepsX_cons ?_ (StepsX_cons ?_ (StepsX_cons ?_ (StepsX_cons ?_ StepsX_nil)))))))) ?_
          ·intro g1 g2 g3 g4 g5 Q g6; have g7 : g1 3 = j2 := (g5 3 (by kernel_rfl)).trans kx; exact fa fld64_1 Deed.of_Peer g7 (j4.mono (je.trans (jr.trans (k0.le.trans (k9.le.trans (ke.le.trans (kt.le.trans g3.le))))))) (fun g8 g9 => L_nil (g6 _ _ No (Ext.refl g2) (fun _ h => h.elim) g9 (fun _ h => h.elim)))
          ·intro g1 g2 g3 g4 g5 Q g6; have g7 : Ptr _ (g1 94) (a0.Peer : Int) := g4 0 (by kernel_rfl) (by show _ < 9; decide); obtain ⟨g8, g9, ga⟩ : ∃ v, _ = v ∧ Ptr _ v _ := ⟨_, rfl, g7⟩; exact li ty3 g9 ga (L_nil (g6 _ _ No (Ext.refl g2) (fun _ h => h.elim) rfl (fun _ h => h.elim)))
          ·intro g1 g2 g3 g4 g5 Q g6; have g7 : g1 3 = j2 := (g5 3 (by kernel_rfl)).trans kx; exact fa fld64_2 Deed.of_Tag g7 (j4.mono (je.trans (jr.trans (k0.le.trans (k9.le.trans (ke.le.trans (kt.le.trans g3.le))))))) (fun g8 g9 => L_nil (g6 _ _ No (Ext.refl g2) (fun _ h => h.elim) g9 (fun _ h => h.elim)))
          ·intro g1 g2 g3 g4 g5 Q g6; have g7 : Ptr _ (g1 96) (a0.Tag : Int) := g4 2 (by kernel_rfl) (by show _ < 9; decide); obtain ⟨g8, g9, ga⟩ : ∃ v, _ = v ∧ Ptr _ v _ := ⟨_, rfl, g7⟩; exact li ty3 g9 ga (L_nil (g6 _ _ No (Ext.refl g2) (fun _ h => h.elim) rfl (fun _ h => h.elim)))
          ·intro g1 g2 g3 g4 g5 Q g6
           obtain ⟨g7, g8, g9, ga⟩ : ∃ b, g1 10 = Value.pointer (some ⟨b, 0, none⟩) ∧ s0.w.heap.size ≤ b ∧ Var g2 b 64 ((⟨a0.Kind, 0, 0, 0, false⟩ : Deed) : Deed) := g4 8 (by kernel_rfl) (by show _ < 9; decide)
           have gb : g1 10 = Value.pointer (some ⟨k8, 0, none⟩) := (g5 10 (by kernel_rfl)).trans g0
           have gc : g7 = k8 := by have gd := g8.symm.trans gb; cases gd; rfl
           rw [gc] at g9 ga
           exact L_fieldAddr_var fld64_1 gb (by decide) (L_nil (g6 _ _ No (Ext.refl g2) (fun _ h => h.elim) rfl (fun _ h => h.elim)))
          ·intro g1 g2 g3 g4 g5 Q g6
           obtain ⟨g7, g8, g9, ga⟩ : ∃ b, g1 10 = Value.pointer (some ⟨b, 0, none⟩) ∧ s0.w.heap.size ≤ b ∧ Var g2 b 64 ((⟨a0.Kind, 0, 0, 0, false⟩ : Deed) : Deed) := g4 8 (by kernel_rfl) (by show _ < 9; decide)
           have gb : g1 10 = Value.pointer (some ⟨k8, 0, none⟩) := (g5 10 (by kernel_rfl)).trans g0
           have gc : g7 = k8 := by have gd := g8.symm.trans gb; cases gd; rfl
           rw [gc] at g9 ga
           have gg : g1 95 = vi (a0.Peer) := g4 1 (by kernel_rfl) (by show _ < 9; decide)
           have gh : g1 98 = Value.pointer (some ⟨k8, 1, none⟩) := g4 4 (by kernel_rfl) (by show _ < 9; decide)
           exact L_store_field ty3 Deed.set_Peer gh gg Vint (ga) (fun gi gj gk => L_nil (g6 undef _ _ gj (fun k h => ⟨8, (List.mem_singleton.2 rfl : (8 : Nat) ∈ [8]), (by show ownP (g1 10) k; rw [gb]; exact congrArg (fun z => Value.pointer (some ⟨z, 0, none⟩)) h.symm)⟩) ⟨_, gb, g9, gk⟩ (fun k h => Or.inl ⟨8, (List.mem_singleton.2 rfl : (8 : Nat) ∈ [8]), h⟩)))
          ·intro g1 g2 g3 g4 g5 Q g6
           obtain ⟨g7, g8, g9, ga⟩ : ∃ b, g1 10 = Value.pointer (some ⟨b, 0, none⟩) ∧ s0.w.heap.size ≤ b ∧ Var g2 b 64 ((Deed.with_Peer (⟨a0.Kind, 0, 0, 0, false⟩ : Deed) a0.Peer) : Deed) := g4 5 (by kernel_rfl) (by show _ < 9; decide)
           have gb : g1 10 = Value.pointer (some ⟨k8, 0, none⟩) := (g5 10 (by kernel_rfl)).trans g0
           have gc : g7 = k8 := by have gd := g8.symm.trans gb; cases gd; rfl
           rw [gc] at g9 ga
           exact L_fieldAddr_var fld64_2 gb (by decide) (L_nil (g6 _ _ No (Ext.refl g2) (fun _ h => h.elim) rfl (fun _ h => h.elim)))
          ·intro g1 g2 g3 g4 g5 Q g6
           obtain ⟨g7, g8, g9, ga⟩ : ∃ b, g1 10 = Value.pointer (some ⟨b, 0, none⟩) ∧ s0.w.heap.size ≤ b ∧ Var g2 b 64 ((Deed.with_Peer (⟨a0.Kind, 0, 0, 0, false⟩ : Deed) a0.Peer) : Deed) := g4 5 (by kernel_rfl) (by show _ < 9; decide)
           have gb : g1 10 = Value.pointer (some ⟨k8, 0, none⟩) := (g5 10 (by kernel_rfl)).trans g0
           have gc : g7 = k8 := by have gd := g8.symm.trans gb; cases gd; rfl
           rw [gc] at g9 ga
           have gg : g1 97 = vi (a0.Tag) := g4 3 (by kernel_rfl) (by show _ < 9; decide)
           have gh : g1 99 = Value.pointer (some ⟨k8, 2, none⟩) := g4 6 (by kernel_rfl) (by show _ < 9; decide)
           exact L_store_field ty3 Deed.set_Tag gh gg Vint (ga) (fun gi gj gk => L_nil (g6 undef _ _ gj (fun k h => ⟨5, (List.mem_singleton.2 rfl : (5 : Nat) ∈ [5]), (by show ownP (g1 10) k; rw [gb]; exact congrArg (fun z => Value.pointer (some ⟨z, 0, none⟩)) h.symm)⟩) ⟨_, gb, g9, gk⟩ (fun k h => Or.inl ⟨5, (List.mem_singleton.2 rfl : (5 : Nat) ∈ [5]), h⟩)))
          ·intro g1 g2 g3 g4 g5 g6
           have g7 := Tch.trans kw g3 (fun k h => Or.inr (by have g8 := ent_is (k := 8) rfl rfl h; have g9 := Eq.mp (congrArg (fun v => ownP v k) (g0 : _ = Value.pointer (some ⟨k8, 0, none⟩))) g8; cases g9; exact (Nat.le_trans k2.size ka)))
           obtain ⟨ga, gb, gc, gd⟩ : ∃ b, g1 10 = Value.pointer (some ⟨b, 0, none⟩) ∧ s0.w.heap.size ≤ b ∧ Var g2 b 64 ((Deed.with_Tag (Deed.with_Peer (⟨a0.Kind, 0, 0, 0, false⟩ : Deed) a0.Peer) a0.Tag) : Deed) := g4 7 (by show _ < 9; decide) (by kernel_rfl)
           have gg : g1 10 = Value.pointer (some ⟨k8, 0, none⟩) := (g6 10 (by kernel_rfl)).trans g0
           have gh : ga = k8 := by have g9 := gb.symm.trans gg; cases g9; rfl
           rw [gh] at gc gd
           have gi : g1 3 = j2 := (g6 3 (by kernel_rfl)).trans kx
           have gj : g1 7 = vb (true) := (g6 7 (by kernel_rfl)).trans ky
           have gk : g1 8 = vb (decide (a0.Peer = (-1))) := (g6 8 (by kernel_rfl)).trans kz
           refine then_n (sr (ld ty64 gi (j4.mono (je.trans (jr.trans (k0.le.trans (k9.le.trans (ke.le.trans (kt.le.trans g3.le))))))) (fun gl gm => L_load_var ty64 gg (gd) (by decide) (fun gn go => L_seq64 (rv gl) gm (rv gn) go (by decide) (mv (rfl : _ = vb (decide (a0 = (Deed.with_Tag (Deed.with_Peer (⟨a0.Kind, 0, 0, 0, false⟩ : Deed) a0.Peer) a0.Tag)))) ?_)))))
           rcases tf (decide (a0 = (Deed.with_Tag (Deed.with_Peer (⟨a0.Kind, 0, 0, 0, false⟩ : Deed) a0.Peer) a0.Tag))) with gp | gp
           ·have hr := ite_t gp hr; refine gt 103 (rfl : _ = vb (decide (a0 = (Deed.with_Tag (Deed.with_Peer (⟨a0.Kind, 0, 0, 0, false⟩ : Deed) a0.Peer) a0.Tag)))) gp (mv gj (pt (rfl : _ = vb (decide (a0 = (Deed.with_Tag (Deed.with_Peer (⟨a0.Kind, 0, 0, 0, false⟩ : Deed) a0.Peer) a0.Tag)))) gp (rv (vb true)) (mv (rv (vb true)) (gt 106 (rv (vb true)) rfl (mv gk (pt (rv (vb true)) rfl (rv (vb (decide (a0.Peer = (-1))))) (asg (rv (vb (decide (a0.Peer = (-1))))) (nn (W_ret ?_))))))))); obtain rfl := Option.some.inj hr; exact done1 (Or.inl rfl) Try.results58 rfl ⟨_, _, rfl, rfl, g7, Vbool⟩
           ·have hr := ite_f gp hr; refine gf 103 (rfl : _ = vb (decide (a0 = (Deed.with_Tag (Deed.with_Peer (⟨a0.Kind, 0, 0, 0, false⟩ : Deed) a0.Peer) a0.Tag)))) gp (pf (rfl : _ = vb (decide (a0 = (Deed.with_Tag (Deed.with_Peer (⟨a0.Kind, 0, 0, 0, false⟩ : Deed) a0.Peer) a0.Tag)))) gp (rv (vb false)) (mv (rv (vb false)) (gf 106 (rv (vb false)) rfl (pf (rv (vb false)) rfl (rv (vb false)) (asg (rv (vb false)) (nn (W_ret ?_))))))); obtain rfl := Option.some.inj hr; exact done1 (Or.inl rfl) Try.results58 rfl ⟨_, _, rfl, rfl, g7, Vbool⟩
       ·have hr := ite_f kp hr
        rcases tf (jm) with kq | kq
        ·have hr := ite_t kq hr
         refine W_draws mixed (by kernel_rfl) [PV.eq (vb j9), PV.eq (vb j9), PV.ptr (a0.Tag : Int), PV.eq (vi (a0.Tag)), PV.eq (vb (decide (a0.Tag = (-1)))), PV.eq (vb (decide (a0.Tag = (-1)))), PV.eq (vb jm), PV.eq (vb jm), PV.eq (undef), PV.eq (undef), PV.eq (undef), PV.eq (vb true), PV.eq (vb (decide (a0.Tag = (-1)))), PV.eq (vb true)] (Steps_cons ?_ (Steps_cons ?_ (Steps_cons ?_ (Steps_cons ?_ (Steps_cons ?_ (Steps_cons ?_ (Steps_cons ?_ (Steps_cons ?_ (Steps_cons ?_ (Steps_cons ?_ (Steps_cons ?_ (Steps_cons ?_ (Steps_cons ?_ (Steps_cons ?_ Steps_nil)))))))))))))) ?_
         ·intro kr ks kt ku kv Q kw; have kx : kr 7 = vb (j9) := (kv 7 (by kernel_rfl)).trans jv; exact mv kx (fin kw rfl)
         ·intro kr ks kt ku kv Q kw; have kx : kr 52 = vb (j9) := ku 0 52 (by kernel_rfl) (by kernel_rfl); exact mv kx (fin kw rfl)
         ·intro kr ks kt ku kv Q kw; have kx : kr 3 = j2 := (kv 3 (by kernel_rfl)).trans ju; have ky : kr 53 = vb (j9) := ku 1 53 (by kernel_rfl) (by kernel_rfl); exact gt 53 ky kp (fa fld64_2 Deed.of_Tag kx (j4.mono (je.trans (jr.trans (k0.le.trans (k9.le.trans (ke.le.trans kt.le)))))) (fun kz g0 => fin kw g0))
         ·intro kr ks kt ku kv Q kw; have kx : kr 53 = vb (j9) := ku 1 53 (by kernel_rfl) (by kernel_rfl); have ky : Ptr _ (kr 54) (a0.Tag : Int) := ku 2 54 (by kernel_rfl) (by kernel_rfl); obtain ⟨kz, g0, g1⟩ : ∃ v, _ = v ∧ Ptr _ v _ := ⟨_, rfl, ky⟩; exact gt 53 kx kp (li ty3 g0 g1 (fin kw rfl))
         ·intro kr ks kt ku kv Q kw; have kx : kr 53 = vb (j9) := ku 1 53 (by kernel_rfl) (by kernel_rfl); have ky : kr 55 = vi (a0.Tag) := ku 3 55 (by kernel_rfl) (by kernel_rfl); exact gt 53 kx kp (el ky (rv (vi (-1))) (fin kw rfl))
         ·intro kr ks kt ku kv Q kw; have kx : kr 53 = vb (j9) := ku 1 53 (by kernel_rfl) (by kernel_rfl); have ky : kr 56 = vb (decide (a0.Tag = (-1))) := ku 4 56 (by kernel_rfl) (by kernel_rfl); exact pf kx kp ky (fin kw rfl)
         ·intro kr ks kt ku kv Q kw; have kx : kr 8 = vb (jm) := (kv 8 (by kernel_rfl)).trans js; exact mv kx (fin kw rfl)
         ·intro kr ks kt ku kv Q kw; have kx : kr 58 = vb (jm) := ku 6 58 (by kernel_rfl) (by kernel_rfl); exact mv kx (fin kw rfl)
         ·intro kr ks kt ku kv Q kw; have kx : kr 59 = vb (jm) := ku 7 59 (by kernel_rfl) (by kernel_rfl); exact gf 59 kx kq (fin kw rfl)
         ·intro kr ks kt ku kv Q kw; have kx : kr 59 = vb (jm) := ku 7 59 (by kernel_rfl) (by kernel_rfl); exact gf 59 kx kq (fin kw rfl)
         ·intro kr ks kt ku kv Q kw; have kx : kr 59 = vb (jm) := ku 7 59 (by kernel_rfl) (by kernel_rfl); exact gf 59 kx kq (fin kw rfl)
         ·intro kr ks kt ku kv Q kw; have kx : kr 59 = vb (jm) := ku 7 59 (by kernel_rfl) (by kernel_rfl); exact pt kx kq (rv (vb true)) (fin kw rfl)
         ·intro kr ks kt ku kv Q kw; have kx : kr 57 = vb (decide (a0.Tag = (-1))) := ku 5 57 (by kernel_rfl) (by kernel_rfl); exact asg kx (fin kw rfl)
         ·intro kr ks kt ku kv Q kw; have kx : kr 63 = vb (true) := ku 11 63 (by kernel_rfl) (by kernel_rfl); exact asg kx (fin kw rfl)
         ·intro kr ks kt ku kv
          have kw := Tch.ext kg kt
          have kx : kr 3 = j2 := (kv 3 (by kernel_rfl)).trans ju
          have ky : kr 7 = vb (decide (a0.Tag = (-1))) := ku 12 7 (by kernel_rfl)
          have kz : kr 8 = vb (true) := ku 13 8 (by kernel_rfl)
          have g0 : kr 10 = Value.pointer (some ⟨k8, 0, none⟩) := (kv 10 (by kernel_rfl)).trans rfl
          refine block_n (then_n (W_seq ?_))
          refine W_drawP mixed 8 [PX.ptr (a0.Peer : Int), PX.eq (vi (a0.Peer)), PX.ptr (a0.Tag : Int), PX.eq (vi (a0.Tag)), PX.eq (Value.pointer (some ⟨k8, 1, none⟩)), PX.var s0.w.heap.size 64 ((Deed.with_Peer (⟨a0.Kind, 0, 0, 0, false⟩ : Deed) a0.Peer) : Deed), PX.eq (Value.pointer (some ⟨k8, 2, none⟩)), PX.var s0.w.heap.size 64 ((Deed.with_Tag (Deed.with_Peer (⟨a0.Kind, 0, 0, 0, false⟩ : Deed) a0.Peer) a0.Tag) : Deed), PX.var s0.w.heap.size 64 ((⟨a0.Kind, 0, 0, 0, false⟩ : Deed) : Deed)] [94, 95, 96, 97, 98, 10, 99, 10, 10] [[], [], [], [], [], [8], [], [5]] rfl (by kernel_rfl) (ent1 rfl ⟨k8, g0, (Nat.le_trans k2.size ka), (kf).ext kt⟩) (dis1 rfl) (StepsX_cons ?_ (StepsX_cons ?_ (StepsX_cons ?_ (StepsX_cons ?_ (StepsX_cons ?_ (StepsX_cons ?_ (StepsX_cons ?_ (StepsX_cons ?_ StepsX_nil)))))))) ?_
          ·intro g1 g2 g3 g4 g5 Q g6; have g7 : g1 3 = j2 := (g5 3 (by kernel_rfl)).trans kx; exact fa fld64_1 Deed.of_Peer g7 (j4.mono (je.trans (jr.trans (k0.le.trans (k9.le.trans (ke.le.trans (kt.le.trans g3.le))))))) (fun g8 g9 => L_nil (g6 _ _ No (Ext.refl g2) (fun _ h => h.elim) g9 (fun _ h => h.elim)))
          ·intro g1 g2 g3 g4 g5 Q g6; have g7 : Ptr _ (g1 94) (a0.Peer : Int) := g4 0 (by kernel_rfl) (by show _ < 9; decide); obtain ⟨g8, g9, ga⟩ : ∃ v, _ = v ∧ Ptr _ v _ := ⟨_, rfl, g7⟩; exact li ty3 g9 ga (L_nil (g6 _ _ No (Ext.refl g2) (fun _ h => h.elim) rfl (fun _ h => h.elim)))
          ·intro g1 g2 g3 g4 g5 Q g6; have g7 : g1 3 = j2 := (g5 3 (by kernel_rfl)).trans kx; exact fa fld64_2 Deed.of_Tag g7 (j4.mono (je.trans (jr.trans (k0.le.trans (k9.le.trans (ke.le.trans (kt.le.trans g3.le))))))) (fun g8 g9 => L_nil (g6 _ _ No (Ext.refl g2) (fun _ h => h.elim) g9 (fun _ h => h.elim)))
          ·intro g1 g2 g3 g4 g5 Q g6; have g7 : Ptr _ (g1 96) (a0.Tag : Int) := g4 2 (by kernel_rfl) (by show _ < 9; decide); obtain ⟨g8, g9, ga⟩ : ∃ v, _ = v ∧ Ptr _ v _ := ⟨_, rfl, g7⟩; exact li ty3 g9 ga (L_nil (g6 _ _ No (Ext.refl g2) (fun _ h => h.elim) rfl (fun _ h => h.elim)))
          ·intro g1 g2 g3 g4 g5 Q g6
           obtain ⟨g7, g8, g9, ga⟩ : ∃ b, g1 10 = Value.pointer (some ⟨b, 0, none⟩) ∧ s0.w.heap.size ≤ b ∧ Var g2 b 64 ((⟨a0.Kind, 0, 0, 0, false⟩ : Deed) : Deed) := g4 8 (by kernel_rfl) (by show _ < 9; decide)
           have gb : g1 10 = Value.pointer (some ⟨k8, 0, none⟩) := (g5 10 (by kernel_rfl)).trans g0
           have gc : g7 = k8 := by have gd := g8.symm.trans gb; cases gd; rfl
           rw [gc] at g9 ga
           exact L_fieldAddr_var fld64_1 gb (by decide) (L_nil (g6 _ _ No (Ext.refl g2) (fun _ h => h.elim) rfl (fun _ h => h.elim)))
          ·intro g1 g2 g3 g4 g5 Q g6
           obtain ⟨g7, g8, g9, ga⟩ : ∃ b, g1 10 = Value.pointer (some ⟨b, 0, none⟩) ∧ s0.w.heap.size ≤ b ∧ Var g2 b 64 ((⟨a0.Kind, 0, 0, 0, false⟩ : Deed) : Deed) := g4 8 (by kernel_rfl) (by show _ < 9; decide)
           have gb : g1 10 = Value.pointer (some ⟨k8, 0, none⟩) := (g5 10 (by kernel_rfl)).trans g0
           have gc : g7 = k8 := by have gd := g8.symm.trans gb; cases gd; rfl
           rw [gc] at g9 ga
           have gg : g1 95 = vi (a0.Peer) := g4 1 (by kernel_rfl) (by show _ < 9; decide)
           have gh : g1 98 = Value.pointer (some ⟨k8, 1, none⟩) := g4 4 (by kernel_rfl) (by show _ < 9; decide)
           exact L_store_field ty3 Deed.set_Peer gh gg Vint (ga) (fun gi gj gk => L_nil (g6 undef _ _ gj (fun k h => ⟨8, (List.mem_singleton.2 rfl : (8 : Nat) ∈ [8]), (by show ownP (g1 10) k; rw [gb]; exact congrArg (fun z => Value.pointer (some ⟨z, 0, none⟩)) h.symm)⟩) ⟨_, gb, g9, gk⟩ (fun k h => Or.inl ⟨8, (List.mem_singleton.2 rfl : (8 : Nat) ∈ [8]), h⟩)))
          ·intro g1 g2 g3 g4 g5 Q g6
           obtain ⟨g7, g8, g9, ga⟩ : ∃ b, g1 10 = Value.pointer (some ⟨b, 0, none⟩) ∧ s0.w.heap.size ≤ b ∧ Var g2 b 64 ((Deed.with_Peer (⟨a0.Kind, 0, 0, 0, false⟩ : Deed) a0.Peer) : Deed) := g4 5 (by kernel_rfl) (by show _ < 9; decide)
           have gb : g1 10 = Value.pointer (some ⟨k8, 0, none⟩) := (g5 10 (by kernel_rfl)).trans g0
           have gc : g7 = k8 := by have gd := g8.symm.trans gb; cases gd; rfl
           rw [gc] at g9 ga
           exact L_fieldAddr_var fld64_2 gb (by decide) (L_nil (g6 _ _ No (Ext.refl g2) (fun _ h => h.elim) rfl (fun _ h => h.elim)))
          ·intro g1 g2 g3 g4 g5 Q g6
           obtain ⟨g7, g8, g9, ga⟩ : ∃ b, g1 10 = Value.pointer (some ⟨b, 0, none⟩) ∧ s0.w.heap.size ≤ b ∧ Var g2 b 64 ((Deed.with_Peer (⟨a0.Kind, 0, 0, 0, false⟩ : Deed) a0.Peer) : Deed) := g4 5 (by kernel_rfl) (by show _ < 9; decide)
           have gb : g1 10 = Value.pointer (some ⟨k8, 0, none⟩) := (g5 10 (by kernel_rfl)).trans g0
           have gc : g7 = k8 := by have gd := g8.symm.trans gb; cases gd; rfl
           rw [gc] at g9 ga
           have gg : g1 97 = vi (a0.Tag) := g4 3 (by kernel_rfl) (by show _ < 9; decide)
           have gh : g1 99 = Value.pointer (some ⟨k8, 2, none⟩) := g4 6 (by kernel_rfl) (by show _ < 9; decide)
           exact L_store_field ty3 Deed.set_Tag gh gg Vint (ga) (fun gi gj gk => L_nil (g6 undef _ _ gj (fun k h => ⟨5, (List.mem_singleton.2 rfl : (5 : Nat) ∈ [5]), (by show ownP (g1 10) k; rw [gb]; exact congrArg (fun z => Value.pointer (some ⟨z, 0, none⟩)) h.symm)⟩) ⟨_, gb, g9, gk⟩ (fun k h => Or.inl ⟨5, (List.mem_singleton.2 rfl : (5 : Nat) ∈ [5]), h⟩)))
          ·intro g1 g2 g3 g4 g5 g6
           have g7 := Tch.trans kw g3 (fun k h => Or.inr (by have g8 := ent_is (k := 8) rfl rfl h; have g9 := Eq.mp (congrArg (fun v => ownP v k) (g0 : _ = Value.pointer (some ⟨k8, 0, none⟩))) g8; cases g9; exact (Nat.le_trans k2.size ka)))
           obtain ⟨ga, gb, gc, gd⟩ : ∃ b, g1 10 = Value.pointer (some ⟨b, 0, none⟩) ∧ s0.w.heap.size ≤ b ∧ Var g2 b 64 ((Deed.with_Tag (Deed.with_Peer (⟨a0.Kind, 0, 0, 0, false⟩ : Deed) a0.Peer) a0.Tag) : Deed) := g4 7 (by show _ < 9; decide) (by kernel_rfl)
           have gg : g1 10 = Value.pointer (some ⟨k8, 0, none⟩) := (g6 10 (by kernel_rfl)).trans g0
           have gh : ga = k8 := by have g9 := gb.symm.trans gg; cases g9; rfl
           rw [gh] at gc gd
           have gi : g1 3 = j2 := (g6 3 (by kernel_rfl)).trans kx
           have gj : g1 7 = vb (decide (a0.Tag = (-1))) := (g6 7 (by kernel_rfl)).trans ky
           have gk : g1 8 = vb (true) := (g6 8 (by kernel_rfl)).trans kz
           refine then_n (sr (ld ty64 gi (j4.mono (je.trans (jr.trans (k0.le.trans (k9.le.trans (ke.le.trans (kt.le.trans g3.le))))))) (fun gl gm => L_load_var ty64 gg (gd) (by decide) (fun gn go => L_seq64 (rv gl) gm (rv gn) go (by decide) (mv (rfl : _ = vb (decide (a0 = (Deed.with_Tag (Deed.with_Peer (⟨a0.Kind, 0, 0, 0, false⟩ : Deed) a0.Peer) a0.Tag)))) ?_)))))
           rcases tf (decide (a0 = (Deed.with_Tag (Deed.with_Peer (⟨a0.Kind, 0, 0, 0, false⟩ : Deed) a0.Peer) a0.Tag))) with gp | gp
           ·have hr := ite_t gp hr
            refine gt 103 (rfl : _ = vb (decide (a0 = (Deed.with_Tag (Deed.with_Peer (⟨a0.Kind, 0, 0, 0, false⟩ : Deed) a0.Peer) a0.Tag)))) gp (mv gj (pt (rfl : _ = vb (decide (a0 = (Deed.with_Tag (Deed.with_Peer (⟨a0.Kind, 0, 0, 0, false⟩ : Deed) a0.Peer) a0.Tag)))) gp (rv (vb (decide (a0.Tag = (-1))))) (mv (rv (vb (decide (a0.Tag = (-1))))) ?_)))
            rcases tf (decide (a0.Tag = (-1))) with gq | gq
            ·have hr := ite_t gq hr; refine gt 106 (rv (vb (decide (a0.Tag = (-1))))) gq (mv gk (pt (rv (vb (decide (a0.Tag = (-1))))) gq (rv (vb true)) (asg (rv (vb true)) (nn (W_ret ?_))))); obtain rfl := Option.some.inj hr; exact done1 (Or.inl rfl) Try.results58 rfl ⟨_, _, rfl, rfl, g7, Vbool⟩
            ·have hr := ite_f gq hr; refine gf 106 (rv (vb (decide (a0.Tag = (-1))))) gq (pf (rv (vb (decide (a0.Tag = (-1))))) gq (rv (vb false)) (asg (rv (vb false)) (nn (W_ret ?_)))); obtain rfl := Option.some.inj hr; exact done1 (Or.inl rfl) Try.results58 rfl ⟨_, _, rfl, rfl, g7, Vbool⟩
           ·have hr := ite_f gp hr; refine gf 103 (rfl : _ = vb (decide (a0 = (Deed.with_Tag (Deed.with_Peer (⟨a0.Kind, 0, 0, 0, false⟩ : Deed) a0.Peer) a0.Tag)))) gp (pf (rfl : _ = vb (decide (a0 = (Deed.with_Tag (Deed.with_Peer (⟨a0.Kind, 0, 0, 0, false⟩ : Deed) a0.Peer) a0.Tag)))) gp (rv (vb false)) (mv (rv (vb false)) (gf 106 (rv (vb false)) rfl (pf (rv (vb false)) rfl (rv (vb false)) (asg (rv (vb false)) (nn (W_ret ?_))))))); obtain rfl := Option.some.inj hr; exact done1 (Or.inl rfl) Try.results58 rfl ⟨_, _, rfl, rfl, g7, Vbool⟩
        ·have hr := ite_f kq hr
         refine W_draws mixed (by kernel_rfl) [PV.eq (vb j9), PV.eq (vb j9), PV.ptr (a0.Tag : Int), PV.eq (vi (a0.Tag)), PV.eq (vb (decide (a0.Tag = (-1)))), PV.eq (vb (decide (a0.Tag = (-1)))), PV.eq (vb jm), PV.eq (vb jm), PV.ptr (a0.Peer : Int), PV.eq (vi (a0.Peer)), PV.eq (vb (decide (a0.Peer = (-1)))), PV.eq (vb (decide (a0.Peer = (-1)))), PV.eq (vb (decide (a0.Tag = (-1)))), PV.eq (vb (decide (a0.Peer = (-1))))] (Steps_cons ?_ (Steps_cons ?_ (Steps_cons ?_ (Steps_cons ?_ (Steps_cons ?_ (Steps_cons ?_ (Steps_cons ?_ (Steps_cons ?_ (Steps_cons ?_ (Steps_cons ?_ (Steps_cons ?_ (Steps_cons ?_ (Steps_cons ?_ (Steps_cons ?_ Steps_nil)))))))))))))) ?_
         ·intro kr ks kt ku kv Q kw; have kx : kr 7 = vb (j9) := (kv 7 (by kernel_rfl)).trans jv; exact mv kx (fin kw rfl)
         ·intro kr ks kt ku kv Q kw; have kx : kr 52 = vb (j9) := ku 0 52 (by kernel_rfl) (by kernel_rfl); exact mv kx (fin kw rfl)
         ·intro kr ks kt ku kv Q kw; have kx : kr 3 = j2 := (kv 3 (by kernel_rfl)).trans ju; have ky : kr 53 = vb (j9) := ku 1 53 (by kernel_rfl) (by kernel_rfl); exact gt 53 ky kp (fa fld64_2 Deed.of_Tag kx (j4.mono (je.trans (jr.trans (k0.le.trans (k9.le.trans (ke.le.trans kt.le)))))) (fun kz g0 => fin kw g0))
         ·intro kr ks kt ku kv Q kw; have kx : kr 53 = vb (j9) := ku 1 53 (by kernel_rfl) (by kernel_rfl); have ky : Ptr _ (kr 54) (a0.Tag : Int) := ku 2 54 (by kernel_rfl) (by kernel_rfl); obtain ⟨kz, g0, g1⟩ : ∃ v, _ = v ∧ Ptr _ v _ := ⟨_, rfl, ky⟩; exact gt 53 kx kp (li ty3 g0 g1 (fin kw rfl))
         ·intro kr ks kt ku kv Q kw; have kx : kr 53 = vb (j9) := ku 1 53 (by kernel_rfl) (by kernel_rfl); have ky : kr 55 = vi (a0.Tag) := ku 3 55 (by kernel_rfl) (by kernel_rfl); exact gt 53 kx kp (el ky (rv (vi (-1))) (fin kw rfl))
         ·intro kr ks kt ku kv Q kw; have kx : kr 53 = vb (j9) := ku 1 53 (by kernel_rfl) (by kernel_rfl); have ky : kr 56 = vb (decide (a0.Tag = (-1))) := ku 4 56 (by kernel_rfl) (by kernel_rfl); exact pf kx kp ky (fin kw rfl)
         ·intro kr ks kt ku kv Q kw; have kx : kr 8 = vb (jm) := (kv 8 (by kernel_rfl)).trans js; exact mv kx (fin kw rfl)
         ·intro kr ks kt ku kv Q kw; have kx : kr 58 = vb (jm) := ku 6 58 (by kernel_rfl) (by kernel_rfl); exact mv kx (fin kw rfl)
         ·intro kr ks kt ku kv Q kw; have kx : kr 3 = j2 := (kv 3 (by kernel_rfl)).trans ju; have ky : kr 59 = vb (jm) := ku 7 59 (by kernel_rfl) (by kernel_rfl); exact gt 59 ky kq (fa fld64_1 Deed.of_Peer kx (j4.mono (je.trans (jr.trans (k0.le.trans (k9.le.trans (ke.le.trans kt.le)))))) (fun kz g0 => fin kw g0))
         ·intro kr ks kt ku kv Q kw; have kx : kr 59 = vb (jm) := ku 7 59 (by kernel_rfl) (by kernel_rfl); have ky : Ptr _ (kr 60) (a0.Peer : Int) := ku 8 60 (by kernel_rfl) (by kernel_rfl); obtain ⟨kz, g0, g1⟩ : ∃ v, _ = v ∧ Ptr _ v _ := ⟨_, rfl, ky⟩; exact gt 59 kx kq (li ty3 g0 g1 (fin kw rfl))
         ·intro kr ks kt ku kv Q kw; have kx : kr 59 = vb (jm) := ku 7 59 (by kernel_rfl) (by kernel_rfl); have ky : kr 61 = vi (a0.Peer) := ku 9 61 (by kernel_rfl) (by kernel_rfl); exact gt 59 kx kq (el ky (rv (vi (-1))) (fin kw rfl))
         ·intro kr ks kt ku kv Q kw; have kx : kr 59 = vb (jm) := ku 7 59 (by kernel_rfl) (by kernel_rfl); have ky : kr 62 = vb (decide (a0.Peer = (-1))) := ku 10 62 (by kernel_rfl) (by kernel_rfl); exact pf kx kq ky (fin kw rfl)
         ·intro kr ks kt ku kv Q kw; have kx : kr 57 = vb (decide (a0.Tag = (-1))) := ku 5 57 (by kernel_rfl) (by kernel_rfl); exact asg kx (fin kw rfl)
         ·intro kr ks kt ku kv Q kw; have kx : kr 63 = vb (decide (a0.Peer = (-1))) := ku 11 63 (by kernel_rfl) (by kernel_rfl); exact asg kx (fin kw rfl)
         ·intro kr ks kt ku kv
          have kw := Tch.ext kg kt
          have kx : kr 3 = j2 := (kv 3 (by kernel_rfl)).trans ju
          have ky : kr 7 = vb (decide (a0.Tag = (-1))) := ku 12 7 (by kernel_rfl)
          have kz : kr 8 = vb (decide (a0.Peer = (-1))) := ku 13 8 (by kernel_rfl)
          have g0 : kr 10 = Value.pointer (some ⟨k8, 0, none⟩) := (kv 10 (by kernel_rfl)).trans rfl
          refine block_n (then_n (W_seq ?_))
          refine W_drawP mixed 8 [PX.ptr (a0.Peer : Int), PX.eq (vi (a0.Peer)), PX.ptr (a0.Tag : Int), PX.eq (vi (a0.Tag)), PX.eq (Value.pointer (some ⟨k8, 1, none⟩)), PX.var s0.w.heap.size 64 ((Deed.with_Peer (⟨a0.Kind, 0, 0, 0, false⟩ : Deed) a0.Peer) : Deed), PX.eq (Value.pointer (some ⟨k8, 2, none⟩)), PX.var s0.w.heap.size 64 ((Deed.with_Tag (Deed.with_Peer (⟨a0.Kind, 0, 0, 0, false⟩ : Deed) a0.Peer) a0.Tag) : Deed), PX.var s0.w.heap.size 64 ((⟨a0.Kind, 0, 0, 0, false⟩ : Deed) : Deed)] [94, 95, 96, 97, 98, 10, 99, 10, 10] [[], [], [], [], [], [8], [], [5]] rfl (by kernel_rfl) (ent1 rfl ⟨k8, g0, (Nat.le_trans k2.size ka), (kf).ext kt⟩) (dis1 rfl) (StepsX_cons ?_ (StepsX_cons ?_ (StepsX_cons ?_ (StepsX_cons ?_ (StepsX_cons ?_ (StepsX_cons ?_ (StepsX_cons ?_ (StepsX_cons ?_ StepsX_nil)))))))) ?_
          ·intro g1 g2 g3 g4 g5 Q g6; have g7 : g1 3 = j2 := (g5 3 (by kernel_rfl)).trans kx; exact fa fld64_1 Deed.of_Peer g7 (j4.mono (je.trans (jr.trans (k0.le.trans (k9.le.trans (ke.le.trans (kt.le.trans g3.le))))))) (fun g8 g9 => L_nil (g6 _ _ No (Ext.refl g2) (fun _ h => h.elim) g9 (fun _ h => h.elim)))
          ·intro g1 g2 g3 g4 g5 Q g6; have g7 : Ptr _ (g1 94) (a0.Peer : Int) := g4 0 (by kernel_rfl) (by show _ < 9; decide); obtain ⟨g8, g9, ga⟩ : ∃ v, _ = v ∧ Ptr _ v _ := ⟨_, rfl, g7⟩; exact li ty3 g9 ga (L_nil (g6 _ _ No (Ext.refl g2) (fun _ h => h.elim) rfl (fun _ h => h.elim)))
          ·intro g1 g2 g3 g4 g5 Q g6; have g7 : g1 3 = j2 := (g5 3 (by kernel_rfl)).trans kx; exact fa fld64_2 Deed.of_Tag g7 (j4.mono (je.trans (jr.trans (k0.le.trans (k9.le.trans (ke.le.trans (kt.le.trans g3.le))))))) (fun g8 g9 => L_nil (g6 _ _ No (Ext.refl g2) (fun _ h => h.elim) g9 (fun _ h => h.elim)))
          ·intro g1 g2 g3 g4 g5 Q g6; have g7 : Ptr _ (g1 96) (a0.Tag : Int) := g4 2 (by kernel_rfl) (by show _ < 9; decide); obtain ⟨g8, g9, ga⟩ : ∃ v, _ = v ∧ Ptr _ v _ := ⟨_, rfl, g7⟩; exact li ty3 g9 ga (L_nil (g6 _ _ No (Ext.refl g2) (fun _ h => h.elim) rfl (fun _ h => h.elim)))
          ·intro g1 g2 g3 g4 g5 Q g6
           obtain ⟨g7, g8, g9, ga⟩ : ∃ b, g1 10 = Value.pointer (some ⟨b, 0, none⟩) ∧ s0.w.heap.size ≤ b ∧ Var g2 b 64 ((⟨a0.Kind, 0, 0, 0, false⟩ : Deed) : Deed) := g4 8 (by kernel_rfl) (by show _ < 9; decide)
           have gb : g1 10 = Value.pointer (some ⟨k8, 0, none⟩) := (g5 10 (by kernel_rfl)).trans g0
           have gc : g7 = k8 := by have gd := g8.symm.trans gb; cases gd; rfl
           rw [gc] at g9 ga
           exact L_fieldAddr_var fld64_1 gb (by decide) (L_nil (g6 _ _ No (Ext.refl g2) (fun _ h => h.elim) rfl (fun _ h => h.elim)))
          ·intro g1 g2 g3 g4 g5 Q g6
           obtain ⟨g7, g8, g9, ga⟩ : ∃ b, g1 10 = Value.pointer (some ⟨b, 0, none⟩) ∧ s0.w.heap.size ≤ b ∧ Var g2 b 64 ((⟨a0.Kind, 0, 0, 0, false⟩ : Deed) : Deed) := g4 8 (by kernel_rfl) (by show _ < 9; decide)
           have gb : g1 10 = Value.pointer (some ⟨k8, 0, none⟩) := (g5 10 (by kernel_rfl)).trans g0
           have gc : g7 = k8 := by have gd := g8.symm.trans gb; cases gd; rfl
           rw [gc] at g9 ga
           have gg : g1 95 = vi (a0.Peer) := g4 1 (by kernel_rfl) (by show _ < 9; decide)
           have gh : g1 98 = Value.pointer (some ⟨k8, 1, none⟩) := g4 4 (by kernel_rfl) (by show _ < 9; decide)
           exact L_store_field ty3 Deed.set_Peer gh gg Vint (ga) (fun gi gj gk => L_nil (g6 undef _ _ gj (fun k h => ⟨8, (List.mem_singleton.2 rfl : (8 : Nat) ∈ [8]), (by show ownP (g1 10) k; rw [gb]; exact congrArg (fun z => Value.pointer (some ⟨z, 0, none⟩)) h.symm)⟩) ⟨_, gb, g9, gk⟩ (fun k h => Or.inl ⟨8, (List.mem_singleton.2 rfl : (8 : Nat) ∈ [8]), h⟩)))
          ·intro g1 g2 g3 g4 g5 Q g6
           obtain ⟨g7, g8, g9, ga⟩ : ∃ b, g1 10 = Value.pointer (some ⟨b, 0, none⟩) ∧ s0.w.heap.size ≤ b ∧ Var g2 b 64 ((Deed.with_Peer (⟨a0.Kind, 0, 0, 0, false⟩ : Deed) a0.Peer) : Deed) := g4 5 (by kernel_rfl) (by show _ < 9; decide)
           have gb : g1 10 = Value.pointer (some ⟨k8, 0, none⟩) := (g5 10 (by kernel_rfl)).trans g0
           have gc : g7 = k8 := by have gd := g8.symm.trans gb; cases gd; rfl
           rw [gc] at g9 ga
           exact L_fieldAddr_var fld64_2 gb (by decide) (L_nil (g6 _ _ No (Ext.refl g2) (fun _ h => h.elim) rfl (fun _ h => h.elim)))
          ·intro g1 g2 g3 g4 g5 Q g6
           obtain ⟨g7, g8, g9, ga⟩ : ∃ b, g1 10 = Value.pointer (some ⟨b, 0, none⟩) ∧ s0.w.heap.size ≤ b ∧ Var g2 b 64 ((Deed.with_Peer (⟨a0.Kind, 0, 0, 0, false⟩ : Deed) a0.Peer) : Deed) := g4 5 (by kernel_rfl) (by show _ < 9; decide)
           have gb : g1 10 = Value.pointer (some ⟨k8, 0, none⟩) := (g5 10 (by kernel_rfl)).trans g0
           have gc : g7 = k8 := by have gd := g8.symm.trans gb; cases gd; rfl
           rw [gc] at g9 ga
           have gg : g1 97 = vi (a0.Tag) := g4 3 (by kernel_rfl) (by show _ < 9; decide)
           have gh : g1 99 = Value.pointer (some ⟨k8, 2, none⟩) := g4 6 (by kernel_rfl) (by show _ < 9; decide)
           exact L_store_field ty3 Deed.set_Tag gh gg Vint (ga) (fun gi gj gk => L_nil (g6 undef _ _ gj (fun k h => ⟨5, (List.mem_singleton.2 rfl : (5 : Nat) ∈ [5]), (by show ownP (g1 10) k; rw [gb]; exact congrArg (fun z => Value.pointer (some ⟨z, 0, none⟩)) h.symm)⟩) ⟨_, gb, g9, gk⟩ (fun k h => Or.inl ⟨5, (List.mem_singleton.2 rfl : (5 : Nat) ∈ [5]), h⟩)))
          ·intro g1 g2 g3 g4 g5 g6
           have g7 := Tch.trans kw g3 (fun k h => Or.inr (by have g8 := ent_is (k := 8) rfl rfl h; have g9 := Eq.mp (congrArg (fun v => ownP v k) (g0 : _ = Value.pointer (some ⟨k8, 0, none⟩))) g8; cases g9; exact (Nat.le_trans k2.size ka)))
           obtain ⟨ga, gb, gc, gd⟩ : ∃ b, g1 10 = Value.pointer (some ⟨b, 0, none⟩) ∧ s0.w.heap.size ≤ b ∧ Var g2 b 64 ((Deed.with_Tag (Deed.with_Peer (⟨a0.Kind, 0, 0, 0, false⟩ : Deed) a0.Peer) a0.Tag) : Deed) := g4 7 (by show _ < 9; decide) (by kernel_rfl)
           have gg : g1 10 = Value.pointer (some ⟨k8, 0, none⟩) := (g6 10 (by kernel_rfl)).trans g0
           have gh : ga = k8 := by have g9 := gb.symm.trans gg; cases g9; rfl
           rw [gh] at gc gd
           have gi : g1 3 = j2 := (g6 3 (by kernel_rfl)).trans kx
           have gj : g1 7 = vb (decide (a0.Tag = (-1))) := (g6 7 (by kernel_rfl)).trans ky
           have gk : g1 8 = vb (decide (a0.Peer = (-1))) := (g6 8 (by kernel_rfl)).trans kz
           refine then_n (sr (ld ty64 gi (j4.mono (je.trans (jr.trans (k0.le.trans (k9.le.trans (ke.le.trans (kt.le.trans g3.le))))))) (fun gl gm => L_load_var ty64 gg (gd) (by decide) (fun gn go => L_seq64 (rv gl) gm (rv gn) go (by decide) (mv (rfl : _ = vb (decide (a0 = (Deed.with_Tag (Deed.with_Peer (⟨a0.Kind, 0, 0, 0, false⟩ : Deed) a0.Peer) a0.Tag)))) ?_)))))
           rcases tf (decide (a0 = (Deed.with_Tag (Deed.with_Peer (⟨a0.Kind, 0, 0, 0, false⟩ : Deed) a0.Peer) a0.Tag))) with gp | gp
           ·have hr := ite_t gp hr
            refine gt 103 (rfl : _ = vb (decide (a0 = (Deed.with_Tag (Deed.with_Peer (⟨a0.Kind, 0, 0, 0, false⟩ : Deed) a0.Peer) a0.Tag)))) gp (mv gj (pt (rfl : _ = vb (decide (a0 = (Deed.with_Tag (Deed.with_Peer (⟨a0.Kind, 0, 0, 0, false⟩ : Deed) a0.Peer) a0.Tag)))) gp (rv (vb (decide (a0.Tag = (-1))))) (mv (rv (vb (decide (a0.Tag = (-1))))) ?_)))
            rcases tf (decide (a0.Tag = (-1))) with gq | gq
            ·have hr := ite_t gq hr; refine gt 106 (rv (vb (decide (a0.Tag = (-1))))) gq (mv gk (pt (rv (vb (decide (a0.Tag = (-1))))) gq (rv (vb (decide (a0.Peer = (-1))))) (asg (rv (vb (decide (a0.Peer = (-1))))) (nn (W_ret ?_))))); obtain rfl := Option.some.inj hr; exact done1 (Or.inl rfl) Try.results58 rfl ⟨_, _, rfl, rfl, g7, Vbool⟩
            ·have hr := ite_f gq hr; refine gf 106 (rv (vb (decide (a0.Tag = (-1))))) gq (pf (rv (vb (decide (a0.Tag = (-1))))) gq (rv (vb false)) (asg (rv (vb false)) (nn (W_ret ?_)))); obtain rfl := Option.some.inj hr; exact done1 (Or.inl rfl) Try.results58 rfl ⟨_, _, rfl, rfl, g7, Vbool⟩
           ·have hr := ite_f gp hr; refine gf 103 (rfl : _ = vb (decide (a0 = (Deed.with_Tag (Deed.with_Peer (⟨a0.Kind, 0, 0, 0, false⟩ : Deed) a0.Peer) a0.Tag)))) gp (pf (rfl : _ = vb (decide (a0 = (Deed.with_Tag (Deed.with_Peer (⟨a0.Kind, 0, 0, 0, false⟩ : Deed) a0.Peer) a0.Tag)))) gp (rv (vb false)) (mv (rv (vb false)) (gf 106 (rv (vb false)) rfl (pf (rv (vb false)) rfl (rv (vb false)) (asg (rv (vb false)) (nn (W_ret ?_))))))); obtain rfl := Option.some.inj hr; exact done1 (Or.inl rfl) Try.results58 rfl ⟨_, _, rfl, rfl, g7, Vbool⟩
     ·have hr := ite_f kl hr
      refine W_region (el (rv (vi (a0.Kind))) (rv (vi 4)) (asg (rv (vb (decide (a0.Kind = 4)))) (nn ?_)))
      refine W_cond _ (rv (vb (decide (a0.Kind = 4)))) (fun km => ?_) (fun km => ?_)
      ·have hr := ite_t km hr
       refine W_seq (sr (fa fld64_0 Deed.of_Kind ju (j4.mono (je.trans (jr.trans (k0.le.trans (k9.le.trans ke.le))))) (fun kn ko => li ty3 (rv kn) ko (el (rv (vi (a0.Kind))) (rv (vi 4)) (nn ?_)))))
       refine W_cond _ (rv (vb (decide (a0.Kind = 4)))) (fun _ => ?_) (fun h => absurd (h.symm.trans km) (by decide))
       refine W_region (mv (rv (vi jw)) (L_fieldAddr_var fld64_3 (rv (Value.pointer (some ⟨k8, 0, none⟩))) (by decide) (L_store_field ty3 Deed.set_Req (rv (Value.pointer (some ⟨k8, 3, none⟩))) (rv (vi jw)) Vint (kf) (fun kp kq kr => ?_))))
       have ks := Tch.trans kg kq (fun k hk => Or.inr (by subst hk; exact (Nat.le_trans k2.size ka)))
       refine nn ?_
       rcases tf (j9) with kt | kt
       ·have hr := ite_t kt hr
        rcases tf (jm) with ku | ku
        ·have hr := ite_t ku hr
         refine W_draws mixed (by kernel_rfl) [PV.eq (vb j9), PV.eq (vb j9), PV.eq (undef), PV.eq (undef), PV.eq (undef), PV.eq (vb true), PV.eq (vb jm), PV.eq (vb jm), PV.eq (undef), PV.eq (undef), PV.eq (undef), PV.eq (vb true), PV.eq (vb true), PV.eq (vb true)] (Steps_cons ?_ (Steps_cons ?_ (Steps_cons ?_ (Steps_cons ?_ (Steps_cons ?_ (Steps_cons ?_ (Steps_cons ?_ (Steps_cons ?_ (Steps_cons ?_ (Steps_cons ?_ (Steps_cons ?_ (Steps_cons ?_ (Steps_cons ?_ (Steps_cons ?_ Steps_nil)))))))))))))) ?_
         ·intro kv kw kx ky kz Q g0; have g1 : kv 7 = vb (j9) := (kz 7 (by kernel_rfl)).trans jv; exact mv g1 (fin g0 rfl)
         ·intro kv kw kx ky kz Q g0; have g1 : kv 52 = vb (j9) := ky 0 52 (by kernel_rfl) (by kernel_rfl); exact mv g1 (fin g0 rfl)
         ·intro kv kw kx ky kz Q g0; have g1 : kv 53 = vb (j9) := ky 1 53 (by kernel_rfl) (by kernel_rfl); exact gf 53 g1 kt (fin g0 rfl)
         ·intro kv kw kx ky kz Q g0; have g1 : kv 53 = vb (j9) := ky 1 53 (by kernel_rfl) (by kernel_rfl); exact gf 53 g1 kt (fin g0 rfl)
         ·intro kv kw kx ky kz Q g0; have g1 : kv 53 = vb (j9) := ky 1 53 (by kernel_rfl) (by kernel_rfl); exact gf 53 g1 kt (fin g0 rfl)
         ·intro kv kw kx ky kz Q g0; have g1 : kv 53 = vb (j9) := ky 1 53 (by kernel_rfl) (by kernel_rfl); exact pt g1 kt (rv (vb true)) (fin g0 rfl)
         ·intro kv kw kx ky kz Q g0; have g1 : kv 8 = vb (jm) := (kz 8 (by kernel_rfl)).trans js; exact mv g1 (fin g0 rfl)
         ·intro kv kw kx ky kz Q g0; have g1 : kv 58 = vb (jm) := ky 6 58 (by kernel_rfl) (by kernel_rfl); exact mv g1 (fin g0 rfl)
         ·intro kv kw kx ky kz Q g0; have g1 : kv 59 = vb (jm) := ky 7 59 (by kernel_rfl) (by kernel_rfl); exact gf 59 g1 ku (fin g0 rfl)
         ·intro kv kw kx ky kz Q g0; have g1 : kv 59 = vb (jm) := ky 7 59 (by kernel_rfl) (by kernel_rfl); exact gf 59 g1 ku (fin g0 rfl)
         ·intro kv kw kx ky kz Q g0; have g1 : kv 59 = vb (jm) := ky 7 59 (by kernel_rfl) (by kernel_rfl); exact gf 59 g1 ku (fin g0 rfl)
         ·intro kv kw kx ky kz Q g0; have g1 : kv 59 = vb (jm) := ky 7 59 (by kernel_rfl) (by kernel_rfl); exact pt g1 ku (rv (vb true)) (fin g0 rfl)
         ·intro kv kw kx ky kz Q g0; have g1 : kv 57 = vb (true) := ky 5 57 (by kernel_rfl) (by kernel_rfl); exact asg g1 (fin g0 rfl)
         ·intro kv kw kx ky kz Q g0; have g1 : kv 63 = vb (true) := ky 11 63 (by kernel_rfl) (by kernel_rfl); exact asg g1 (fin g0 rfl)
         ·intro kv kw kx ky kz
          have g0 := Tch.ext ks kx
          have g1 : kv 3 = j2 := (kz 3 (by kernel_rfl)).trans ju
          have g2 : kv 7 = vb (true) := ky 12 7 (by kernel_rfl)
          have g3 : kv 8 = vb (true) := ky 13 8 (by kernel_rfl)
          have g4 : kv 10 = Value.pointer (some ⟨k8, 0, none⟩) := (kz 10 (by kernel_rfl)).trans rfl
          refine block_n (then_n (W_seq ?_))
          refine W_drawP mixed 8 [PX.ptr (a0.Peer : Int), PX.eq (vi (a0.Peer)), PX.ptr (a0.Tag : Int), PX.eq (vi (a0.Tag)), PX.eq (Value.pointer (some ⟨k8, 1, none⟩)), PX.var s0.w.heap.size 64 ((Deed.with_Peer (Deed.with_Req (⟨a0.Kind, 0, 0, 0, false⟩ : Deed) jw) a0.Peer) : Deed), PX.eq (Value.pointer (some ⟨k8, 2, none⟩)), PX.var s0.w.heap.size 64 ((Deed.with_Tag (Deed.with_Peer (Deed.with_Req (⟨a0.Kind, 0, 0, 0, false⟩ : Deed) jw) a0.Peer) a0.Tag) : Deed), PX.var s0.w.heap.size 64 ((Deed.with_Req (⟨a0.Kind, 0, 0, 0, false⟩ : Deed) jw) : Deed)] [94, 95, 96, 97, 98, 10, 99, 10, 10] [[], [], [], [], [], [8], [], [5]] rfl (by kernel_rfl) (ent1 rfl ⟨k8, g4, (Nat.le_trans k2.size ka), (kr).ext kx⟩) (dis1 rfl) (StepsX_cons ?_ (StepsX_cons ?_ (StepsX_cons ?_ (StepsX_cons ?_ (StepsX_cons ?_ (StepsX_cons ?_ (StepsX_cons ?_ (StepsX_cons ?_ StepsX_nil)))))))) ?_
          ·intro g5 g6 g7 g8 g9 Q ga; have gb : g5 3 = j2 := (g9 3 (by kernel_rfl)).trans g1; exact fa fld64_1 Deed.of_Peer gb (j4.mono (je.trans (jr.trans (k0.le.trans (k9.le.trans (ke.le.trans (kq.le.trans (kx.le.trans g7.le)))))))) (fun gc gd => L_nil (ga _ _ No (Ext.refl g6) (fun _ h => h.elim) gd (fun _ h => h.elim)))
          ·intro g5 g6 g7 g8 g9 Q ga; have gb : Ptr _ (g5 94) (a0.Peer : Int) := g8 0 (by kernel_rfl) (by show _ < 9; decide); obtain ⟨gc, gd, gg⟩ : ∃ v, _ = v ∧ Ptr _ v _ := ⟨_, rfl, gb⟩; exact li ty3 gd gg (L_nil (ga _ _ No (Ext.refl g6) (fun _ h => h.elim) rfl (fun _ h => h.elim)))
          ·intro g5 g6 g7 g8 g9 Q ga; have gb : g5 3 = j2 := (g9 3 (by kernel_rfl)).trans g1; exact fa fld64_2 Deed.of_Tag gb (j4.mono (je.trans (jr.trans (k0.le.trans (k9.le.trans (ke.le.trans (kq.le.trans (kx.le.trans g7.le)))))))) (fun gc gd => L_nil (ga _ _ No (Ext.refl g6) (fun _ h => h.elim) gd (fun _ h => h.elim)))
          ·intro g5 g6 g7 g8 g9 Q ga; have gb : Ptr _ (g5 96) (a0.Tag : Int) := g8 2 (by kernel_rfl) (by show _ < 9; decide); obtain ⟨gc, gd, gg⟩ : ∃ v, _ = v ∧ Ptr _ v _ := ⟨_, rfl, gb⟩; exact li ty3 gd gg (L_nil (ga _ _ No (Ext.refl g6) (fun _ h => h.elim) rfl (fun _ h => h.elim)))
          ·intro g5 g6 g7 g8 g9 Q ga
           obtain ⟨gb, gc, gd, gg⟩ : ∃ b, g5 10 = Value.pointer (some ⟨b, 0, none⟩) ∧ s0.w.heap.size ≤ b ∧ Var g6 b 64 ((Deed.with_Req (⟨a0.Kind, 0, 0, 0, false⟩ : Deed) jw) : Deed) := g8 8 (by kernel_rfl) (by show _ < 9; decide)
           have gh : g5 10 = Value.pointer (some ⟨k8, 0, none⟩) := (g9 10 (by kernel_rfl)).trans g4
           have gi : gb = k8 := by have gj := gc.symm.trans gh; cases gj; rfl
           rw [gi] at gd gg
           exact L_fieldAddr_var fld64_1 gh (by decide) (L_nil (ga _ _ No (Ext.refl g6) (fun _ h => h.elim) rfl (fun _ h => h.elim)))
          ·intro g5 g6 g7 g8 g9 Q ga
           obtain ⟨gb, gc, gd, gg⟩ : ∃ b, g5 10 = Value.pointer (some ⟨b, 0, none⟩) ∧ s0.w.heap.size ≤ b ∧ Var g6 b 64 ((Deed.with_Req (⟨a0.Kind, 0, 0, 0, false⟩ : Deed) jw) : Deed) := g8 8 (by kernel_rfl) (by show _ < 9; decide)
           have gh : g5 10 = Value.pointer (some ⟨k8, 0, none⟩) := (g9 10 (by kernel_rfl)).trans g4
           have gi : gb = k8 := by have gj := gc.symm.trans gh; cases gj; rfl
           rw [gi] at gd gg
           have gk : g5 95 = vi (a0.Peer) := g8 1 (by kernel_rfl) (by show _ < 9; decide)
           have gl : g5 98 = Value.pointer (some ⟨k8, 1, none⟩) := g8 4 (by kernel_rfl) (by show _ < 9; decide)
           exact L_store_field ty3 Deed.set_Peer gl gk Vint (gg) (fun gm gn go => L_nil (ga undef _ _ gn (fun k h => ⟨8, (List.mem_singleton.2 rfl : (8 : Nat) ∈ [8]), (by show ownP (g5 10) k; rw [gh]; exact congrArg (fun z => Value.pointer (some ⟨z, 0, none⟩)) h.symm)⟩) ⟨_, gh, gd, go⟩ (fun k h => Or.inl ⟨8, (List.mem_singleton.2 rfl : (8 : Nat) ∈ [8]), h⟩)))
          ·intro g5 g6 g7 g8 g9 Q ga
           obtain ⟨gb, gc, gd, gg⟩ : ∃ b, g5 10 = Value.pointer (some ⟨b, 0, none⟩) ∧ s0.w.heap.size ≤ b ∧ Var g6 b 64 ((Deed.with_Peer (Deed.with_Req (⟨a0.Kind, 0, 0, 0, false⟩ : Deed) jw) a0.Peer) : Deed) := g8 5 (by kernel_rfl) (by show _ < 9; decide)
           have gh : g5 10 = Value.pointer (some ⟨k8, 0, none⟩) := (g9 10 (by kernel_rfl)).trans g4
           have gi : gb = k8 := by have gj := gc.symm.trans gh; cases gj; rfl
           rw [gi] at gd gg
           exact L_fieldAddr_var fld64_2 gh (by decide) (L_nil (ga _ _ No (Ext.refl g6) (fun _ h => h.elim) rfl (fun _ h => h.elim)))
          ·intro g5 g6 g7 g8 g9 Q ga
           obtain ⟨gb, gc, gd, gg⟩ : ∃ b, g5 10 = Value.pointer (some ⟨b, 0, none⟩) ∧ s0.w.heap.size ≤ b ∧ Var g6 b 64 ((Deed.with_Peer (Deed.with_Req (⟨a0.Kind, 0, 0, 0, false⟩ : Deed) jw) a0.Peer) : Deed) := g8 5 (by kernel_rfl) (by show _ < 9; decide)
           have gh : g5 10 = Value.pointer (some ⟨k8, 0, none⟩) := (g9 10 (by kernel_rfl)).trans g4
           have gi : gb = k8 := by have gj := gc.symm.trans gh; cases gj; rfl
           rw [gi] at gd gg
           have gk : g5 97 = vi (a0.Tag) := g8 3 (by kernel_rfl) (by show _ < 9; decide)
           have gl : g5 99 = Value.pointer (some ⟨k8, 2, none⟩) := g8 6 (by kernel_rfl) (by show _ < 9; decide)
           exact L_store_field ty3 Deed.set_Tag gl gk Vint (gg) (fun gm gn go => L_nil (ga undef _ _ gn (fun k h => ⟨5, (List.mem_singleton.2 rfl : (5 : Nat) ∈ [5]), (by show ownP (g5 10) k; rw [gh]; exact congrArg (fun z => Value.pointer (some ⟨z, 0, none⟩)) h.symm)⟩) ⟨_, gh, gd, go⟩ (fun k h => Or.inl ⟨5, (List.mem_singleton.2 rfl : (5 : Nat) ∈ [5]), h⟩)))
          ·intro g5 g6 g7 g8 g9 ga
           have gb := Tch.trans g0 g7 (fun k h => Or.inr (by have gc := ent_is (k := 8) rfl rfl h; have gd := Eq.mp (congrArg (fun v => ownP v k) (g4 : _ = Value.pointer (some ⟨k8, 0, none⟩))) gc; cases gd; exact (Nat.le_trans k2.size ka)))
           obtain ⟨gg, gh, gi, gj⟩ : ∃ b, g5 10 = Value.pointer (some ⟨b, 0, none⟩) ∧ s0.w.heap.size ≤ b ∧ Var g6 b 64 ((Deed.with_Tag (Deed.with_Peer (Deed.with_Req (⟨a0.Kind, 0, 0, 0, false⟩ : Deed) jw) a0.Peer) a0.Tag) : Deed) := g8 7 (by show _ < 9; decide) (by kernel_rfl)
           have gk : g5 10 = Value.pointer (some ⟨k8, 0, none⟩) := (ga 10 (by kernel_rfl)).trans g4
           have gl : gg = k8 := by have gd := gh.symm.trans gk; cases gd; rfl
           rw [gl] at gi gj
           have gm : g5 3 = j2 := (ga 3 (by kernel_rfl)).trans g1
           have gn : g5 7 = vb (true) := (ga 7 (by kernel_rfl)).trans g2
           have go : g5 8 = vb (true) := (ga 8 (by kernel_rfl)).trans g3
           refine then_n (sr (ld ty64 gm (j4.mono (je.trans (jr.trans (k0.le.trans (k9.le.trans (ke.le.trans (kq.le.trans (kx.le.trans g7.le)))))))) (fun gp gq => L_load_var ty64 gk (gj) (by decide) (fun gr gs => L_seq64 (rv gp) gq (rv gr) gs (by decide) (mv (rfl : _ = vb (decide (a0 = (Deed.with_Tag (Deed.with_Peer (Deed.with_Req (⟨a0.Kind, 0, 0, 0, false⟩ : Deed) jw) a0.Peer) a0.Tag)))) ?_)))))
           rcases tf (decide (a0 = (Deed.with_Tag (Deed.with_Peer (Deed.with_Req (⟨a0.Kind, 0, 0, 0, false⟩ : Deed) jw) a0.Peer) a0.Tag))) with gu | gu
           ·have hr := ite_t gu hr; refine gt 103 (rfl : _ = vb (decide (a0 = (Deed.with_Tag (Deed.with_Peer (Deed.with_Req (⟨a0.Kind, 0, 0, 0, false⟩ : Deed) jw) a0.Peer) a0.Tag)))) gu (mv gn (pt (rfl : _ = vb (decide (a0 = (Deed.with_Tag (Deed.with_Peer (Deed.with_Req (⟨a0.Kind, 0, 0, 0, false⟩ : Deed) jw) a0.Peer) a0.Tag)))) gu (rv (vb true)) (mv (rv (vb true)) (gt 106 (rv (vb true)) rfl (mv go (pt (rv (vb true)) rfl (rv (vb true)) (asg (rv (vb true)) (nn (W_ret ?_))))))))); obtain rfl := Option.some.inj hr; exact done1 (Or.inl rfl) Try.results58 rfl ⟨_, _, rfl, rfl, gb, Vbool⟩
           ·have hr := ite_f gu hr; refine gf 103 (rfl : _ = vb (decide (a0 = (Deed.with_Tag (Deed.with_Peer (Deed.with_Req (⟨a0.Kind, 0, 0, 0, false⟩ : Deed) jw) a0.Peer) a0.Tag)))) gu (pf (rfl : _ = vb (decide (a0 = (Deed.with_Tag (Deed.with_Peer (Deed.with_Req (⟨a0.Kind, 0, 0, 0, false⟩ : Deed) jw) a0.Peer) a0.Tag)))) gu (rv (vb false)) (mv (rv (vb false)) (gf 106 (rv (vb false)) rfl (pf (rv (vb false)) rfl (rv (vb false)) (asg (rv (vb false)) (nn (W_ret ?_))))))); obtain rfl := Option.some.inj hr; exact done1 (Or.inl rfl) Try.results58 rfl ⟨_, _, rfl, rfl, gb, Vbool⟩
        ·have hr := ite_f ku hr
         refine W_draws mixed (by kernel_rfl) [PV.eq (vb j9), PV.eq (vb j9), PV.eq (undef), PV.eq (undef), PV.eq (undef), PV.eq (vb true), PV.eq (vb jm), PV.eq (vb jm), PV.ptr (a0.Peer : Int), PV.eq (vi (a0.Peer)), PV.eq (vb (decide (a0.Peer = (-1)))), PV.eq (vb (decide (a0.Peer = (-1)))), PV.eq (vb true), PV.eq (vb (decide (a0.Peer = (-1))))] (Steps_cons ?_ (Steps_cons ?_ (Steps_cons ?_ (Steps_cons ?_ (Steps_cons ?_ (Steps_cons ?_ (Steps_cons ?_ (Steps_cons ?_ (Steps_cons ?_ (Steps_cons ?_ (Steps_cons ?_ (Steps_cons ?_ (Steps_cons ?_ (Steps_cons ?_ Steps_nil)))))))))))))) ?_
         ·intro kv kw kx ky kz Q g0; have g1 : kv 7 = vb (j9) := (kz 7 (by kernel_rfl)).trans jv; exact mv g1 (fin g0 rfl)
         ·intro kv kw kx ky kz Q g0; have g1 : kv 52 = vb (j9) := ky 0 52 (by kernel_rfl) (by kernel_rfl); exact mv g1 (fin g0 rfl)
         ·intro kv kw kx ky kz Q g0; have g1 : kv 53 = vb (j9) := ky 1 53 (by kernel_rfl) (by kernel_rfl); exact gf 53 g1 kt (fin g0 rfl)
         ·intro kv kw kx ky kz Q g0; have g1 : kv 53 = vb (j9) := ky 1 53 (by kernel_rfl) (by kernel_rfl); exact gf 53 g1 kt (fin g0 rfl)
         ·intro kv kw kx ky kz Q g0; have g1 : kv 53 = vb (j9) := ky 1 53 (by kernel_rfl) (by kernel_rfl); exact gf 53 g1 kt (fin g0 rfl)
         ·intro kv kw kx ky kz Q g0; have g1 : kv 53 = vb (j9) := ky 1 53 (by kernel_rfl) (by kernel_rfl); exact pt g1 kt (rv (vb true)) (fin g0 rfl)
         ·intro kv kw kx ky kz Q g0; have g1 : kv 8 = vb (jm) := (kz 8 (by kernel_rfl)).trans js; exact mv g1 (fin g0 rfl)
         ·intro kv kw kx ky kz Q g0; have g1 : kv 58 = vb (jm) := ky 6 58 (by kernel_rfl) (by kernel_rfl); exact mv g1 (fin g0 rfl)
         ·intro kv kw kx ky kz Q g0; have g1 : kv 3 = j2 := (kz 3 (by kernel_rfl)).trans ju; have g2 : kv 59 = vb (jm) := ky 7 59 (by kernel_rfl) (by kernel_rfl); exact gt 59 g2 ku (fa fld64_1 Deed.of_Peer g1 (j4.mono (je.trans (jr.trans (k0.le.trans (k9.le.trans (ke.le.trans (kq.le.trans kx.le))))))) (fun g3 g4 => fin g0 g4))
         ·intro kv kw kx ky kz Q g0; have g1 : kv 59 = vb (jm) := ky 7 59 (by kernel_rfl) (by kernel_rfl); have g2 : Ptr _ (kv 60) (a0.Peer : Int) := ky 8 60 (by kernel_rfl) (by kernel_rfl); obtain ⟨g3, g4, g5⟩ : ∃ v, _ = v ∧ Ptr _ v _ := ⟨_, rfl, g2⟩; exact gt 59 g1 ku (li ty3 g4 g5 (fin g0 rfl))
         ·intro kv kw kx ky kz Q g0; have g1 : kv 59 = vb (jm) := ky 7 59 (by kernel_rfl) (by kernel_rfl); have g2 : kv 61 = vi (a0.Peer) := ky 9 61 (by kernel_rfl) (by kernel_rfl); exact gt 59 g1 ku (el g2 (rv (vi (-1))) (fin g0 rfl))
         ·intro kv kw kx ky kz Q g0; have g1 : kv 59 = vb (jm) := ky 7 59 (by kernel_rfl) (by kernel_rfl); have g2 : kv 62 = vb (decide (a0.Peer = (-1))) := ky 10 62 (by kernel_rfl) (by kernel_rfl); exact pf g1 ku g2 (fin g0 rfl)
         ·intro kv kw kx ky kz Q g0; have g1 : kv 57 = vb (true) := ky 5 57 (by kernel_rfl) (by kernel_rfl); exact asg g1 (fin g0 rfl)
         ·intro kv kw kx ky kz Q g0; have g1 : kv 63 = vb (decide (a0.Peer = (-1))) := ky 11 63 (by kernel_rfl) (by kernel_rfl); exact asg g1 (fin g0 rfl)
         ·intro kv kw kx ky kz
          have g0 := Tch.ext ks kx
          have g1 : kv 3 = j2 := (kz 3 (by kernel_rfl)).trans ju
          have g2 : kv 7 = vb (true) := ky 12 7 (by kernel_rfl)
          have g3 : kv 8 = vb (decide (a0.Peer = (-1))) := ky 13 8 (by kernel_rfl)
          have g4 : kv 10 = Value.pointer (some ⟨k8, 0, none⟩) := (kz 10 (by kernel_rfl)).trans rfl
          refine block_n (then_n (W_seq ?_))
          refine W_drawP mixed 8 [PX.ptr (a0.Peer : Int), PX.eq (vi (a0.Peer)), PX.ptr (a0.Tag : Int), PX.eq (vi (a0.Tag)), PX.eq (Value.pointer (some ⟨k8, 1, none⟩)), PX.var s0.w.heap.size 64 ((Deed.with_Peer (Deed.with_Req (⟨a0.Kind, 0, 0, 0, false⟩ : Deed) jw) a0.Peer) : Deed), PX.eq (Value.pointer (some ⟨k8, 2, none⟩)), PX.var s0.w.heap.size 64 ((Deed.with_Tag (Deed.with_Peer (Deed.with_Req (⟨a0.Kind, 0, 0, 0, false⟩ : Deed) jw) a0.Peer) a0.Tag) : Deed), PX.var s0.w.heap.size 64 ((Deed.with_Req (⟨a0.Kind, 0, 0, 0, false⟩ : Deed) jw) : Deed)] [94, 95, 96, 97, 98, 10, 99, 10, 10] [[], [], [], [], [], [8], [], [5]] rfl (by kernel_rfl) (ent1 rfl ⟨k8, g4, (Nat.le_trans k2.size ka), (kr).ext kx⟩) (dis1 rfl) (StepsX_cons ?_ (StepsX_cons ?_ (StepsX_cons ?_ (StepsX_cons ?_ (StepsX_cons ?_ (StepsX_cons ?_ (StepsX_cons ?_ (StepsX_cons ?_ StepsX_nil)))))))) ?_
          ·intro g5 g6 g7 g8 g9 Q ga; have gb : g5 3 = j2 := (g9 3 (by kernel_rfl)).trans g1; exact fa fld64_1 Deed.of_Peer gb (j4.mono (je.trans (jr.trans (k0.le.trans (k9.le.trans (ke.le.trans (kq.le.trans (kx.le.trans g7.le)))))))) (fun gc gd => L_nil (ga _ _ No (Ext.refl g6) (fun _ h => h.elim) gd (fun _ h => h.elim)))
          ·intro g5 g6 g7 g8 g9 Q ga; have gb : Ptr _ (g5 94) (a0.Peer : Int) := g8 0 (by kernel_rfl) (by show _ < 9; decide); obtain ⟨gc, gd, gg⟩ : ∃ v, _ = v ∧ Ptr _ v _ := ⟨_, rfl, gb⟩; exact li ty3 gd gg (L_nil (ga _ _ No (Ext.refl g6) (fun _ h => h.elim) rfl (fun _ h => h.elim)))
          ·intro g5 g6 g7 g8 g9 Q ga; have gb : g5 3 = j2 := (g9 3 (by kernel_rfl)).trans g1; exact fa fld64_2 Deed.of_Tag gb (j4.mono (je.trans (jr.trans (k0.le.trans (k9.le.trans (ke.le.trans (kq.le.trans (kx.le.trans g7.le)))))))) (fun gc gd => L_nil (ga _ _ No (Ext.refl g6) (fun _ h => h.elim) gd (fun _ h => h.elim)))
          ·intro g5 g6 g7 g8 g9 Q ga; have gb : Ptr _ (g5 96) (a0.Tag : Int) := g8 2 (by kernel_rfl) (by show _ < 9; decide); obtain ⟨gc, gd, gg⟩ : ∃ v, _ = v ∧ Ptr _ v _ := ⟨_, rfl, gb⟩; exact li ty3 gd gg (L_nil (ga _ _ No (Ext.refl g6) (fun _ h => h.elim) rfl (fun _ h => h.elim)))
          ·intro g5 g6 g7 g8 g9 Q ga
           obtain ⟨gb, gc, gd, gg⟩ : ∃ b, g5 10 = Value.pointer (some ⟨b, 0, none⟩) ∧ s0.w.heap.size ≤ b ∧ Var g6 b 64 ((Deed.with_Req (⟨a0.Kind, 0, 0, 0, false⟩ : Deed) jw) : Deed) := g8 8 (by kernel_rfl) (by show _ < 9; decide)
           have gh : g5 10 = Value.pointer (some ⟨k8, 0, none⟩) := (g9 10 (by kernel_rfl)).trans g4
           have gi : gb = k8 := by have gj := gc.symm.trans gh; cases gj; rfl
           rw [gi] at gd gg
           exact L_fieldAddr_var fld64_1 gh (by decide) (L_nil (ga _ _ No (Ext.refl g6) (fun _ h => h.elim) rfl (fun _ h => h.elim)))
          ·intro g5 g6 g7 g8 g9 Q ga
           obtain ⟨gb, gc, gd, gg⟩ : ∃ b, g5 10 = Value.pointer (some ⟨b, 0, none⟩) ∧ s0.w.heap.size ≤ b ∧ Var g6 b 64 ((Deed.with_Req (⟨a0.Kind, 0, 0, 0, false⟩ : Deed) jw) : Deed) := g8 8 (by kernel_rfl) (by show _ < 9; decide)
           have gh : g5 10 = Value.pointer (some ⟨k8, 0, none⟩) := (g9 10 (by kernel_rfl)).trans g4
           have gi : gb = k8 := by have gj := gc.symm.trans gh; cases gj; rfl
           rw [gi] at gd gg
           have gk : g5 95 = vi (a0.Peer) := g8 1 (by kernel_rfl) (by show _ < 9; decide)
           have gl : g5 98 = Value.pointer (some ⟨k8, 1, none⟩) := g8 4 (by kernel_rfl) (by show _ < 9; decide)
           exact L_store_field ty3 Deed.set_Peer gl gk Vint (gg) (fun gm gn go => L_nil (ga undef _ _ gn (fun k h => ⟨8, (List.mem_singleton.2 rfl : (8 : Nat) ∈ [8]), (by show ownP (g5 10) k; rw [gh]; exact congrArg (fun z => Value.pointer (some ⟨z, 0, none⟩)) h.symm)⟩) ⟨_, gh, gd, go⟩ (fun k h => Or.inl ⟨8, (List.mem_singleton.2 rfl : (8 : Nat) ∈ [8]), h⟩)))
          ·intro g5 g6 g7 g8 g9 Q ga
           obtain ⟨gb, gc, gd, gg⟩ : ∃ b, g5 10 = Value.pointer (some ⟨b, 0, none⟩) ∧ s0.w.heap.size ≤ b ∧ Var g6 b 64 ((Deed.with_Peer (Deed.with_Req (⟨a0.Kind, 0, 0, 0, false⟩ : Deed) jw) a0.Peer) : Deed) := g8 5 (by kernel_rfl) (by show _ < 9; decide)
           have gh : g5 10 = Value.pointer (some ⟨k8, 0, none⟩) := (g9 10 (by kernel_rfl)).trans g4
           have gi : gb = k8 := by have gj := gc.symm.trans gh; cases gj; rfl
           rw [gi] at gd gg
           exact L_fieldAddr_var fld64_2 gh (by decide) (L_nil (ga _ _ No (Ext.refl g6) (fun _ h => h.elim) rfl (fun _ h => h.elim)))
          ·intro g5 g6 g7 g8 g9 Q ga
           obtain ⟨gb, gc, gd, gg⟩ : ∃ b, g5 10 = Value.pointer (some ⟨b, 0, none⟩) ∧ s0.w.heap.size ≤ b ∧ Var g6 b 64 ((Deed.with_Peer (Deed.with_Req (⟨a0.Kind, 0, 0, 0, false⟩ : Deed) jw) a0.Peer) : Deed) := g8 5 (by kernel_rfl) (by show _ < 9; decide)
           have gh : g5 10 = Value.pointer (some ⟨k8, 0, none⟩) := (g9 10 (by kernel_rfl)).trans g4
           have gi : gb = k8 := by have gj := gc.symm.trans gh; cases gj; rfl
           rw [gi] at gd gg
           have gk : g5 97 = vi (a0.Tag) := g8 3 (by kernel_rfl) (by show _ < 9; decide)
           have gl : g5 99 = Value.pointer (some ⟨k8, 2, none⟩) := g8 6 (by kernel_rfl) (by show _ < 9; decide)
           exact L_store_field ty3 Deed.set_Tag gl gk Vint (gg) (fun gm gn go => L_nil (ga undef _ _ gn (fun k h => ⟨5, (List.mem_singleton.2 rfl : (5 : Nat) ∈ [5]), (by show ownP (g5 10) k; rw [gh]; exact congrArg (fun z => Value.pointer (some ⟨z, 0, none⟩)) h.symm)⟩) ⟨_, gh, gd, go⟩ (fun k h => Or.inl ⟨5, (List.mem_singleton.2 rfl : (5 : Nat) ∈ [5]), h⟩)))
          ·intro g5 g6 g7 g8 g9 ga
           have gb := Tch.trans g0 g7 (fun k h => Or.inr (by have gc := ent_is (k := 8) rfl rfl h; have gd := Eq.mp (congrArg (fun v => ownP v k) (g4 : _ = Value.pointer (some ⟨k8, 0, none⟩))) gc; cases gd; exact (Nat.le_trans k2.size ka)))
           obtain ⟨gg, gh, gi, gj⟩ : ∃ b, g5 10 = Value.pointer (some ⟨b, 0, none⟩) ∧ s0.w.heap.size ≤ b ∧ Var g6 b 64 ((Deed.with_Tag (Deed.with_Peer (Deed.with_Req (⟨a0.Kind, 0, 0, 0, false⟩ : Deed) jw) a0.Peer) a0.Tag) : Deed) := g8 7 (by show _ < 9; decide) (by kernel_rfl)
           have gk : g5 10 = Value.pointer (some ⟨k8, 0, none⟩) := (ga 10 (by kernel_rfl)).trans g4
           have gl : gg = k8 := by have gd := gh.symm.trans gk; cases gd; rfl
           rw [gl] at gi gj
           have gm : g5 3 = j2 := (ga 3 (by kernel_rfl)).trans g1
           have gn : g5 7 = vb (true) := (ga 7 (by kernel_rfl)).trans g2
           have go : g5 8 = vb (decide (a0.Peer = (-1))) := (ga 8 (by kernel_rfl)).trans g3
           refine then_n (sr (ld ty64 gm (j4.mono (je.trans (jr.trans (k0.le.trans (k9.le.trans (ke.le.trans (kq.le.trans (kx.le.trans g7.le)))))))) (fun gp gq => L_load_var ty64 gk (gj) (by decide) (fun gr gs => L_seq64 (rv gp) gq (rv gr) gs (by decide) (mv (rfl : _ = vb (decide (a0 = (Deed.with_Tag (Deed.with_Peer (Deed.with_Req (⟨a0.Kind, 0, 0, 0, false⟩ : Deed) jw) a0.Peer) a0.Tag)))) ?_)))))
           rcases tf (decide (a0 = (Deed.with_Tag (Deed.with_Peer (Deed.with_Req (⟨a0.Kind, 0, 0, 0, false⟩ : Deed) jw) a0.Peer) a0.Tag))) with gu | gu
           ·have hr := ite_t gu hr; refine gt 103 (rfl : _ = vb (decide (a0 = (Deed.with_Tag (Deed.with_Peer (Deed.with_Req (⟨a0.Kind, 0, 0, 0, false⟩ : Deed) jw) a0.Peer) a0.Tag)))) gu (mv gn (pt (rfl : _ = vb (decide (a0 = (Deed.with_Tag (Deed.with_Peer (Deed.with_Req (⟨a0.Kind, 0, 0, 0, false⟩ : Deed) jw) a0.Peer) a0.Tag)))) gu (rv (vb true)) (mv (rv (vb true)) (gt 106 (rv (vb true)) rfl (mv go (pt (rv (vb true)) rfl (rv (vb (decide (a0.Peer = (-1))))) (asg (rv (vb (decide (a0.Peer = (-1))))) (nn (W_ret ?_))))))))); obtain rfl := Option.some.inj hr; exact done1 (Or.inl rfl) Try.results58 rfl ⟨_, _, rfl, rfl, gb, Vbool⟩
           ·have hr := ite_f gu hr; refine gf 103 (rfl : _ = vb (decide (a0 = (Deed.with_Tag (Deed.with_Peer (Deed.with_Req (⟨a0.Kind, 0, 0, 0, false⟩ : Deed) jw) a0.Peer) a0.Tag)))) gu (pf (rfl : _ = vb (decide (a0 = (Deed.with_Tag (Deed.with_Peer (Deed.with_Req (⟨a0.Kind, 0, 0, 0, false⟩ : Deed) jw) a0.Peer) a0.Tag)))) gu (rv (vb false)) (mv (rv (vb false)) (gf 106 (rv (vb false)) rfl (pf (rv (vb false)) rfl (rv (vb false)) (asg (rv (vb false)) (nn (W_ret ?_))))))); obtain rfl := Option.some.inj hr; exact done1 (Or.inl rfl) Try.results58 rfl ⟨_, _, rfl, rfl, gb, Vbool⟩
       ·have hr := ite_f kt hr
        rcases tf (jm) with ku | ku
        ·have hr := ite_t ku hr
         refine W_draws mixed (by kernel_rfl) [PV.eq (vb j9), PV.eq (vb j9), PV.ptr (a0.Tag : Int), PV.eq (vi (a0.Tag)), PV.eq (vb (decide (a0.Tag = (-1)))), PV.eq (vb (decide (a0.Tag = (-1)))), PV.eq (vb jm), PV.eq (vb jm), PV.eq (undef), PV.eq (undef), PV.eq (undef), PV.eq (vb true), PV.eq (vb (decide (a0.Tag = (-1)))), PV.eq (vb true)] (Steps_cons ?_ (Steps_cons ?_ (Steps_cons ?_ (Steps_cons ?_ (Steps_cons ?_ (Steps_cons ?_ (Steps_cons ?_ (Steps_cons ?_ (Steps_cons ?_ (Steps_cons ?_ (Steps_cons ?_ (Steps_cons ?_ (Steps_cons ?_ (Steps_cons ?_ Steps_nil)))))))))))))) ?_
         ·intro kv kw kx ky kz Q g0; have g1 : kv 7 = vb (j9) := (kz 7 (by kernel_rfl)).trans jv; exact mv g1 (fin g0 rfl)
         ·intro kv kw kx ky kz Q g0; have g1 : kv 52 = vb (j9) := ky 0 52 (by kernel_rfl) (by kernel_rfl); exact mv g1 (fin g0 rfl)
         ·intro kv kw kx ky kz Q g0; have g1 : kv 3 = j2 := (kz 3 (by kernel_rfl)).trans ju; have g2 : kv 53 = vb (j9) := ky 1 53 (by kernel_rfl) (by kernel_rfl); exact gt 53 g2 kt (fa fld64_2 Deed.of_Tag g1 (j4.mono (je.trans (jr.trans (k0.le.trans (k9.le.trans (ke.le.trans (kq.le.trans kx.le))))))) (fun g3 g4 => fin g0 g4))
         ·intro kv kw kx ky kz Q g0; have g1 : kv 53 = vb (j9) := ky 1 53 (by kernel_rfl) (by kernel_rfl); have g2 : Ptr _ (kv 54) (a0.Tag : Int) := ky 2 54 (by kernel_rfl) (by kernel_rfl); obtain ⟨g3, g4, g5⟩ : ∃ v, _ = v ∧ Ptr _ v _ := ⟨_, rfl, g2⟩; exact gt 53 g1 kt (li ty3 g4 g5 (fin g0 rfl))
         ·intro kv kw kx ky kz Q g0; have g1 : kv 53 = vb (j9) := ky 1 53 (by kernel_rfl) (by kernel_rfl); have g2 : kv 55 = vi (a0.Tag) := ky 3 55 (by kernel_rfl) (by kernel_rfl); exact gt 53 g1 kt (el g2 (rv (vi (-1))) (fin g0 rfl))
         ·intro kv kw kx ky kz Q g0; have g1 : kv 53 = vb (j9) := ky 1 53 (by kernel_rfl) (by kernel_rfl); have g2 : kv 56 = vb (decide (a0.Tag = (-1))) := ky 4 56 (by kernel_rfl) (by kernel_rfl); exact pf g1 kt g2 (fin g0 rfl)
         ·intro kv kw kx ky kz Q g0; have g1 : kv 8 = vb (jm) := (kz 8 (by kernel_rfl)).trans js; exact mv g1 (fin g0 rfl)
         ·intro kv kw kx ky kz Q g0; have g1 : kv 58 = vb (jm) := ky 6 58 (by kernel_rfl) (by kernel_rfl); exact mv g1 (fin g0 rfl)
         ·intro kv kw kx ky kz Q g0; have g1 : kv 59 = vb (jm) := ky 7 59 (by kernel_rfl) (by kernel_rfl); exact gf 59 g1 ku (fin g0 rfl)
         ·intro kv kw kx ky kz Q g0; have g1 : kv 59 = vb (jm) := ky 7 59 (by kernel_rfl) (by kernel_rfl); exact gf 59 g1 ku (fin g0 rfl)
         ·intro kv kw kx ky kz Q g0; have g1 : kv 59 = vb (jm) := ky 7 59 (by kernel_rfl) (by kernel_rfl); exact gf 59 g1 ku (fin g0 rfl)
         ·intro kv kw kx ky kz Q g0; have g1 : kv 59 = vb (jm) := ky 7 59 (by kernel_rfl) (by kernel_rfl); exact pt g1 ku (rv (vb true)) (fin g0 rfl)
         ·intro kv kw kx ky kz Q g0; have g1 : kv 57 = vb (decide (a0.Tag = (-1))) := ky 5 57 (by kernel_rfl) (by kernel_rfl); exact asg g1 (fin g0 rfl)
         ·intro kv kw kx ky kz Q g0; have g1 : kv 63 = vb (true) := ky 11 63 (by kernel_rfl) (by kernel_rfl); exact asg g1 (fin g0 rfl)
         ·intro kv kw kx ky kz
          have g0 := Tch.ext ks kx
          have g1 : kv 3 = j2 := (kz 3 (by kernel_rfl)).trans ju
          have g2 : kv 7 = vb (decide (a0.Tag = (-1))) := ky 12 7 (by kernel_rfl)
          have g3 : kv 8 = vb (true) := ky 13 8 (by kernel_rfl)
          have g4 : kv 10 = Value.pointer (some ⟨k8, 0, none⟩) := (kz 10 (by kernel_rfl)).trans rfl
          refine block_n (then_n (W_seq ?_))
          refine W_drawP mixed 8 [PX.ptr (a0.Peer : Int), PX.eq (vi (a0.Peer)), PX.ptr (a0.Tag : Int), PX.eq (vi (a0.Tag)), PX.eq (Value.pointer (some ⟨k8, 1, none⟩)), PX.var s0.w.heap.size 64 ((Deed.with_Peer (Deed.with_Req (⟨a0.Kind, 0, 0, 0, false⟩ : Deed) jw) a0.Peer) : Deed), PX.eq (Value.pointer (some ⟨k8, 2, none⟩)), PX.var s0.w.heap.size 64 ((Deed.with_Tag (Deed.with_Peer (Deed.with_Req (⟨a0.Kind, 0, 0, 0, false⟩ : Deed) jw) a0.Peer) a0.Tag) : Deed), PX.var s0.w.heap.size 64 ((Deed.with_Req (⟨a0.Kind, 0, 0, 0, false⟩ : Deed) jw) : Deed)] [94, 95, 96, 97, 98, 10, 99, 10, 10] [[], [], [], [], [], [8], [], [5]] rfl (by kernel_rfl) (ent1 rfl ⟨k8, g4, (Nat.le_trans k2.size ka), (kr).ext kx⟩) (dis1 rfl) (StepsX_cons ?_ (StepsX_cons ?_ (StepsX_cons ?_ (StepsX_cons ?_ (StepsX_cons ?_ (StepsX_cons ?_ (StepsX_cons ?_ (StepsX_cons ?_ StepsX_nil)))))))) ?_
          ·intro g5 g6 g7 g8 g9 Q ga; have gb : g5 3 = j2 := (g9 3 (by kernel_rfl)).trans g1; exact fa fld64_1 Deed.of_Peer gb (j4.mono (je.trans (jr.trans (k0.le.trans (k9.le.trans (ke.le.trans (kq.le.trans (kx.le.trans g7.le)))))))) (fun gc gd => L_nil (ga _ _ No (Ext.refl g6) (fun _ h => h.elim) gd (fun _ h => h.elim)))
          ·intro g5 g6 g7 g8 g9 Q ga; have gb : Ptr _ (g5 94) (a0.Peer : Int) := g8 0 (by kernel_rfl) (by show _ < 9; decide); obtain ⟨gc, gd, gg⟩ : ∃ v, _ = v ∧ Ptr _ v _ := ⟨_, rfl, gb⟩; exact li ty3 gd gg (L_nil (ga _ _ No (Ext.refl g6) (fun _ h => h.elim) rfl (fun _ h => h.elim)))
          ·intro g5 g6 g7 g8 g9 Q ga; have gb : g5 3 = j2 := (g9 3 (by kernel_rfl)).trans g1; exact fa fld64_2 Deed.of_Tag gb (j4.mono (je.trans (jr.trans (k0.le.trans (k9.le.trans (ke.le.trans (kq.le.trans (kx.le.trans g7.le)))))))) (fun gc gd => L_nil (ga _ _ No (Ext.refl g6) (fun _ h => h.elim) gd (fun _ h => h.elim)))
          ·intro g5 g6 g7 g8 g9 Q ga; have gb : Ptr _ (g5 96) (a0.Tag : Int) := g8 2 (by kernel_rfl) (by show _ < 9; decide); obtain ⟨gc, gd, gg⟩ : ∃ v, _ = v ∧ Ptr _ v _ := ⟨_, rfl, gb⟩; exact li ty3 gd gg (L_nil (ga _ _ No (Ext.refl g6) (fun _ h => h.elim) rfl (fun _ h => h.elim)))
          ·intro g5 g6 g7 g8 g9 Q ga
           obtain ⟨gb, gc, gd, gg⟩ : ∃ b, g5 10 = Value.pointer (some ⟨b, 0, none⟩) ∧ s0.w.heap.size ≤ b ∧ Var g6 b 64 ((Deed.with_Req (⟨a0.Kind, 0, 0, 0, false⟩ : Deed) jw) : Deed) := g8 8 (by kernel_rfl) (by show _ < 9; decide)
           have gh : g5 10 = Value.pointer (some ⟨k8, 0, none⟩) := (g9 10 (by kernel_rfl)).trans g4
           have gi : gb = k8 := by have gj := gc.symm.trans gh; cases gj; rfl
           rw [gi] at gd gg
           exact L_fieldAddr_var fld64_1 gh (by decide) (L_nil (ga _ _ No (Ext.refl g6) (fun _ h => h.elim) rfl (fun _ h => h.elim)))
          ·intro g5 g6 g7 g8 g9 Q ga
           obtain ⟨gb, gc, gd, gg⟩ : ∃ b, g5 10 = Value.pointer (some ⟨b, 0, none⟩) ∧ s0.w.heap.size ≤ b ∧ Var g6 b 64 ((Deed.with_Req (⟨a0.Kind, 0, 0, 0, false⟩ : Deed) jw) : Deed) := g8 8 (by kernel_rfl) (by show _ < 9; decide)
           have gh : g5 10 = Value.pointer (some ⟨k8, 0, none⟩) := (g9 10 (by kernel_rfl)).trans g4
           have gi : gb = k8 := by have gj := gc.symm.trans gh; cases gj; rfl
           rw [gi] at gd gg
           have gk : g5 95 = vi (a0.Peer) := g8 1 (by kernel_rfl) (by show _ < 9; decide)
           have gl : g5 98 = Value.pointer (some ⟨k8, 1, none⟩) := g8 4 (by kernel_rfl) (by show _ < 9; decide)
           exact L_store_field ty3 Deed.set_Peer gl gk Vint (gg) (fun gm gn go => L_nil (ga undef _ _ gn (fun k h => ⟨8, (List.mem_singleton.2 rfl : (8 : Nat) ∈ [8]), (by show ownP (g5 10) k; rw [gh]; exact congrArg (fun z => Value.pointer (some ⟨z, 0, none⟩)) h.symm)⟩) ⟨_, gh, gd, go⟩ (fun k h => Or.inl ⟨8, (List.mem_singleton.2 rfl : (8 : Nat) ∈ [8]), h⟩)))
          ·intro g5 g6 g7 g8 g9 Q ga
           obtain ⟨gb, gc, gd, gg⟩ : ∃ b, g5 10 = Value.pointer (some ⟨b, 0, none⟩) ∧ s0.w.heap.size ≤ b ∧ Var g6 b 64 ((Deed.with_Peer (Deed.with_Req (⟨a0.Kind, 0, 0, 0, false⟩ : Deed) jw) a0.Peer) : Deed) := g8 5 (by kernel_rfl) (by show _ < 9; decide)
           have gh : g5 10 = Value.pointer (some ⟨k8, 0, none⟩) := (g9 10 (by kernel_rfl)).trans g4
           have gi : gb = k8 := by have gj := gc.symm.trans gh; cases gj; rfl
           rw [gi] at gd gg
           exact L_fieldAddr_var fld64_2 gh (by decide) (L_nil (ga _ _ No (Ext.refl g6) (fun _ h => h.elim) rfl (fun _ h => h.elim)))
          ·intro g5 g6 g7 g8 g9 Q ga
           obtain ⟨gb, gc, gd, gg⟩ : ∃ b, g5 10 = Value.pointer (some ⟨b, 0, none⟩) ∧ s0.w.heap.size ≤ b ∧ Var g6 b 64 ((Deed.with_Peer (Deed.with_Req (⟨a0.Kind, 0, 0, 0, false⟩ : Deed) jw) a0.Peer) : Deed) := g8 5 (by kernel_rfl) (by show _ < 9; decide)
           have gh : g5 10 = Value.pointer (some ⟨k8, 0, none⟩) := (g9 10 (by kernel_rfl)).trans g4
           have gi : gb = k8 := by have gj := gc.symm.trans gh; cases gj; rfl
           rw [gi] at gd gg
           have gk : g5 97 = vi (a0.Tag) := g8 3 (by kernel_rfl) (by show _ < 9; decide)
           have gl : g5 99 = Value.pointer (some ⟨k8, 2, none⟩) := g8 6 (by kernel_rfl) (by show _ < 9; decide)
           exact L_store_field ty3 Deed.set_Tag gl gk Vint (gg) (fun gm gn go => L_nil (ga undef _ _ gn (fun k h => ⟨5, (List.mem_singleton.2 rfl : (5 : Nat) ∈ [5]), (by show ownP (g5 10) k; rw [gh]; exact congrArg (fun z => Value.pointer (some ⟨z, 0, none⟩)) h.symm)⟩) ⟨_, gh, gd, go⟩ (fun k h => Or.inl ⟨5, (List.mem_singleton.2 rfl : (5 : Nat) ∈ [5]), h⟩)))
          ·intro g5 g6 g7 g8 g9 ga
           have gb := Tch.trans g0 g7 (fun k h => Or.inr (by have gc := ent_is (k := 8) rfl rfl h; have gd := Eq.mp (congrArg (fun v => ownP v k) (g4 : _ = Value.pointer (some ⟨k8, 0, none⟩))) gc; cases gd; exact (Nat.le_trans k2.size ka)))
           obtain ⟨gg, gh, gi, gj⟩ : ∃ b, g5 10 = Value.pointer (some ⟨b, 0, none⟩) ∧ s0.w.heap.size ≤ b ∧ Var g6 b 64 ((Deed.with_Tag (Deed.with_Peer (Deed.with_Req (⟨a0.Kind, 0, 0, 0, false⟩ : Deed) jw) a0.Peer) a0.Tag) : Deed) := g8 7 (by show _ < 9; decide) (by kernel_rfl)
           have gk : g5 10 = Value.pointer (some ⟨k8, 0, none⟩) := (ga 10 (by kernel_rfl)).trans g4
           have gl : gg = k8 := by have gd := gh.symm.trans gk; cases gd; rfl
           rw [gl] at gi gj
           have gm : g5 3 = j2 := (ga 3 (by kernel_rfl)).trans g1
           have gn : g5 7 = vb (decide (a0.Tag = (-1))) := (ga 7 (by kernel_rfl)).trans g2
           have go : g5 8 = vb (true) := (ga 8 (by kernel_rfl)).trans g3
           refine then_n (sr (ld ty64 gm (j4.mono (je.trans (jr.trans (k0.le.trans (k9.le.trans (ke.le.trans (kq.le.trans (kx.le.trans g7.le)))))))) (fun gp gq => L_load_var ty64 gk (gj) (by decide) (fun gr gs => L_seq64 (rv gp) gq (rv gr) gs (by decide) (mv (rfl : _ = vb (decide (a0 = (Deed.with_Tag (Deed.with_Peer (Deed.with_Req (⟨a0.Kind, 0, 0, 0, false⟩ : Deed) jw) a0.Peer) a0.Tag)))) ?_)))))
           rcases tf (decide (a0 = (Deed.with_Tag (Deed.with_Peer (Deed.with_Req (⟨a0.Kind, 0, 0, 0, false⟩ : Deed) jw) a0.Peer) a0.Tag))) with gu | gu
           ·have hr := ite_t gu hr
            refine gt 103 (rfl : _ = vb (decide (a0 = (Deed.with_Tag (Deed.with_Peer (Deed.with_Req (⟨a0.Kind, 0, 0, 0, false⟩ : Deed) jw) a0.Peer) a0.Tag)))) gu (mv gn (pt (rfl : _ = vb (decide (a0 = (Deed.with_Tag (Deed.with_Peer (Deed.with_Req (⟨a0.Kind, 0, 0, 0, false⟩ : Deed) jw) a0.Peer) a0.Tag)))) gu (rv (vb (decide (a0.Tag = (-1))))) (mv (rv (vb (decide (a0.Tag = (-1))))) ?_)))
            rcases tf (decide (a0.Tag = (-1))) with gv | gv
            ·have hr := ite_t gv hr; refine gt 106 (rv (vb (decide (a0.Tag = (-1))))) gv (mv go (pt (rv (vb (decide (a0.Tag = (-1))))) gv (rv (vb true)) (asg (rv (vb true)) (nn (W_ret ?_))))); obtain rfl := Option.some.inj hr; exact done1 (Or.inl rfl) Try.results58 rfl ⟨_, _, rfl, rfl, gb, Vbool⟩
            ·have hr := ite_f gv hr; refine gf 106 (rv (vb (decide (a0.Tag = (-1))))) gv (pf (rv (vb (decide (a0.Tag = (-1))))) gv (rv (vb false)) (asg (rv (vb false)) (nn (W_ret ?_)))); obtain rfl := Option.some.inj hr; exact done1 (Or.inl rfl) Try.results58 rfl ⟨_, _, rfl, rfl, gb, Vbool⟩
           ·have hr := ite_f gu hr; refine gf 103 (rfl : _ = vb (decide (a0 = (Deed.with_Tag (Deed.with_Peer (Deed.with_Req (⟨a0.Kind, 0, 0, 0, false⟩ : Deed) jw) a0.Peer) a0.Tag)))) gu (pf (rfl : _ = vb (decide (a0 = (Deed.with_Tag (Deed.with_Peer (Deed.with_Req (⟨a0.Kind, 0, 0, 0, false⟩ : Deed) jw) a0.Peer) a0.Tag)))) gu (rv (vb false)) (mv (rv (vb false)) (gf 106 (rv (vb false)) rfl (pf (rv (vb false)) rfl (rv (vb false)) (asg (rv (vb false)) (nn (W_ret ?_))))))); obtain rfl := Option.some.inj hr; exact done1 (Or.inl rfl) Try.results58 rfl ⟨_, _, rfl, rfl, gb, Vbool⟩
        ·have hr := ite_f ku hr
         refine W_draws mixed (by kernel_rfl) [PV.eq (vb j9), PV.eq (vb j9), PV.ptr (a0.Tag : Int), PV.eq (vi (a0.Tag)), PV.eq (vb (decide (a0.Tag = (-1)))), PV.eq (vb (decide (a0.Tag = (-1)))), PV.eq (vb jm), PV.eq (vb jm), PV.ptr (a0.Peer : Int), PV.eq (vi (a0.Peer)), PV.eq (vb (decide (a0.Peer = (-1)))), PV.eq (vb (decide (a0.Peer = (-1)))), PV.eq (vb (decide (a0.Tag = (-1)))), PV.eq (vb (decide (a0.Peer = (-1))))] (Steps_cons ?_ (Steps_cons ?_ (Steps_cons ?_ (Steps_cons ?_ (Steps_cons ?_ (Steps_cons ?_ (Steps_cons ?_ (Steps_cons ?_ (Steps_cons ?_ (Steps_cons ?_ (Steps_cons ?_ (Steps_cons ?_ (Steps_cons ?_ (Steps_cons ?_ Steps_nil)))))))))))))) ?_
         ·intro kv kw kx ky kz Q g0; have g1 : kv 7 = vb (j9) := (kz 7 (by kernel_rfl)).trans jv; exact mv g1 (fin g0 rfl)
         ·intro kv kw kx ky kz Q g0; have g1 : kv 52 = vb (j9) := ky 0 52 (by kernel_rfl) (by kernel_rfl); exact mv g1 (fin g0 rfl)
         ·intro kv kw kx ky kz Q g0; have g1 : kv 3 = j2 := (kz 3 (by kernel_rfl)).trans ju; have g2 : kv 53 = vb (j9) := ky 1 53 (by kernel_rfl) (by kernel_rfl); exact gt 53 g2 kt (fa fld64_2 Deed.of_Tag g1 (j4.mono (je.trans (jr.trans (k0.le.trans (k9.le.trans (ke.le.trans (kq.le.trans kx.le))))))) (fun g3 g4 => fin g0 g4))
         ·intro kv kw kx ky kz Q g0; have g1 : kv 53 = vb (j9) := ky 1 53 (by kernel_rfl) (by kernel_rfl); have g2 : Ptr _ (kv 54) (a0.Tag : Int) := ky 2 54 (by kernel_rfl) (by kernel_rfl); obtain ⟨g3, g4, g5⟩ : ∃ v, _ = v ∧ Ptr _ v _ := ⟨_, rfl, g2⟩; exact gt 53 g1 kt (li ty3 g4 g5 (fin g0 rfl))
         ·intro kv kw kx ky kz Q g0; have g1 : kv 53 = vb (j9) := ky 1 53 (by kernel_rfl) (by kernel_rfl); have g2 : kv 55 = vi (a0.Tag) := ky 3 55 (by kernel_rfl) (by kernel_rfl); exact gt 53 g1 kt (el g2 (rv (vi (-1))) (fin g0 rfl))
         ·intro kv kw kx ky kz Q g0; have g1 : kv 53 = vb (j9) := ky 1 53 (by kernel_rfl) (by kernel_rfl); have g2 : kv 56 = vb (decide (a0.Tag = (-1))) := ky 4 56 (by kernel_rfl) (by kernel_rfl); exact pf g1 kt g2 (fin g0 rfl)
         ·intro kv kw kx ky kz Q g0; have g1 : kv 8 = vb (jm) := (kz 8 (by kernel_rfl)).trans js; exact mv g1 (fin g0 rfl)
         ·intro kv kw kx ky kz Q g0; have g1 : kv 58 = vb (jm) := ky 6 58 (by kernel_rfl) (by kernel_rfl); exact mv g1 (fin g0 rfl)
         ·intro kv kw kx ky kz Q g0; have g1 : kv 3 = j2 := (kz 3 (by kernel_rfl)).trans ju; have g2 : kv 59 = vb (jm) := ky 7 59 (by kernel_rfl) (by kernel_rfl); exact gt 59 g2 ku (fa fld64_1 Deed.of_Peer g1 (j4.mono (je.trans (jr.trans (k0.le.trans (k9.le.trans (ke.le.trans (kq.le.trans kx.le))))))) (fun g3 g4 => fin g0 g4))
         ·intro kv kw kx ky kz Q g0; have g1 : kv 59 = vb (jm) := ky 7 59 (by kernel_rfl) (by kernel_rfl); have g2 : Ptr _ (kv 60) (a0.Peer : Int) := ky 8 60 (by kernel_rfl) (by kernel_rfl); obtain ⟨g3, g4, g5⟩ : ∃ v, _ = v ∧ Ptr _ v _ := ⟨_, rfl, g2⟩; exact gt 59 g1 ku (li ty3 g4 g5 (fin g0 rfl))
         ·intro kv kw kx ky kz Q g0; have g1 : kv 59 = vb (jm) := ky 7 59 (by kernel_rfl) (by kernel_rfl); have g2 : kv 61 = vi (a0.Peer) := ky 9 61 (by kernel_rfl) (by kernel_rfl); exact gt 59 g1 ku (el g2 (rv (vi (-1))) (fin g0 rfl))
         ·intro kv kw kx ky kz Q g0; have g1 : kv 59 = vb (jm) := ky 7 59 (by kernel_rfl) (by kernel_rfl); have g2 : kv 62 = vb (decide (a0.Peer = (-1))) := ky 10 62 (by kernel_rfl) (by kernel_rfl); exact pf g1 ku g2 (fin g0 rfl)
         ·intro kv kw kx ky kz Q g0; have g1 : kv 57 = vb (decide (a0.Tag = (-1))) := ky 5 57 (by kernel_rfl) (by kernel_rfl); exact asg g1 (fin g0 rfl)
         ·intro kv kw kx ky kz Q g0; have g1 : kv 63 = vb (decide (a0.Peer = (-1))) := ky 11 63 (by kernel_rfl) (by kernel_rfl); exact asg g1 (fin g0 rfl)
         ·intro kv kw kx ky kz
          have g0 := Tch.ext ks kx
          have g1 : kv 3 = j2 := (kz 3 (by kernel_rfl)).trans ju
          have g2 : kv 7 = vb (decide (a0.Tag = (-1))) := ky 12 7 (by kernel_rfl)
          have g3 : kv 8 = vb (decide (a0.Peer = (-1))) := ky 13 8 (by kernel_rfl)
          have g4 : kv 10 = Value.pointer (some ⟨k8, 0, none⟩) := (kz 10 (by kernel_rfl)).trans rfl
          refine block_n (then_n (W_seq ?_))
          refine W_drawP mixed 8 [PX.ptr (a0.Peer : Int), PX.eq (vi (a0.Peer)), PX.ptr (a0.Tag : Int), PX.eq (vi (a0.Tag)), PX.eq (Value.pointer (some ⟨k8, 1, none⟩)), PX.var s0.w.heap.size 64 ((Deed.with_Peer (Deed.with_Req (⟨a0.Kind, 0, 0, 0, false⟩ : Deed) jw) a0.Peer) : Deed), PX.eq (Value.pointer (some ⟨k8, 2, none⟩)), PX.var s0.w.heap.size 64 ((Deed.with_Tag (Deed.with_Peer (Deed.with_Req (⟨a0.Kind, 0, 0, 0, false⟩ : Deed) jw) a0.Peer) a0.Tag) : Deed), PX.var s0.w.heap.size 64 ((Deed.with_Req (⟨a0.Kind, 0, 0, 0, false⟩ : Deed) jw) : Deed)] [94, 95, 96, 97, 98, 10, 99, 10, 10] [[], [], [], [], [], [8], [], [5]] rfl (by kernel_rfl) (ent1 rfl ⟨k8, g4, (Nat.le_trans k2.size ka), (kr).ext kx⟩) (dis1 rfl) (StepsX_cons ?_ (StepsX_cons ?_ (StepsX_cons ?_ (StepsX_cons ?_ (StepsX_cons ?_ (StepsX_cons ?_ (StepsX_cons ?_ (StepsX_cons ?_ StepsX_nil)))))))) ?_
          ·intro g5 g6 g7 g8 g9 Q ga; have gb : g5 3 = j2 := (g9 3 (by kernel_rfl)).trans g1; exact fa fld64_1 Deed.of_Peer gb (j4.mono (je.trans (jr.trans (k0.le.trans (k9.le.trans (ke.le.trans (kq.le.trans (kx.le.trans g7.le)))))))) (fun gc gd => L_nil (ga _ _ No (Ext.refl g6) (fun _ h => h.elim) gd (fun _ h => h.elim)))
          ·intro g5 g6 g7 g8 g9 Q ga; have gb : Ptr _ (g5 94) (a0.Peer : Int) := g8 0 (by kernel_rfl) (by show _ < 9; decide); obtain ⟨gc, gd, gg⟩ : ∃ v, _ = v ∧ Ptr _ v _ := ⟨_, rfl, gb⟩; exact li ty3 gd gg (L_nil (ga _ _ No (Ext.refl g6) (fun _ h => h.elim) rfl (fun _ h => h.elim)))
          ·intro g5 g6 g7 g8 g9 Q ga; have gb : g5 3 = j2 := (g9 3 (by kernel_rfl)).trans g1; exact fa fld64_2 Deed.of_Tag gb (j4.mono (je.trans (jr.trans (k0.le.trans (k9.le.trans (ke.le.trans (kq.le.trans (kx.le.trans g7.le)))))))) (fun gc gd => L_nil (ga _ _ No (Ext.refl g6) (fun _ h => h.elim) gd (fun _ h => h.elim)))
          ·intro g5 g6 g7 g8 g9 Q ga; have gb : Ptr _ (g5 96) (a0.Tag : Int) := g8 2 (by kernel_rfl) (by show _ < 9; decide); obtain ⟨gc, gd, gg⟩ : ∃ v, _ = v ∧ Ptr _ v _ := ⟨_, rfl, gb⟩; exact li ty3 gd gg (L_nil (ga _ _ No (Ext.refl g6) (fun _ h => h.elim) rfl (fun _ h => h.elim)))
          ·intro g5 g6 g7 g8 g9 Q ga
           obtain ⟨gb, gc, gd, gg⟩ : ∃ b, g5 10 = Value.pointer (some ⟨b, 0, none⟩) ∧ s0.w.heap.size ≤ b ∧ Var g6 b 64 ((Deed.with_Req (⟨a0.Kind, 0, 0, 0, false⟩ : Deed) jw) : Deed) := g8 8 (by kernel_rfl) (by show _ < 9; decide)
           have gh : g5 10 = Value.pointer (some ⟨k8, 0, none⟩) := (g9 10 (by kernel_rfl)).trans g4
           have gi : gb = k8 := by have gj := gc.symm.trans gh; cases gj; rfl
           rw [gi] at gd gg
           exact L_fieldAddr_var fld64_1 gh (by decide) (L_nil (ga _ _ No (Ext.refl g6) (fun _ h => h.elim) rfl (fun _ h => h.elim)))
          ·intro g5 g6 g7 g8 g9 Q ga
           obtain ⟨gb, gc, gd, gg⟩ : ∃ b, g5 10 = Value.pointer (some ⟨b, 0, none⟩) ∧ s0.w.heap.size ≤ b ∧ Var g6 b 64 ((Deed.with_Req (⟨a0.Kind, 0, 0, 0, false⟩ : Deed) jw) : Deed) := g8 8 (by kernel_rfl) (by show _ < 9; decide)
           have gh : g5 10 = Value.pointer (some ⟨k8, 0, none⟩) := (g9 10 (by kernel_rfl)).trans g4
           have gi : gb = k8 := by have gj := gc.symm.trans gh; cases gj; rfl
           rw [gi] at gd gg
           have gk : g5 95 = vi (a0.Peer) := g8 1 (by kernel_rfl) (by show _ < 9; decide)
           have gl : g5 98 = Value.pointer (some ⟨k8, 1, none⟩) := g8 4 (by kernel_rfl) (by show _ < 9; decide)
           exact L_store_field ty3 Deed.set_Peer gl gk Vint (gg) (fun gm gn go => L_nil (ga undef _ _ gn (fun k h => ⟨8, (List.mem_singleton.2 rfl : (8 : Nat) ∈ [8]), (by show ownP (g5 10) k; rw [gh]; exact congrArg (fun z => Value.pointer (some ⟨z, 0, none⟩)) h.symm)⟩) ⟨_, gh, gd, go⟩ (fun k h => Or.inl ⟨8, (List.mem_singleton.2 rfl : (8 : Nat) ∈ [8]), h⟩)))
          ·intro g5 g6 g7 g8 g9 Q ga
           obtain ⟨gb, gc, gd, gg⟩ : ∃ b, g5 10 = Value.pointer (some ⟨b, 0, none⟩) ∧ s0.w.heap.size ≤ b ∧ Var g6 b 64 ((Deed.with_Peer (Deed.with_Req (⟨a0.Kind, 0, 0, 0, false⟩ : Deed) jw) a0.Peer) : Deed) := g8 5 (by kernel_rfl) (by show _ < 9; decide)
           have gh : g5 10 = Value.pointer (some ⟨k8, 0, none⟩) := (g9 10 (by kernel_rfl)).trans g4
           have gi : gb = k8 := by have gj := gc.symm.trans gh; cases gj; rfl
           rw [gi] at gd gg
           exact L_fieldAddr_var fld64_2 gh (by decide) (L_nil (ga _ _ No (Ext.refl g6) (fun _ h => h.elim) rfl (fun _ h => h.elim)))
          ·intro g5 g6 g7 g8 g9 Q ga
           obtain ⟨gb, gc, gd, gg⟩ : ∃ b, g5 10 = Value.pointer (some ⟨b, 0, none⟩) ∧ s0.w.heap.size ≤ b ∧ Var g6 b 64 ((Deed.with_Peer (Deed.with_Req (⟨a0.Kind, 0, 0, 0, false⟩ : Deed) jw) a0.Peer) : Deed) := g8 5 (by kernel_rfl) (by show _ < 9; decide)
           have gh : g5 10 = Value.pointer (some ⟨k8, 0, none⟩) := (g9 10 (by kernel_rfl)).trans g4
           have gi : gb = k8 := by have gj := gc.symm.trans gh; cases gj; rfl
           rw [gi] at gd gg
           have gk : g5 97 = vi (a0.Tag) := g8 3 (by kernel_rfl) (by show _ < 9; decide)
           have gl : g5 99 = Value.pointer (some ⟨k8, 2, none⟩) := g8 6 (by kernel_rfl) (by show _ < 9; decide)
           exact L_store_field ty3 Deed.set_Tag gl gk Vint (gg) (fun gm gn go => L_nil (ga undef _ _ gn (fun k h => ⟨5, (List.mem_singleton.2 rfl : (5 : Nat) ∈ [5]), (by show ownP (g5 10) k; rw [gh]; exact congrArg (fun z => Value.pointer (some ⟨z, 0, none⟩)) h.symm)⟩) ⟨_, gh, gd, go⟩ (fun k h => Or.inl ⟨5, (List.mem_singleton.2 rfl : (5 : Nat) ∈ [5]), h⟩)))
          ·intro g5 g6 g7 g8 g9 ga
           have gb := Tch.trans g0 g7 (fun k h => Or.inr (by have gc := ent_is (k := 8) rfl rfl h; have gd := Eq.mp (congrArg (fun v => ownP v k) (g4 : _ = Value.pointer (some ⟨k8, 0, none⟩))) gc; cases gd; exact (Nat.le_trans k2.size ka)))
           obtain ⟨gg, gh, gi, gj⟩ : ∃ b, g5 10 = Value.pointer (some ⟨b, 0, none⟩) ∧ s0.w.heap.size ≤ b ∧ Var g6 b 64 ((Deed.with_Tag (Deed.with_Peer (Deed.with_Req (⟨a0.Kind, 0, 0, 0, false⟩ : Deed) jw) a0.Peer) a0.Tag) : Deed) := g8 7 (by show _ < 9; decide) (by kernel_rfl)
           have gk : g5 10 = Value.pointer (some ⟨k8, 0, none⟩) := (ga 10 (by kernel_rfl)).trans g4
           have gl : gg = k8 := by have gd := gh.symm.trans gk; cases gd; rfl
           rw [gl] at gi gj
           have gm : g5 3 = j2 := (ga 3 (by kernel_rfl)).trans g1
           have gn : g5 7 = vb (decide (a0.Tag = (-1))) := (ga 7 (by kernel_rfl)).trans g2
           have go : g5 8 = vb (decide (a0.Peer = (-1))) := (ga 8 (by kernel_rfl)).trans g3
           refine then_n (sr (ld ty64 gm (j4.mono (je.trans (jr.trans (k0.le.trans (k9.le.trans (ke.le.trans (kq.le.trans (kx.le.trans g7.le)))))))) (fun gp gq => L_load_var ty64 gk (gj) (by decide) (fun gr gs => L_seq64 (rv gp) gq (rv gr) gs (by decide) (mv (rfl : _ = vb (decide (a0 = (Deed.with_Tag (Deed.with_Peer (Deed.with_Req (⟨a0.Kind, 0, 0, 0, false⟩ : Deed) jw) a0.Peer) a0.Tag)))) ?_)))))
           rcases tf (decide (a0 = (Deed.with_Tag (Deed.with_Peer (Deed.with_Req (⟨a0.Kind, 0, 0, 0, false⟩ : Deed) jw) a0.Peer) a0.Tag))) with gu | gu
           ·have hr := ite_t gu hr
            refine gt 103 (rfl : _ = vb (decide (a0 = (Deed.with_Tag (Deed.with_Peer (Deed.with_Req (⟨a0.Kind, 0, 0, 0, false⟩ : Deed) jw) a0.Peer) a0.Tag)))) gu (mv gn (pt (rfl : _ = vb (decide (a0 = (Deed.with_Tag (Deed.with_Peer (Deed.with_Req (⟨a0.Kind, 0, 0, 0, false⟩ : Deed) jw) a0.Peer) a0.Tag)))) gu (rv (vb (decide (a0.Tag = (-1))))) (mv (rv (vb (decide (a0.Tag = (-1))))) ?_)))
            rcases tf (decide (a0.Tag = (-1))) with gv | gv
            ·have hr := ite_t gv hr; refine gt 106 (rv (vb (decide (a0.Tag = (-1))))) gv (mv go (pt (rv (vb (decide (a0.Tag = (-1))))) gv (rv (vb (decide (a0.Peer = (-1))))) (asg (rv (vb (decide (a0.Peer = (-1))))) (nn (W_ret ?_))))); obtain rfl := Option.some.inj hr; exact done1 (Or.inl rfl) Try.results58 rfl ⟨_, _, rfl, rfl, gb, Vbool⟩
            ·have hr := ite_f gv hr; refine gf 106 (rv (vb (decide (a0.Tag = (-1))))) gv (pf (rv (vb (decide (a0.Tag = (-1))))) gv (rv (vb false)) (asg (rv (vb false)) (nn (W_ret ?_)))); obtain rfl := Option.some.inj hr; exact done1 (Or.inl rfl) Try.results58 rfl ⟨_, _, rfl, rfl, gb, Vbool⟩
           ·have hr := ite_f gu hr; refine gf 103 (rfl : _ = vb (decide (a0 = (Deed.with_Tag (Deed.with_Peer (Deed.with_Req (⟨a0.Kind, 0, 0, 0, false⟩ : Deed) jw) a0.Peer) a0.Tag)))) gu (pf (rfl : _ = vb (decide (a0 = (Deed.with_Tag (Deed.with_Peer (Deed.with_Req (⟨a0.Kind, 0, 0, 0, false⟩ : Deed) jw) a0.Peer) a0.Tag)))) gu (rv (vb false)) (mv (rv (vb false)) (gf 106 (rv (vb false)) rfl (pf (rv (vb false)) rfl (rv (vb false)) (asg (rv (vb false)) (nn (W_ret ?_))))))); obtain rfl := Option.some.inj hr; exact done1 (Or.inl rfl) Try.results58 rfl ⟨_, _, rfl, rfl, gb, Vbool⟩
      ·have hr := ite_f km hr
       refine sr (el (rv (vi (a0.Kind))) (rv (vi 5)) (asg (rv (vb (decide (a0.Kind = 5)))) (nn ?_)))
       refine W_cond _ (rv (vb (decide (a0.Kind = 5)))) (fun kn => ?_) (fun kn => ?_)
       ·have hr := ite_t kn hr
        refine sr (fa fld64_3 Deed.of_Req ju (j4.mono (je.trans (jr.trans (k0.le.trans (k9.le.trans ke.le))))) (fun ko kp => li ty3 (rv ko) kp (L_fieldAddr_var fld64_3 (rv (Value.pointer (some ⟨k8, 0, none⟩))) (by decide) (L_store_field ty3 Deed.set_Req (rv (Value.pointer (some ⟨k8, 3, none⟩))) (rv (vi (a0.Req))) Vint (kf) (fun kq kr ks => ?_)))))
        have kt := Tch.trans kg kr (fun k hk => Or.inr (by subst hk; exact (Nat.le_trans k2.size ka)))
        refine nn ?_
        obtain ⟨ku, kv, kw⟩ := bind_some hr
        refine W_seq_cut (fun f w => ∃ (s : St) (kx : Bool), s.w = w ∧ Ext s0 s ∧ Le kq s ∧ kx = ku ∧ f 6 = vb kx) ?_ ?_
        ·have hr := kv
         refine W_region (ld ty64 ju (j4.mono (je.trans (jr.trans (k0.le.trans (k9.le.trans (ke.le.trans kr.le)))))) (fun ky kz => L_load_var ty64 (rv (Value.pointer (some ⟨k8, 0, none⟩))) (ks) (by decide) (fun g0 g1 => L_seq64 (rv ky) kz (rv g0) g1 (by decide) (mv (rv (vb (decide (a0 = (Deed.with_Req (⟨a0.Kind, 0, 0, 0, false⟩ : Deed) a0.Req))))) ?_))))
         rcases tf (decide (a0 = (Deed.with_Req (⟨a0.Kind, 0, 0, 0, false⟩ : Deed) a0.Req))) with g2 | g2
         ·have hr := ite_t g2 hr
          refine gt 72 (rv (vb (decide (a0 = (Deed.with_Req (⟨a0.Kind, 0, 0, 0, false⟩ : Deed) a0.Req))))) g2 (fa fld64_3 Deed.of_Req ju (j4.mono (je.trans (jr.trans (k0.le.trans (k9.le.trans (ke.le.trans kr.le)))))) (fun g3 g4 => gt 72 (rv (vb (decide (a0 = (Deed.with_Req (⟨a0.Kind, 0, 0, 0, false⟩ : Deed) a0.Req))))) g2 (li ty3 (rv g3) g4 (gt 72 (rv (vb (decide (a0 = (Deed.with_Req (⟨a0.Kind, 0, 0, 0, false⟩ : Deed) a0.Req))))) g2 (L_geq (rv (vi (a0.Req))) (rv (vi 0)) (by decide) (pt (rv (vb (decide (a0 = (Deed.with_Req (⟨a0.Kind, 0, 0, 0, false⟩ : Deed) a0.Req))))) g2 (rv (vb (decide (0 ≤ a0.Req)))) (mv (rv (vb (decide (0 ≤ a0.Req)))) ?_)))))))
          rcases tf (decide (0 ≤ a0.Req)) with g5 | g5
          ·have hr := ite_t g5 hr
           refine gt 77 (rv (vb (decide (0 ≤ a0.Req)))) g5 (fa fld64_3 Deed.of_Req ju (j4.mono (je.trans (jr.trans (k0.le.trans (k9.le.trans (ke.le.trans kr.le)))))) (fun g6 g7 => gt 77 (rv (vb (decide (0 ≤ a0.Req)))) g5 (li ty3 (rv g6) g7 (gt 77 (rv (vb (decide (0 ≤ a0.Req)))) g5 (mv (rv (vi jw)) (gt 77 (rv (vb (decide (0 ≤ a0.Req)))) g5 (ls (rv (vi (a0.Req))) (rv (vi jw)) (pt (rv (vb (decide (0 ≤ a0.Req)))) g5 (rv (vb (decide (a0.Req < jw)))) (mv (rv (vb (decide (a0.Req < jw)))) ?_)))))))))
           rcases tf (decide (a0.Req < jw)) with g8 | g8
           ·have hr := ite_t g8 hr; refine gt 83 (rv (vb (decide (a0.Req < jw)))) g8 (mv jt (gt 83 (rv (vb (decide (a0.Req < jw)))) g8 (ld ty64 ju (j4.mono (je.trans (jr.trans (k0.le.trans (k9.le.trans (ke.le.trans kr.le)))))) (fun g9 ga => gt 83 (rv (vb (decide (a0.Req < jw)))) g8 ?_)))); obtain ⟨gb, gc, hr⟩ := bind_some hr; refine L_calls cal80 (args2 (rv w1) (rv g9)) (slices_Contains_Llang_Deed_lang_Deed_ok N _ _ _ (h1.mono (j3.le.trans (je.trans (jr.trans (k0.le.trans (k9.le.trans (ke.le.trans kr.le))))))) _ _ ga gb gc) (by decide) (fun gd gg gh gi => ?_); have gj := Tch.ext kt gh; obtain rfl := gi.bool; exact gt 83 (rv (vb (decide (a0.Req < jw)))) g8 (L_not (rv (vb gb)) (by decide) (pt (rv (vb (decide (a0.Req < jw)))) g8 (rv (vb (!gb))) (asg (rv (vb (!gb))) (nn ⟨gg, (!gb), rfl, gj, gh.le, Option.some.inj hr, rfl⟩))))
           ·have hr := ite_f g8 hr; exact gf 83 (rv (vb (decide (a0.Req < jw)))) g8 (gf 83 (rv (vb (decide (a0.Req < jw)))) g8 (gf 83 (rv (vb (decide (a0.Req < jw)))) g8 (gf 83 (rv (vb (decide (a0.Req < jw)))) g8 (pf (rv (vb (decide (a0.Req < jw)))) g8 (rv (vb false)) (asg (rv (vb false)) (nn ⟨kq, false, rfl, kt, (Le.refl _), Option.some.inj hr, rfl⟩))))))
          ·have hr := ite_f g5 hr; exact gf 77 (rv (vb (decide (0 ≤ a0.Req)))) g5 (gf 77 (rv (vb (decide (0 ≤ a0.Req)))) g5 (gf 77 (rv (vb (decide (0 ≤ a0.Req)))) g5 (gf 77 (rv (vb (decide (0 ≤ a0.Req)))) g5 (pf (rv (vb (decide (0 ≤ a0.Req)))) g5 (rv (vb false)) (mv (rv (vb false)) (gf 83 (rv (vb false)) rfl (gf 83 (rv (vb false)) rfl (gf 83 (rv (vb false)) rfl (gf 83 (rv (vb false)) rfl (pf (rv (vb false)) rfl (rv (vb false)) (asg (rv (vb false)) (nn ⟨kq, false, rfl, kt, (Le.refl _), Option.some.inj hr, rfl⟩))))))))))))
         ·have hr := ite_f g2 hr; refine gf 72 (rv (vb (decide (a0 = (Deed.with_Req (⟨a0.Kind, 0, 0, 0, false⟩ : Deed) a0.Req))))) g2 (gf 72 (rv (vb (decide (a0 = (Deed.with_Req (⟨a0.Kind, 0, 0, 0, false⟩ : Deed) a0.Req))))) g2 (gf 72 (rv (vb (decide (a0 = (Deed.with_Req (⟨a0.Kind, 0, 0, 0, false⟩ : Deed) a0.Req))))) g2 (pf (rv (vb (decide (a0 = (Deed.with_Req (⟨a0.Kind, 0, 0, 0, false⟩ : Deed) a0.Req))))) g2 (rv (vb false)) (mv (rv (vb false)) (gf 77 (rv (vb false)) rfl (gf 77 (rv (vb false)) rfl (gf 77 (rv (vb false)) rfl (gf 77 (rv (vb false)) rfl (pf (rv (vb false)) rfl (rv (vb false)) (mv (rv (vb false)) (gf 83 (rv (vb false)) rfl (gf 83 (rv (vb false)) rfl (gf 83 (rv (vb false)) rfl ?_))))))))))))); exact gf 83 (rv (vb false)) rfl (pf (rv (vb false)) rfl (rv (vb false)) (asg (rv (vb false)) (nn ⟨kq, false, rfl, kt, (Le.refl _), Option.some.inj hr, rfl⟩)))
        ·rintro ky kz ⟨g0, kx, rfl, g1, g2, kv, g3⟩; subst kv; have hr := kw; (try dsimp only at hr); refine W_ret (block_r (then_r ?_)); obtain rfl := Option.some.inj hr; exact done1 (Or.inl rfl) Try.results58 g3 ⟨_, _, rfl, rfl, g1, Vbool⟩
       ·have hr := ite_f kn hr
        refine sr (el (rv (vi (a0.Kind))) (rv (vi 6)) (asg (rv (vb (decide (a0.Kind = 6)))) (nn ?_)))
        refine W_cond _ (rv (vb (decide (a0.Kind = 6)))) (fun ko => ?_) (fun ko => ?_)
        ·have hr := ite_t ko hr; refine sr (ld ty64 ju (j4.mono (je.trans (jr.trans (k0.le.trans (k9.le.trans ke.le))))) (fun kp kq => L_load_var ty64 (rv (Value.pointer (some ⟨k8, 0, none⟩))) (kf) (by decide) (fun kr ks => L_seq64 (rv kp) kq (rv kr) ks (by decide) (asg (rv (vb (decide (a0 = (⟨a0.Kind, 0, 0, 0, false⟩ : Deed))))) (nn (W_ret (block_r (then_r ?_)))))))); obtain rfl := Option.some.inj hr; exact done1 (Or.inl rfl) Try.results58 rfl ⟨_, _, rfl, rfl, kg, Vbool⟩
        ·have hr := ite_f ko hr; refine sr (asg (rv (vb false)) (nn (W_ret (block_r (then_r ?_))))); obtain rfl := Option.some.inj hr; exact done1 (Or.inl rfl) Try.results58 rfl ⟨_, _, rfl, rfl, kg, Vbool⟩

theorem dead_Check_ok (N : Nat) (s0 : St) (w0 : Value) (a0 : List (List Deed)) (h0 : V s0 w0 a0) (r : Int) (hr : dead_Check N a0 = some r) :
    Calls Try.prog 27 #[w0] s0.w (Ret s0 fun v s => V s v r) := by
 unfold dead_Check at hr
 have j0 := Ext.refl s0
 refine Calls_of (n := 50) (args := [w0]) Try.func27 rfl rfl (by simp) (sr (asg (rv (vi 0)) (nn (W_seq ?_))))
 obtain ⟨j1, j2, j3⟩ := bind_some hr
 refine W_seq_cut (fun f w => ∃ (s : St) (j4 : Bool), s.w = w ∧ Ext s0 s ∧ Le s0 s ∧ j4 = j1 ∧ f 16 = vb j4 ∧ f 0 = w0) ?_ ?_
 ·have hr := j2
  refine W_region (mv (rv w0) (ln Try.underlying29 (rv w0) h0 (ls (rv (vi ((a0.length : Int)))) (rv (vi 1)) (mv (rv (vb (decide ((a0.length : Int) < 1)))) ?_))))
  rcases tf (decide ((a0.length : Int) < 1)) with j5 | j5
  ·have hr := ite_t j5 hr; exact gf 12 (rv (vb (decide ((a0.length : Int) < 1)))) j5 (gf 12 (rv (vb (decide ((a0.length : Int) < 1)))) j5 (gf 12 (rv (vb (decide ((a0.length : Int) < 1)))) j5 (pt (rv (vb (decide ((a0.length : Int) < 1)))) j5 (rv (vb true)) (nn ⟨s0, true, rfl, j0, (Le.refl _), Option.some.inj hr, rfl, rfl⟩))))
  ·have hr := ite_f j5 hr; exact gt 12 (rv (vb (decide ((a0.length : Int) < 1)))) j5 (mv (rv w0) (gt 12 (rv (vb (decide ((a0.length : Int) < 1)))) j5 (ln Try.underlying29 (rv w0) h0 (gt 12 (rv (vb (decide ((a0.length : Int) < 1)))) j5 (L_gtr (rv (vi ((a0.length : Int)))) (rv (vi 64)) (by decide) (pf (rv (vb (decide ((a0.length : Int) < 1)))) j5 (rv (vb (decide (64 < (a0.length : Int))))) (nn ⟨s0, (decide (64 < (a0.length : Int))), rfl, j0, (Le.refl _), Option.some.inj hr, rfl, rfl⟩)))))))
 ·rintro j5 j6 ⟨j7, j4, rfl, j8, j9, j2, ja, jb⟩
  subst j2
  have hr := j3
  try dsimp only at hr
  refine W_cond _ ja (fun jc => ?_) (fun jc => ?_)
  ·have hr := ite_t jc hr; refine sr (asg (rv (vi 3)) (nn (W_ret (then_r ?_)))); obtain rfl := Option.some.inj hr; exact done1 (Or.inl rfl) Try.results27 rfl ⟨_, _, rfl, rfl, j8, Vint⟩
  ·have hr := ite_f jc hr
   refine W_skip (then_n (W_seq (sr (mv jb (ln Try.underlying29 (rv w0) (h0.mono j9) (mv (rv (vi 0)) (nn ?_)))))))
   obtain ⟨jd, je, jf⟩ := bind_some hr
   refine W_cut (fun f w => ∃ (s : St), s.w = w ∧ Ext s0 s ∧ Le j7 s ∧ Sum.inl () = jd ∧ f 0 = w0) ?_ ?_
   ·refine W_block (W_loop (fun m f w => ∃ (s : St) (jg : Int), s.w = w ∧ Ext s0 s ∧ Le j7 s ∧ dead_Check_l1 N a0 m jg = some jd ∧ f 19 = vi jg ∧ f 0 = w0 ∧ f 17 = w0 ∧ f 18 = vi ((a0.length : Int))) N ⟨j7, 0, rfl, j8, (Le.refl _), je, rfl, jb, rfl, rfl⟩ ?_)
    rintro jh ji jj ⟨jk, jg, rfl, jl, jm, hr, jn, jo, jp, jq⟩
    cases jh with
    | zero => exact absurd hr (by simp [dead_Check_l1])
    | succ jh =>
     rw [dead_Check_l1.eq_2] at hr
     refine sr (ls jn jq (nn (W_seq ?_)))
     refine W_cond _ (rv (vb (decide (jg < (a0.length : Int))))) (fun jr => ?_) (fun jr => ?_)
     ·have hr := ite_t jr hr
      refine W_skip (then_n (W_seq (W_block (sr ?_))))
      obtain ⟨js, jt, hr⟩ := bind_some hr
      refine ix Try.underlying29 ty59.inf jp (h0.mono (j9.trans jm)) jn jt (fun ju jv => ld ty59 (rv ju) jv (fun jw jx => asg (rv jw) (nn (sr (mv (rv jw) (ln Try.underlying59 (rv jw) jx (L_gtr (rv (vi ((js.length : Int)))) (rv (vi 200)) (by decide) (nn ?_))))))))
      refine W_cond _ (rv (vb (decide (200 < (js.length : Int))))) (fun jy => ?_) (fun jy => ?_)
      ·have hr := ite_t jy hr; refine sr (asg (rv (vi 9)) (nn (W_ret (block_r (then_r (then_r (block_r ?_))))))); obtain rfl := Option.some.inj hr; have hr := jf; (try dsimp only at hr); refine then_r (then_r ?_); obtain rfl := Option.some.inj hr; exact done1 (Or.inl rfl) Try.results27 rfl ⟨_, _, rfl, rfl, jl, Vint⟩
      ·have hr := ite_f jy hr; refine W_skip (block_n (then_n (W_region ?_))); obtain ⟨jz, hr⟩ := chk_some hr; exact ad jn (rv (vi 1)) jz (mv (rv (vi (jg + 1))) (nn ⟨jh, Nat.lt_succ_self _, ⟨jk, (jg + 1), rfl, jl, jm, hr, rfl, jo, jp, jq⟩⟩))
     ·have hr := ite_f jr hr; refine W_exit (then_x (then_x (block_here ?_))); exact then_n ⟨jk, rfl, jl, jm, Option.some.inj hr, jo⟩
   ·rintro jg jh ⟨ji, rfl, jj, jk, je, jl⟩
    subst je
    have hr := jf
    try dsimp only at hr
    refine then_n (W_seq (sr (mv jl (ln Try.underlying29 (rv w0) (h0.mono (j9.trans jk)) (mv (rv (vi 0)) (nn ?_))))))
    obtain ⟨jm, jn, jo⟩ := bind_some hr
    refine W_cut (fun f w => ∃ (s : St), s.w = w ∧ Ext s0 s ∧ Le ji s ∧ Sum.inl () = jm) ?_ ?_
    ·refine W_block (W_loop (fun m f w => ∃ (s : St) (jp : Int), s.w = w ∧ Ext s0 s ∧ Le ji s ∧ dead_Check_l2 N a0 m jp = some jm ∧ f 29 = vi jp ∧ f 0 = w0 ∧ f 27 = w0 ∧ f 28 = vi ((a0.length : Int))) N ⟨ji, 0, rfl, jj, (Le.refl _), jn, rfl, jl, rfl, rfl⟩ ?_)
     rintro jq jr js ⟨jt, jp, rfl, ju, jv, hr, jw, jx, jy, jz⟩
     cases jq with
     | zero => exact absurd hr (by simp [dead_Check_l2])
     | succ jq =>
      rw [dead_Check_l2.eq_2] at hr
      refine sr (ls jw jz (nn (W_seq ?_)))
      refine W_cond _ (rv (vb (decide (jp < (a0.length : Int))))) (fun k0 => ?_) (fun k0 => ?_)
      ·have hr := ite_t k0 hr
       refine W_skip (then_n (W_seq (W_block (sr ?_))))
       obtain ⟨k1, k2, hr⟩ := bind_some hr
       refine ix Try.underlying29 ty59.inf jy (h0.mono (j9.trans (jk.trans jv))) jw k2 (fun k3 k4 => ld ty59 (rv k3) k4 (fun k5 k6 => asg (rv k5) (nn (sr (mv (rv k5) (ln Try.underlying59 (rv k5) k6 (mv (rv (vi 0)) (nn ?_))))))))
       obtain ⟨k7, k8, k9⟩ := bind_some hr
       refine W_cut (fun f w => ∃ (s : St), s.w = w ∧ Ext s0 s ∧ Le jt s ∧ Sum.inl () = k7 ∧ f 0 = w0 ∧ f 27 = w0 ∧ f 28 = vi ((a0.length : Int)) ∧ f 29 = vi (jp)) ?_ ?_
       ·refine W_block (W_loop (fun m f w => ∃ (s : St) (ka : Int), s.w = w ∧ Ext s0 s ∧ Le jt s ∧ dead_Check_l3 N a0 k1 m ka = some k7 ∧ f 35 = vi ka ∧ f 0 = w0 ∧ f 6 = k5 ∧ f 27 = w0 ∧ f 28 = vi ((a0.length : Int)) ∧ f 29 = vi (jp) ∧ f 33 = k5 ∧ f 34 = vi ((k1.length : Int))) N ⟨jt, 0, rfl, ju, (Le.refl _), k8, rfl, jx, rfl, jy, jz, jw, rfl, rfl⟩ ?_)
        rintro kb kc kd ⟨ke, ka, rfl, kf, kg, hr, kh, ki, kj, kk, kl, km, kn, ko⟩
        cases kb with
        | zero => exact absurd hr (by simp [dead_Check_l3])
        | succ kb =>
         rw [dead_Check_l3.eq_2] at hr
         refine sr (ls kh ko (nn (W_seq ?_)))
         refine W_cond _ (rv (vb (decide (ka < (k1.length : Int))))) (fun kp => ?_) (fun kp => ?_)
         ·have hr := ite_t kp hr
          refine W_skip (then_n (W_seq (W_block (sr (mv kh ?_)))))
          obtain ⟨kq, kr, hr⟩ := bind_some hr
          refine ix Try.underlying59 ty64.inf kn (k6.mono kg) kh kr (fun ks kt => ld ty64 (rv ks) kt (fun ku kv => L_alloc (α := Deed) (x := ⟨0, 0, 0, 0, false⟩) zero64 Deed.zero_rel (by decide) (fun kw kx ky kz g0 => ?_)))
          have g1 := Tch.ext kf ky
          refine asg (rv (vi ka)) (L_store_ro ty64 (rv (Value.pointer (some ⟨kx, 0, none⟩))) (rv ku) (kv.mono ky.le) (g0) (fun g2 g3 g4 => ?_))
          have g5 := Tch.trans g1 g3 (fun k hk => Or.inr (by subst hk; exact (Nat.le_trans kf.size kz)))
          refine nn (W_seq ?_)
          obtain ⟨g6, g7, hr⟩ := bind_some hr
          obtain ⟨g8, g9, hr⟩ := bind_some hr
          refine W_draws mixed (by kernel_rfl) [PV.data (kq : Deed), PV.data (k1 : List Deed), PV.eq (vi ka), PV.data (g6 : List Deed), PV.data (a0 : List (List Deed)), PV.eq (vi ((a0.length : Int))), PV.eq (vb g8), PV.eq (vb (!g8))] (Steps_cons ?_ (Steps_cons ?_ (Steps_cons ?_ (Steps_cons ?_ (Steps_cons ?_ (Steps_cons ?_ (Steps_cons ?_ (Steps_cons ?_ Steps_nil)))))))) ?_
          ·intro ga gb gc gd gg Q gh; have gi : ga 8 = Value.pointer (some ⟨kx, 0, none⟩) := (gg 8 (by kernel_rfl)).trans rfl; exact ld ty64 gi (g4.mono gc.le) (fun gj gk => fin gh gk)
          ·intro ga gb gc gd gg Q gh; have gi : ga 6 = k5 := (gg 6 (by kernel_rfl)).trans kj; exact mv gi (fin gh (k6.mono (kg.trans (ky.le.trans (g3.le.trans gc.le)))))
          ·intro ga gb gc gd gg Q gh; have gi : ga 7 = vi (ka) := (gg 7 (by kernel_rfl)).trans rfl; exact mv gi (fin gh rfl)
          ·intro ga gb gc gd gg Q gh; have gi : V _ (ga 41) (k1 : List Deed) := gd 1 41 (by kernel_rfl) (by kernel_rfl); obtain ⟨gj, gk, gl⟩ : ∃ v, _ = v ∧ V _ v _ := ⟨_, rfl, gi⟩; have gm : ga 42 = vi (ka) := gd 2 42 (by kernel_rfl) (by kernel_rfl); exact L_slice_h Try.underlying59 ty64.inf gk gl gm g7 (by decide) (fun gn go => fin gh go)
          ·intro ga gb gc gd gg Q gh; have gi : ga 0 = w0 := (gg 0 (by kernel_rfl)).trans ki; exact mv gi (fin gh (h0.mono (j9.trans (jk.trans (jv.trans (kg.trans (ky.le.trans (g3.le.trans gc.le))))))))
          ·intro ga gb gc gd gg Q gh; have gi : V _ (ga 44) (a0 : List (List Deed)) := gd 4 44 (by kernel_rfl) (by kernel_rfl); obtain ⟨gj, gk, gl⟩ : ∃ v, _ = v ∧ V _ v _ := ⟨_, rfl, gi⟩; exact ln Try.underlying29 gk gl (fin gh rfl)
          ·intro ga gb gc gd gg Q gh; have gi : V _ (ga 40) (kq : Deed) := gd 0 40 (by kernel_rfl) (by kernel_rfl); obtain ⟨gj, gk, gl⟩ : ∃ v, _ = v ∧ V _ v _ := ⟨_, rfl, gi⟩; have gm : V _ (ga 43) (g6 : List Deed) := gd 3 43 (by kernel_rfl) (by kernel_rfl); obtain ⟨gn, go, gp⟩ : ∃ v, _ = v ∧ V _ v _ := ⟨_, rfl, gm⟩; have gq : ga 45 = vi ((a0.length : Int)) := gd 5 45 (by kernel_rfl) (by kernel_rfl); refine L_calls cal58 (args3 gk go gq) (dead_formed_ok N _ _ _ gl _ _ gp (a0.length : Int) g8 g9) (by decide) (fun gr gs gu gv => ?_); have gw := Tch.ext (Ext.refl gb) gu; obtain rfl := gv.bool; exact L_nil (gh _ _ gw rfl)
          ·intro ga gb gc gd gg Q gh; have gi : ga 46 = vb (g8) := gd 6 46 (by kernel_rfl) (by kernel_rfl); exact L_not gi (by decide) (fin gh rfl)
          ·intro ga gb gc gd gg
           have gh := Tch.ext g5 gc
           have gi : ga 0 = w0 := (gg 0 (by kernel_rfl)).trans ki
           have gj : ga 6 = k5 := (gg 6 (by kernel_rfl)).trans kj
           have gk : ga 27 = w0 := (gg 27 (by kernel_rfl)).trans kk
           have gl : ga 28 = vi ((a0.length : Int)) := (gg 28 (by kernel_rfl)).trans kl
           have gm : ga 29 = vi (jp) := (gg 29 (by kernel_rfl)).trans km
           have gn : ga 33 = k5 := (gg 33 (by kernel_rfl)).trans kn
           have go : ga 34 = vi ((k1.length : Int)) := (gg 34 (by kernel_rfl)).trans ko
           have gp : ga 35 = vi (ka) := (gg 35 (by kernel_rfl)).trans kh
           have gq : ga 47 = vb (!g8) := gd 7 47 (by kernel_rfl)
           refine then_n ?_
           refine W_cond _ gq (fun gr => ?_) (fun gr => ?_)
           ·have hr := ite_t gr hr; refine sr (asg (rv (vi 2)) (nn (W_ret (block_r (then_r (then_r (block_r ?_))))))); obtain rfl := Option.some.inj hr; have hr := k9; (try dsimp only at hr); refine then_r (block_r (then_r (then_r (block_r ?_)))); obtain rfl := Option.some.inj hr; have hr := jo; (try dsimp only at hr); refine then_r (then_r ?_); obtain rfl := Option.some.inj hr; exact done1 (Or.inl rfl) Try.results27 rfl ⟨_, _, rfl, rfl, gh, Vint⟩
           ·have hr := ite_f gr hr; refine W_skip (block_n (then_n (W_region ?_))); obtain ⟨gs, hr⟩ := chk_some hr; exact ad gp (rv (vi 1)) gs (mv (rv (vi (ka + 1))) (nn ⟨kb, Nat.lt_succ_self _, ⟨gb, (ka + 1), rfl, gh, (kg.trans (ky.le.trans (g3.le.trans gc.le))), hr, rfl, gi, gj, gk, gl, gm, gn, go⟩⟩))
         ·have hr := ite_f kp hr; refine W_exit (then_x (then_x (block_here ?_))); exact then_n ⟨ke, rfl, kf, kg, Option.some.inj hr, ki, kk, kl, km⟩
       ·rintro ka kb ⟨kc, rfl, kd, ke, k8, kf, kg, kh, ki⟩; subst k8; have hr := k9; (try dsimp only at hr); refine block_n (then_n (W_region ?_)); obtain ⟨kj, hr⟩ := chk_some hr; exact ad ki (rv (vi 1)) kj (mv (rv (vi (jp + 1))) (nn ⟨jq, Nat.lt_succ_self _, ⟨kc, (jp + 1), rfl, kd, (jv.trans ke), hr, rfl, kf, kg, kh⟩⟩))
      ·have hr := ite_f k0 hr; refine W_exit (then_x (then_x (block_here ?_))); exact then_n ⟨jt, rfl, ju, jv, Option.some.inj hr⟩
    ·rintro jp jq ⟨jr, rfl, js, jt, jn⟩; subst jn; have hr := jo; (try dsimp only at hr); refine then_n (sr (asg (rv (vi 0)) (nn (W_ret ?_)))); obtain rfl := Option.some.inj hr; exact done1 (Or.inl rfl) Try.results27 rfl ⟨_, _, rfl, rfl, js, Vint⟩

theorem dead_receives_ok (N : Nat) (s0 : St) (w0 : Value) (a0 : Deed) (h0 : V s0 w0 a0) (r : Bool) (hr : dead_receives N a0 = some r) :
    Calls Try.prog 70 #[w0] s0.w (Ret s0 fun v s => V s v r) := by
 unfold dead_receives at hr
 have j0 := Ext.refl s0
 refine Calls_of (n := 11) (args := [w0]) Try.func70 rfl rfl (by simp) (sr (L_box (rv w0) h0 (by decide) (fun j1 j2 j3 j4 => ?_)))
 have j5 := Tch.ext j0 j3
 refine asg (rv (vb false)) (nn (sr (fa fld64_0 Deed.of_Kind (rv j2) j4 (fun j6 j7 => li ty3 (rv j6) j7 (el (rv (vi (a0.Kind))) (rv (vi 2)) (mv (rv (vb (decide (a0.Kind = 2)))) ?_))))))
 rcases tf (decide (a0.Kind = 2)) with j8 | j8
 ·have hr := ite_t j8 hr; refine gf 6 (rv (vb (decide (a0.Kind = 2)))) j8 (gf 6 (rv (vb (decide (a0.Kind = 2)))) j8 (gf 6 (rv (vb (decide (a0.Kind = 2)))) j8 (pt (rv (vb (decide (a0.Kind = 2)))) j8 (rv (vb true)) (asg (rv (vb true)) (nn (W_ret ?_)))))); obtain rfl := Option.some.inj hr; exact done1 (Or.inl rfl) Try.results70 rfl ⟨_, _, rfl, rfl, j5, Vbool⟩
 ·have hr := ite_f j8 hr; refine gt 6 (rv (vb (decide (a0.Kind = 2)))) j8 (fa fld64_0 Deed.of_Kind (rv j2) j4 (fun j9 ja => gt 6 (rv (vb (decide (a0.Kind = 2)))) j8 (li ty3 (rv j9) ja (gt 6 (rv (vb (decide (a0.Kind = 2)))) j8 (el (rv (vi (a0.Kind))) (rv (vi 4)) (pf (rv (vb (decide (a0.Kind = 2)))) j8 (rv (vb (decide (a0.Kind = 4)))) (asg (rv (vb (decide (a0.Kind = 4)))) (nn (W_ret ?_))))))))); obtain rfl := Option.some.inj hr; exact done1 (Or.inl rfl) Try.results70 rfl ⟨_, _, rfl, rfl, j5, Vbool⟩

theorem dead_open_ok (N : Nat) (s0 : St) (w0 : Value) (a0 : Deed) (h0 : V s0 w0 a0) (r : Bool) (hr : dead_open N a0 = some r) :
    Calls Try.prog 37 #[w0] s0.w (Ret s0 fun v s => V s v r) := by
 unfold dead_open at hr
 have j0 := Ext.refl s0
 refine Calls_of (n := 10) (args := [w0]) Try.func37 rfl rfl (by simp) (sr (L_box (rv w0) h0 (by decide) (fun j1 j2 j3 j4 => ?_)))
 have j5 := Tch.ext j0 j3
 refine asg (rv (vb false)) (nn (sr (ld ty64 (rv j2) j4 (fun j6 j7 => ?_))))
 obtain ⟨j8, j9, hr⟩ := bind_some hr
 refine L_calls cal70 (args1 (rv j6)) (dead_receives_ok N _ _ _ j7 j8 j9) (by decide) (fun ja jb jc jd => ?_)
 have je := Tch.ext j5 jc
 obtain rfl := jd.bool
 refine mv (rv (vb j8)) ?_
 rcases tf (j8) with jf | jf
 ·have hr := ite_t jf hr; refine gt 5 (rv (vb j8)) jf (fa fld64_1 Deed.of_Peer (rv j2) (j4.mono jc.le) (fun jg jh => gt 5 (rv (vb j8)) jf (li ty3 (rv jg) jh (gt 5 (rv (vb j8)) jf (el (rv (vi (a0.Peer))) (rv (vi (-1))) (pt (rv (vb j8)) jf (rv (vb (decide (a0.Peer = (-1))))) (asg (rv (vb (decide (a0.Peer = (-1))))) (nn (W_ret ?_))))))))); obtain rfl := Option.some.inj hr; exact done1 (Or.inl rfl) Try.results37 rfl ⟨_, _, rfl, rfl, je, Vbool⟩
 ·have hr := ite_f jf hr; refine gf 5 (rv (vb j8)) jf (gf 5 (rv (vb j8)) jf (gf 5 (rv (vb j8)) jf (pf (rv (vb j8)) jf (rv (vb false)) (asg (rv (vb false)) (nn (W_ret ?_)))))); obtain rfl := Option.some.inj hr; exact done1 (Or.inl rfl) Try.results37 rfl ⟨_, _, rfl, rfl, je, Vbool⟩

theorem slices_IndexFunc_Llang_Deed_lang_Deed_ok (N : Nat) (s0 : St) (w0 : Value) (a0 : List Deed) (h0 : V s0 w0 a0) (w1 : Value) (a1 : Deed → Option Bool) (h1 : Fn1 Try.prog s0 w1 a1) (r : Int) (hr : slices_IndexFunc_Llang_Deed_lang_Deed N a0 a1 = some r) :
    Calls Try.prog 71 #[w0, w1] s0.w (Ret s0 fun v s => V s v r) := by
 unfold slices_IndexFunc_Llang_Deed_lang_Deed at hr
 have j0 := Ext.refl s0
 refine Calls_of (n := 19) (args := [w0, w1]) Try.func71 rfl rfl (by simp) (sr (asg (rv (vi 0)) (nn (W_seq (sr (mv (rv w0) (ln Try.underlying59 (rv w0) h0 (mv (rv (vi 0)) (nn ?_)))))))))
 obtain ⟨j1, j2, j3⟩ := bind_some hr
 refine W_cut (fun f w => ∃ (s : St), s.w = w ∧ Ext s0 s ∧ Le s0 s ∧ Sum.inl () = j1) ?_ ?_
 ·refine W_block (W_loop (fun m f w => ∃ (s : St) (j4 : Int), s.w = w ∧ Ext s0 s ∧ Le s0 s ∧ slices_IndexFunc_Llang_Deed_lang_Deed_l1 N a0 a1 m j4 = some j1 ∧ f 8 = vi j4 ∧ f 0 = w0 ∧ f 1 = w1 ∧ f 7 = vi ((a0.length : Int))) N ⟨s0, 0, rfl, j0, (Le.refl _), j2, rfl, rfl, rfl, rfl⟩ ?_)
  rintro j5 j6 j7 ⟨j8, j4, rfl, j9, ja, hr, jb, jc, jd, je⟩
  cases j5 with
  | zero => exact absurd hr (by simp [slices_IndexFunc_Llang_Deed_lang_Deed_l1])
  | succ j5 =>
   rw [slices_IndexFunc_Llang_Deed_lang_Deed_l1.eq_2] at hr
   refine sr (ls jb je (nn (W_seq ?_)))
   refine W_cond _ (rv (vb (decide (j4 < (a0.length : Int))))) (fun jf => ?_) (fun jf => ?_)
   ·have hr := ite_t jf hr
    refine W_skip (then_n (W_seq (W_block (sr (mv jb (asg (rv (vi j4)) (nn (sr (mv jd (mv jc (mv (rv (vi j4)) ?_)))))))))))
    obtain ⟨jg, jh, hr⟩ := bind_some hr
    refine ix Try.underlying59 ty64.inf (rv w0) (h0.mono ja) (rv (vi j4)) jh (fun ji jj => ld ty64 (rv ji) jj (fun jk jl => ?_))
    obtain ⟨jm, jn, hr⟩ := bind_some hr
    refine L_call1 (rv w1) (h1.mono ja) (rv jk) jl jn (by decide) (fun jo jp jq jr => ?_)
    have js := Tch.ext j9 jq
    obtain rfl := jr.bool
    refine nn ?_
    refine W_cond _ (rv (vb jm)) (fun jt => ?_) (fun jt => ?_)
    ·have hr := ite_t jt hr; refine sr (mv (rv (vi j4)) (asg (rv (vi j4)) (nn (W_ret (block_r (then_r (then_r (block_r ?_)))))))); obtain rfl := Option.some.inj hr; have hr := j3; (try dsimp only at hr); refine then_r (then_r ?_); obtain rfl := Option.some.inj hr; exact done1 (Or.inl rfl) Try.results71 rfl ⟨_, _, rfl, rfl, js, Vint⟩
    ·have hr := ite_f jt hr; refine W_skip (block_n (then_n (W_region ?_))); obtain ⟨ju, hr⟩ := chk_some hr; exact ad jb (rv (vi 1)) ju (mv (rv (vi (j4 + 1))) (nn ⟨j5, Nat.lt_succ_self _, ⟨jp, (j4 + 1), rfl, js, (ja.trans jq.le), hr, rfl, jc, jd, je⟩⟩))
   ·have hr := ite_f jf hr; refine W_exit (then_x (then_x (block_here ?_))); exact then_n ⟨j8, rfl, j9, ja, Option.some.inj hr⟩
 ·rintro j4 j5 ⟨j6, rfl, j7, j8, j2⟩; subst j2; have hr := j3; (try dsimp only at hr); refine then_n (sr (asg (rv (vi (-1))) (nn (W_ret ?_)))); obtain rfl := Option.some.inj hr; exact done1 (Or.inl rfl) Try.results71 rfl ⟨_, _, rfl, rfl, j7, Vint⟩

theorem slices_ContainsFunc_Llang_Deed_lang_Deed_ok (N : Nat) (s0 : St) (w0 : Value) (a0 : List Deed) (h0 : V s0 w0 a0) (w1 : Value) (a1 : Deed → Option Bool) (h1 : Fn1 Try.prog s0 w1 a1) (r : Bool) (hr : slices_ContainsFunc_Llang_Deed_lang_Deed N a0 a1 = some r) :
    Calls Try.prog 38 #[w0, w1] s0.w (Ret s0 fun v s => V s v r) := by
 unfold slices_ContainsFunc_Llang_Deed_lang_Deed at hr
 have j0 := Ext.refl s0
 refine Calls_of (n := 9) (args := [w0, w1]) Try.func38 rfl rfl (by simp) (sr (asg (rv (vb false)) (nn (sr (mv (rv w0) (mv (rv w1) ?_))))))
 obtain ⟨j1, j2, hr⟩ := bind_some hr
 refine L_calls cal71 (args2 (rv w0) (rv w1)) (slices_IndexFunc_Llang_Deed_lang_Deed_ok N _ _ _ h0 _ a1 h1 j1 j2) (by decide) (fun j3 j4 j5 j6 => ?_)
 have j7 := Tch.ext j0 j5
 obtain rfl := j6.int
 refine L_geq (rv (vi j1)) (rv (vi 0)) (by decide) (asg (rv (vb (decide (0 ≤ j1)))) (nn (W_ret ?_)))
 obtain rfl := Option.some.inj hr
 exact done1 (Or.inl rfl) Try.results38 rfl ⟨_, _, rfl, rfl, j7, Vbool⟩

theorem dead_newRun_ok (N : Nat) (s0 : St) (w0 : Value) (a0 : List (List Deed)) (h0 : V s0 w0 a0) (a1 : Int) (r : (Option Run) × Int) (hr : dead_newRun N a0 a1 = some r) :
    Calls Try.prog 31 #[w0, .int .i64 a1] s0.w (Ret s0 fun v s => ∃ a b, v = .tuple #[a, b] ∧ ObjO Run.with_at_ 2 Run.at_ 3 s0.w.heap.size s a r.1 ∧ V s b r.2) := by
 unfold dead_newRun at hr
 have j0 := Ext.refl s0
 refine Calls_of (n := 32) (args := [w0, .int .i64 a1]) Try.func31 rfl rfl (by simp) (sr (asg (rv (Value.pointer none)) (asg (rv (vi 0)) (nn (W_seq (sr (mv (rv w0) ?_)))))))
 obtain ⟨j1, j2, hr⟩ := bind_some hr
 refine L_calls cal27 (args1 (rv w0)) (dead_Check_ok N _ _ _ h0 j1 j2) (by decide) (fun j3 j4 j5 j6 => ?_)
 have j7 := Tch.ext j0 j5
 obtain rfl := j6.int
 refine asg (rv (vi j1)) (nn (sr (mv (rv (vi j1)) (ne (rv (vi j1)) (rv (vi 0)) (nn ?_)))))
 refine W_cond _ (rv (vb (!decide (j1 = 0)))) (fun j8 => ?_) (fun j8 => ?_)
 ·have hr := ite_t j8 hr; refine sr (mv (rv (vi j1)) (asg (rv (Value.pointer none)) (asg (rv (vi j1)) (nn (W_ret (then_r ?_)))))); obtain rfl := Option.some.inj hr; exact done2 (Or.inl rfl) Try.results31 rfl rfl ⟨_, _, rfl, rfl, j7, _, _, rfl, Or.inl ⟨rfl, rfl⟩, Vint⟩
 ·have hr := ite_f j8 hr
  refine W_skip (then_n (W_seq (sr (mv (rv w0) (ln Try.underlying29 (rv w0) (h0.mono j5.le) (mv (rv (vi 0)) (nn ?_)))))))
  obtain ⟨j9, ja, jb⟩ := bind_some hr
  refine W_cut (fun f w => ∃ (s : St), s.w = w ∧ Ext s0 s ∧ Le j4 s ∧ Sum.inl () = j9 ∧ f 0 = w0 ∧ f 1 = vi (a1)) ?_ ?_
  ·refine W_block (W_loop (fun m f w => ∃ (s : St) (jc : Int), s.w = w ∧ Ext s0 s ∧ Le j4 s ∧ dead_newRun_l1 N a0 m jc = some j9 ∧ f 16 = vi jc ∧ f 0 = w0 ∧ f 1 = vi (a1) ∧ f 14 = w0 ∧ f 15 = vi ((a0.length : Int))) N ⟨j4, 0, rfl, j7, (Le.refl _), ja, rfl, rfl, rfl, rfl, rfl⟩ ?_)
   rintro jd je jf ⟨jg, jc, rfl, jh, ji, hr, jj, jk, jl, jm, jn⟩
   cases jd with
   | zero => exact absurd hr (by simp [dead_newRun_l1])
   | succ jd =>
    rw [dead_newRun_l1.eq_2] at hr
    refine sr (ls jj jn (nn (W_seq ?_)))
    refine W_cond _ (rv (vb (decide (jc < (a0.length : Int))))) (fun jo => ?_) (fun jo => ?_)
    ·have hr := ite_t jo hr
     refine W_skip (then_n (W_seq (W_block (sr ?_))))
     obtain ⟨jp, jq, hr⟩ := bind_some hr
     refine ix Try.underlying29 ty59.inf jm (h0.mono (j5.le.trans ji)) jj jq (fun jr js => ld ty59 (rv jr) js (fun jt ju => asg (rv jt) (nn (sr (mv (rv jt) ?_)))))
     obtain ⟨jv, jw, hr⟩ := bind_some hr
     refine L_calls cal38 (args2 (rv jt) (rv (Value.func (.func 37) #[] #[]))) (slices_ContainsFunc_Llang_Deed_lang_Deed_ok N _ _ _ ju _ (fun x => dead_open N x ) (Fn1.mk0 cal37 fun t vx x r hl hv hr => dead_open_ok N t vx x hv  r hr) jv jw) (by decide) (fun jx jy jz k0 => ?_)
     have k1 := Tch.ext jh jz
     obtain rfl := k0.bool
     refine nn ?_
     refine W_cond _ (rv (vb jv)) (fun k2 => ?_) (fun k2 => ?_)
     ·have hr := ite_t k2 hr; refine sr (asg (rv (Value.pointer none)) (asg (rv (vi 6)) (nn (W_ret (block_r (then_r (then_r (block_r ?_)))))))); obtain rfl := Option.some.inj hr; have hr := jb; (try dsimp only at hr); refine then_r (then_r ?_); obtain rfl := Option.some.inj hr; exact done2 (Or.inl rfl) Try.results31 rfl rfl ⟨_, _, rfl, rfl, k1, _, _, rfl, Or.inl ⟨rfl, rfl⟩, Vint⟩
     ·have hr := ite_f k2 hr; refine W_skip (block_n (then_n (W_region ?_))); obtain ⟨k3, hr⟩ := chk_some hr; exact ad jj (rv (vi 1)) k3 (mv (rv (vi (jc + 1))) (nn ⟨jd, Nat.lt_succ_self _, ⟨jy, (jc + 1), rfl, k1, (ji.trans jz.le), hr, rfl, jk, jl, jm, jn⟩⟩))
    ·have hr := ite_f jo hr; refine W_exit (then_x (then_x (block_here ?_))); exact then_n ⟨jg, rfl, jh, ji, Option.some.inj hr, jk, jl⟩
  ·rintro jc jd ⟨je, rfl, jf, jg, ja, jh, ji⟩
   subst ja
   have hr := jb
   try dsimp only at hr
   refine then_n (W_seq (sr (mv ji (ls (rv (vi a1)) (rv (vi 0)) (nn ?_)))))
   refine W_cond _ (rv (vb (decide (a1 < 0)))) (fun jj => ?_) (fun jj => ?_)
   ·have hr := ite_t jj hr; refine sr (asg (rv (Value.pointer none)) (asg (rv (vi 3)) (nn (W_ret (then_r ?_))))); obtain rfl := Option.some.inj hr; exact done2 (Or.inl rfl) Try.results31 rfl rfl ⟨_, _, rfl, rfl, jf, _, _, rfl, Or.inl ⟨rfl, rfl⟩, Vint⟩
   ·have hr := ite_f jj hr; refine W_skip (then_n (sr (mv jh (mv ji (mv jh (ln Try.underlying29 (rv w0) (h0.mono (j5.le.trans jg)) ?_)))))); obtain ⟨jk, hr⟩ := chk_some hr; refine L_makeArr (x0 := (0 : Int)) Try.underlying23 tyz3 (rv (vi ((a0.length : Int)))) jk.1 jk.2.1 jk.2.2 (fun _ => rfl) (by decide) (fun jl jm jn jo jp => ?_); have jq := Tch.ext jf jn; refine L_raw72 (rv w0) (rv (vi a1)) (rv (Value.slice (some ⟨jm, 0, none⟩) ((a0.length : Int)).toNat ((a0.length : Int)).toNat)) ((h0.mono (j5.le.trans (jg.trans jn.le))) : V jl _ (a0 : List (List Deed))) (Vint : V jl _ (a1 : Int)) (by decide) (L_box_raw (cs := [w0, vi (a1), Value.slice (some ⟨jm, 0, none⟩) ((a0.length : Int)).toNat ((a0.length : Int)).toNat]) (rv (Value.agg #[w0, vi (a1), Value.slice (some ⟨jm, 0, none⟩) ((a0.length : Int)).toNat ((a0.length : Int)).toNat])) (by decide) (fun jr js jt ju => ?_)); have jv := Tch.ext jq jt; have jw := Run.shell (x := (⟨a0, a1, (List.replicate ((a0.length : Int)).toNat (0 : Int))⟩ : Run)) ju (((h0.mono (j5.le.trans (jg.trans jn.le))) : V jl _ (a0 : List (List Deed))).mono jt.le) ((Vint : V jl _ (a1 : Int)).mono jt.le); refine asg (rv ((Value.pointer (some ⟨js, 0, none⟩)))) (asg (rv (vi 0)) (nn (W_ret ?_))); obtain rfl := Option.some.inj hr; exact done2 (Or.inl rfl) Try.results31 rfl rfl ⟨_, _, rfl, rfl, jv, _, _, rfl, Or.inr ⟨_, _, rfl, (Nat.le_trans jf.size jo), jw.at (fun _ => rfl) ((jp).ext jt), ((jp).ext jt).self⟩, Vint⟩

theorem dead_sends_ok (N : Nat) (s0 : St) (w0 : Value) (a0 : Deed) (h0 : V s0 w0 a0) (r : Bool) (hr : dead_sends N a0 = some r) :
    Calls Try.prog 40 #[w0] s0.w (Ret s0 fun v s => V s v r) := by
 unfold dead_sends at hr
 have j0 := Ext.refl s0
 refine Calls_of (n := 11) (args := [w0]) Try.func40 rfl rfl (by simp) (sr (L_box (rv w0) h0 (by decide) (fun j1 j2 j3 j4 => ?_)))
 have j5 := Tch.ext j0 j3
 refine asg (rv (vb false)) (nn (sr (fa fld64_0 Deed.of_Kind (rv j2) j4 (fun j6 j7 => li ty3 (rv j6) j7 (el (rv (vi (a0.Kind))) (rv (vi 1)) (mv (rv (vb (decide (a0.Kind = 1)))) ?_))))))
 rcases tf (decide (a0.Kind = 1)) with j8 | j8
 ·have hr := ite_t j8 hr; refine gf 6 (rv (vb (decide (a0.Kind = 1)))) j8 (gf 6 (rv (vb (decide (a0.Kind = 1)))) j8 (gf 6 (rv (vb (decide (a0.Kind = 1)))) j8 (pt (rv (vb (decide (a0.Kind = 1)))) j8 (rv (vb true)) (asg (rv (vb true)) (nn (W_ret ?_)))))); obtain rfl := Option.some.inj hr; exact done1 (Or.inl rfl) Try.results40 rfl ⟨_, _, rfl, rfl, j5, Vbool⟩
 ·have hr := ite_f j8 hr; refine gt 6 (rv (vb (decide (a0.Kind = 1)))) j8 (fa fld64_0 Deed.of_Kind (rv j2) j4 (fun j9 ja => gt 6 (rv (vb (decide (a0.Kind = 1)))) j8 (li ty3 (rv j9) ja (gt 6 (rv (vb (decide (a0.Kind = 1)))) j8 (el (rv (vi (a0.Kind))) (rv (vi 3)) (pf (rv (vb (decide (a0.Kind = 1)))) j8 (rv (vb (decide (a0.Kind = 3)))) (asg (rv (vb (decide (a0.Kind = 3)))) (nn (W_ret ?_))))))))); obtain rfl := Option.some.inj hr; exact done1 (Or.inl rfl) Try.results40 rfl ⟨_, _, rfl, rfl, j5, Vbool⟩

theorem dead_fits_ok (N : Nat) (s0 : St) (w0 : Value) (a0 : Deed) (h0 : V s0 w0 a0) (w1 : Value) (a1 : Deed) (h1 : V s0 w1 a1) (r : Bool) (hr : dead_fits N a0 a1 = some r) :
    Calls Try.prog 41 #[w0, w1] s0.w (Ret s0 fun v s => V s v r) := by
 unfold dead_fits at hr
 have j0 := Ext.refl s0
 refine Calls_of (n := 15) (args := [w0, w1]) Try.func41 rfl rfl (by simp) (sr (L_box (rv w0) h0 (by decide) (fun j1 j2 j3 j4 => ?_)))
 have j5 := Tch.ext j0 j3
 refine L_box (rv w1) (h1.mono j3.le) (by decide) (fun j6 j7 j8 j9 => ?_)
 have ja := Tch.ext j5 j8
 refine asg (rv (vb false)) (nn (sr (fa fld64_2 Deed.of_Tag (rv j7) j9 (fun jb jc => li ty3 (rv jb) jc (el (rv (vi (a1.Tag))) (rv (vi (-1))) (mv (rv (vb (decide (a1.Tag = (-1))))) ?_))))))
 rcases tf (decide (a1.Tag = (-1))) with jd | jd
 ·have hr := ite_t jd hr; refine gf 8 (rv (vb (decide (a1.Tag = (-1))))) jd (gf 8 (rv (vb (decide (a1.Tag = (-1))))) jd (gf 8 (rv (vb (decide (a1.Tag = (-1))))) jd (gf 8 (rv (vb (decide (a1.Tag = (-1))))) jd (gf 8 (rv (vb (decide (a1.Tag = (-1))))) jd (pt (rv (vb (decide (a1.Tag = (-1))))) jd (rv (vb true)) (asg (rv (vb true)) (nn (W_ret ?_)))))))); obtain rfl := Option.some.inj hr; exact done1 (Or.inl rfl) Try.results41 rfl ⟨_, _, rfl, rfl, ja, Vbool⟩
 ·have hr := ite_f jd hr; refine gt 8 (rv (vb (decide (a1.Tag = (-1))))) jd (fa fld64_2 Deed.of_Tag (rv j7) j9 (fun je jf => gt 8 (rv (vb (decide (a1.Tag = (-1))))) jd (li ty3 (rv je) jf (gt 8 (rv (vb (decide (a1.Tag = (-1))))) jd (fa fld64_2 Deed.of_Tag (rv j2) (j4.mono j8.le) (fun jg jh => gt 8 (rv (vb (decide (a1.Tag = (-1))))) jd (li ty3 (rv jg) jh (gt 8 (rv (vb (decide (a1.Tag = (-1))))) jd (el (rv (vi (a1.Tag))) (rv (vi (a0.Tag))) (pf (rv (vb (decide (a1.Tag = (-1))))) jd (rv (vb (decide (a1.Tag = a0.Tag)))) (asg (rv (vb (decide (a1.Tag = a0.Tag)))) (nn (W_ret ?_))))))))))))); obtain rfl := Option.some.inj hr; exact done1 (Or.inl rfl) Try.results41 rfl ⟨_, _, rfl, rfl, ja, Vbool⟩

theorem dead_run_begun_ok (N : Nat) (s0 : St) (w0 : Value) (a0 : Run) (h0 : Ptr s0 w0 a0) (a1 : Int) (r : (List Deed)) (hr : dead_run_begun N a0 a1 = some r) :
    Calls Try.prog 86 #[w0, .int .i64 a1] s0.w (Ret s0 fun v s => V s v r) := by
 unfold dead_run_begun at hr
 have j0 := Ext.refl s0
 refine Calls_of (n := 30) (args := [w0, .int .i64 a1]) Try.func86 rfl rfl (by simp) (sr (asg (rv (Value.slice none 0 0)) (nn (W_seq ?_))))
 obtain ⟨j1, j2, hr⟩ := bind_some hr
 obtain ⟨j3, j4, hr⟩ := bind_some hr
 obtain ⟨j5, j6, hr⟩ := bind_some hr
 obtain ⟨j7, hr⟩ := chk_some hr
 obtain ⟨j8, j9, hr⟩ := bind_some hr
 refine W_draws mixed (by kernel_rfl) [PV.ptr (a0 : Run), PV.ptr (a0 : Run), PV.ptr (a0.c : List (List Deed)), PV.data (a0.c : List (List Deed)), PV.eq (vi a1), PV.ptr (j1 : List Deed), PV.data (j1 : List Deed), PV.ptr (a0 : Run), PV.ptr (a0 : Run), PV.ptr (a0.c : List (List Deed)), PV.data (a0.c : List (List Deed)), PV.eq (vi a1), PV.ptr (j3 : List Deed), PV.data (j3 : List Deed), PV.eq (vi ((j3.length : Int))), PV.ptr (a0 : Run), PV.ptr (a0 : Run), PV.ptr (a0.at_ : List Int), PV.data (a0.at_ : List Int), PV.eq (vi a1), PV.ptr (j5 : Int), PV.eq (vi j5), PV.eq (vi (j5 + 1)), PV.eq (vi (min (j3.length : Int) (j5 + 1))), PV.data (j8 : List Deed), PV.data (j8 : List Deed)] (Steps_cons ?_ (Steps_cons ?_ (Steps_cons ?_ (Steps_cons ?_ (Steps_cons ?_ (Steps_cons ?_ (Steps_cons ?_ (Steps_cons ?_ (Steps_cons ?_ (Steps_cons ?_ (Steps_cons ?_ (Steps_cons ?_ (Steps_cons ?_ (Steps_cons ?_ (Steps_cons ?_ (Steps_cons ?_ (Steps_cons ?_ (Steps_cons ?_ (Steps_cons ?_ (Steps_cons ?_ (Steps_cons ?_ (Steps_cons ?_ (Steps_cons ?_ (Steps_cons ?_ (Steps_cons ?_ (Steps_cons ?_ Steps_nil)))))))))))))))))))))))))) ?_
 ·intro ja jb jc jd je Q jf; have jg : ja 0 = w0 := (je 0 (by kernel_rfl)).trans rfl; exact mv jg (fin jf (h0.mono jc.le))
 ·intro ja jb jc jd je Q jf; have jg : Ptr _ (ja 5) (a0 : Run) := jd 0 5 (by kernel_rfl) (by kernel_rfl); obtain ⟨jh, ji, jj⟩ : ∃ v, _ = v ∧ Ptr _ v _ := ⟨_, rfl, jg⟩; exact L_nilCheck_ptr ji jj (by decide) (fin jf jj)
 ·intro ja jb jc jd je Q jf; have jg : Ptr _ (ja 6) (a0 : Run) := jd 1 6 (by kernel_rfl) (by kernel_rfl); obtain ⟨jh, ji, jj⟩ : ∃ v, _ = v ∧ Ptr _ v _ := ⟨_, rfl, jg⟩; exact fa fld72_0 Run.of_c ji jj (fun jk jl => fin jf jl)
 ·intro ja jb jc jd je Q jf; have jg : Ptr _ (ja 7) (a0.c : List (List Deed)) := jd 2 7 (by kernel_rfl) (by kernel_rfl); obtain ⟨jh, ji, jj⟩ : ∃ v, _ = v ∧ Ptr _ v _ := ⟨_, rfl, jg⟩; exact ld ty29 ji jj (fun jk jl => fin jf jl)
 ·intro ja jb jc jd je Q jf; have jg : ja 1 = vi (a1) := (je 1 (by kernel_rfl)).trans rfl; exact mv jg (fin jf rfl)
 ·intro ja jb jc jd je Q jf; have jg : V _ (ja 8) (a0.c : List (List Deed)) := jd 3 8 (by kernel_rfl) (by kernel_rfl); obtain ⟨jh, ji, jj⟩ : ∃ v, _ = v ∧ V _ v _ := ⟨_, rfl, jg⟩; have jk : ja 9 = vi (a1) := jd 4 9 (by kernel_rfl) (by kernel_rfl); exact ix Try.underlying29 ty59.inf ji jj jk j2 (fun jl jm => fin jf jm)
 ·intro ja jb jc jd je Q jf; have jg : Ptr _ (ja 10) (j1 : List Deed) := jd 5 10 (by kernel_rfl) (by kernel_rfl); obtain ⟨jh, ji, jj⟩ : ∃ v, _ = v ∧ Ptr _ v _ := ⟨_, rfl, jg⟩; exact ld ty59 ji jj (fun jk jl => fin jf jl)
 ·intro ja jb jc jd je Q jf; have jg : ja 0 = w0 := (je 0 (by kernel_rfl)).trans rfl; exact mv jg (fin jf (h0.mono jc.le))
 ·intro ja jb jc jd je Q jf; have jg : Ptr _ (ja 12) (a0 : Run) := jd 7 12 (by kernel_rfl) (by kernel_rfl); obtain ⟨jh, ji, jj⟩ : ∃ v, _ = v ∧ Ptr _ v _ := ⟨_, rfl, jg⟩; exact L_nilCheck_ptr ji jj (by decide) (fin jf jj)
 ·intro ja jb jc jd je Q jf; have jg : Ptr _ (ja 13) (a0 : Run) := jd 8 13 (by kernel_rfl) (by kernel_rfl); obtain ⟨jh, ji, jj⟩ : ∃ v, _ = v ∧ Ptr _ v _ := ⟨_, rfl, jg⟩; exact fa fld72_0 Run.of_c ji jj (fun jk jl => fin jf jl)
 ·intro ja jb jc jd je Q jf; have jg : Ptr _ (ja 14) (a0.c : List (List Deed)) := jd 9 14 (by kernel_rfl) (by kernel_rfl); obtain ⟨jh, ji, jj⟩ : ∃ v, _ = v ∧ Ptr _ v _ := ⟨_, rfl, jg⟩; exact ld ty29 ji jj (fun jk jl => fin jf jl)
 ·intro ja jb jc jd je Q jf; have jg : ja 1 = vi (a1) := (je 1 (by kernel_rfl)).trans rfl; exact mv jg (fin jf rfl)
 ·intro ja jb jc jd je Q jf; have jg : V _ (ja 15) (a0.c : List (List Deed)) := jd 10 15 (by kernel_rfl) (by kernel_rfl); obtain ⟨jh, ji, jj⟩ : ∃ v, _ = v ∧ V _ v _ := ⟨_, rfl, jg⟩; have jk : ja 16 = vi (a1) := jd 11 16 (by kernel_rfl) (by kernel_rfl); exact ix Try.underlying29 ty59.inf ji jj jk j4 (fun jl jm => fin jf jm)
 ·intro ja jb jc jd je Q jf; have jg : Ptr _ (ja 17) (j3 : List Deed) := jd 12 17 (by kernel_rfl) (by kernel_rfl); obtain ⟨jh, ji, jj⟩ : ∃ v, _ = v ∧ Ptr _ v _ := ⟨_, rfl, jg⟩; exact ld ty59 ji jj (fun jk jl => fin jf jl)
 ·intro ja jb jc jd je Q jf; have jg : V _ (ja 18) (j3 : List Deed) := jd 13 18 (by kernel_rfl) (by kernel_rfl); obtain ⟨jh, ji, jj⟩ : ∃ v, _ = v ∧ V _ v _ := ⟨_, rfl, jg⟩; exact ln Try.underlying59 ji jj (fin jf rfl)
 ·intro ja jb jc jd je Q jf; have jg : ja 0 = w0 := (je 0 (by kernel_rfl)).trans rfl; exact mv jg (fin jf (h0.mono jc.le))
 ·intro ja jb jc jd je Q jf; have jg : Ptr _ (ja 20) (a0 : Run) := jd 15 20 (by kernel_rfl) (by kernel_rfl); obtain ⟨jh, ji, jj⟩ : ∃ v, _ = v ∧ Ptr _ v _ := ⟨_, rfl, jg⟩; exact L_nilCheck_ptr ji jj (by decide) (fin jf jj)
 ·intro ja jb jc jd je Q jf; have jg : Ptr _ (ja 21) (a0 : Run) := jd 16 21 (by kernel_rfl) (by kernel_rfl); obtain ⟨jh, ji, jj⟩ : ∃ v, _ = v ∧ Ptr _ v _ := ⟨_, rfl, jg⟩; exact fa fld72_2 Run.of_at_ ji jj (fun jk jl => fin jf jl)
 ·intro ja jb jc jd je Q jf; have jg : Ptr _ (ja 22) (a0.at_ : List Int) := jd 17 22 (by kernel_rfl) (by kernel_rfl); obtain ⟨jh, ji, jj⟩ : ∃ v, _ = v ∧ Ptr _ v _ := ⟨_, rfl, jg⟩; exact ld ty23 ji jj (fun jk jl => fin jf jl)
 ·intro ja jb jc jd je Q jf; have jg : ja 1 = vi (a1) := (je 1 (by kernel_rfl)).trans rfl; exact mv jg (fin jf rfl)
 ·intro ja jb jc jd je Q jf; have jg : V _ (ja 23) (a0.at_ : List Int) := jd 18 23 (by kernel_rfl) (by kernel_rfl); obtain ⟨jh, ji, jj⟩ : ∃ v, _ = v ∧ V _ v _ := ⟨_, rfl, jg⟩; have jk : ja 24 = vi (a1) := jd 19 24 (by kernel_rfl) (by kernel_rfl); exact ix Try.underlying23 ty3.inf ji jj jk j6 (fun jl jm => fin jf jm)
 ·intro ja jb jc jd je Q jf; have jg : Ptr _ (ja 25) (j5 : Int) := jd 20 25 (by kernel_rfl) (by kernel_rfl); obtain ⟨jh, ji, jj⟩ : ∃ v, _ = v ∧ Ptr _ v _ := ⟨_, rfl, jg⟩; exact li ty3 ji jj (fin jf rfl)
 ·intro ja jb jc jd je Q jf; have jg : ja 26 = vi (j5) := jd 21 26 (by kernel_rfl) (by kernel_rfl); exact ad jg (rv (vi 1)) j7 (fin jf rfl)
 ·intro ja jb jc jd je Q jf; have jg : ja 19 = vi ((j3.length : Int)) := jd 14 19 (by kernel_rfl) (by kernel_rfl); have jh : ja 27 = vi (j5 + 1) := jd 22 27 (by kernel_rfl) (by kernel_rfl); exact L_min jg jh (by decide) (fin jf rfl)
 ·intro ja jb jc jd je Q jf; have jg : V _ (ja 11) (j1 : List Deed) := jd 6 11 (by kernel_rfl) (by kernel_rfl); obtain ⟨jh, ji, jj⟩ : ∃ v, _ = v ∧ V _ v _ := ⟨_, rfl, jg⟩; have jk : ja 28 = vi (min (j3.length : Int) (j5 + 1)) := jd 23 28 (by kernel_rfl) (by kernel_rfl); exact L_slice_h Try.underlying59 ty64.inf ji jj jk j9 (by decide) (fun jl jm => fin jf jm)
 ·intro ja jb jc jd je Q jf; have jg : V _ (ja 29) (j8 : List Deed) := jd 24 29 (by kernel_rfl) (by kernel_rfl); obtain ⟨jh, ji, jj⟩ : ∃ v, _ = v ∧ V _ v _ := ⟨_, rfl, jg⟩; exact asg ji (fin jf jj)
 ·intro ja jb jc jd je; have jf := Tch.ext j0 jc; have jg : V _ (ja 4) (j8 : List Deed) := jd 25 4 (by kernel_rfl); obtain ⟨jh, ji, jj⟩ : ∃ v, _ = v ∧ V _ v _ := ⟨_, rfl, jg⟩; refine then_n (W_ret ?_); obtain rfl := Option.some.inj hr; exact done1 (Or.inl rfl) Try.results86 ji ⟨_, _, rfl, rfl, jf, jj⟩

theorem dead_run_pairs_ok (N : Nat) (s0 : St) (w0 : Value) (a0 : Run) (h0 : Ptr s0 w0 a0) (a1 : Int) (a2 : Int) (r : (GMap Int)) (hr : dead_run_pairs N a0 a1 a2 = some r) :
    Calls Try.prog 81 #[w0, .int .i64 a1, .int .i64 a2] s0.w (Ret s0 fun v s => V s v r) := by
 unfold dead_run_pairs at hr
 have j0 := Ext.refl s0
 refine Calls_of (n := 77) (args := [w0, .int .i64 a1, .int .i64 a2]) Try.func81 rfl rfl (by simp) (sr (asg (rv (Value.map none)) (nn (sr (L_makeMap (β := Int) (by decide) (fun j1 j2 j3 j4 j5 => ?_))))))
 have j6 := Tch.ext j0 j3
 refine asg (rv (Value.map (some j2))) (nn (sr (mv (rv w0) (mv (rv (vi a2)) ?_))))
 obtain ⟨j7, j8, hr⟩ := bind_some hr
 refine L_calls cal86 (args2 (rv w0) (rv (vi a2))) (dead_run_begun_ok N _ _ _ (h0.mono j3.le) a2 j7 j8) (by decide) (fun j9 ja jb jc => ?_)
 have jd := Tch.ext j6 jb
 refine asg (rv j9) (nn (sr (mv (rv j9) (ln Try.underlying59 (rv j9) jc ?_))))
 obtain ⟨je, hr⟩ := chk_some hr
 refine L_makeArr (x0 := (false : Bool)) Try.underlying116 tyz4 (rv (vi ((j7.length : Int)))) je.1 je.2.1 je.2.2 (fun _ => rfl) (by decide) (fun jf jg jh ji jj => ?_)
 have jk := Tch.ext jd jh
 have jl : ∀ k, (fun k => k = j2) k → ¬ (fun k => k = jg) k := fun k jm jn => by have jo := (fun k (hk : k = j2) => lt_at hk ((j5).ext jb).lt) k jm; have jp := ji; subst jn; omega
 refine asg (rv (Value.slice (some ⟨jg, 0, none⟩) ((j7.length : Int)).toNat ((j7.length : Int)).toNat)) (nn (W_seq (sr (mv (rv w0) (mv (rv (vi a1)) ?_)))))
 obtain ⟨jq, jr, hr⟩ := bind_some hr
 refine L_calls cal86 (args2 (rv w0) (rv (vi a1))) (dead_run_begun_ok N _ _ _ (h0.mono (j3.le.trans (jb.le.trans jh.le))) a1 jq jr) (by decide) (fun js jt ju jv => ?_)
 have jw := Tch.ext jk ju
 refine ln Try.underlying59 (rv js) jv (mv (rv (vi 0)) (nn ?_))
 obtain ⟨jx, jy, jz⟩ := bind_some hr
 refine W_cut (fun f w => ∃ (s : St) (k0 : List (Int × Int)), s.w = w ∧ Ext s0 s ∧ Le jt s ∧ k0 = jx ∧ f 7 = Value.map (some j2) ∧ MapX s j2 k0) ?_ ?_
 ·refine W_block (W_loop (fun m f w => ∃ (s : St) (k1 : Int) (k2 : List (Int × Int)) (k3 : List Bool), s.w = w ∧ Ext s0 s ∧ Le jt s ∧ dead_run_pairs_l1 N a1 a2 j7 jq m k1 k2 k3 = some jx ∧ f 25 = vi k1 ∧ f 1 = vi (a1) ∧ f 2 = vi (a2) ∧ f 7 = Value.map (some j2) ∧ f 8 = j9 ∧ f 9 = Value.slice (some ⟨jg, 0, none⟩) ((j7.length : Int)).toNat ((j7.length : Int)).toNat ∧ f 23 = js ∧ f 24 = vi ((jq.length : Int)) ∧ MapX s j2 k2 ∧ Arr s jg 4 ((j7.length : Int)).toNat k3) N ⟨jt, 0, ([] : List (Int × Int)), (List.replicate ((j7.length : Int)).toNat (false : Bool)), rfl, jw, (Le.refl _), jy, rfl, rfl, rfl, rfl, rfl, rfl, rfl, rfl, (((j5).ext jb).ext jh).ext ju, (jj).ext ju⟩ ?_)
  rintro k4 k5 k6 ⟨k7, k1, k2, k3, rfl, k8, k9, hr, ka, kb, kc, kd, ke, kf, kg, kh, ki, kj⟩
  cases k4 with
  | zero => exact absurd hr (by simp [dead_run_pairs_l1])
  | succ k4 =>
   rw [dead_run_pairs_l1.eq_2] at hr
   refine sr (ls ka kh (nn (W_seq ?_)))
   refine W_cond _ (rv (vb (decide (k1 < (jq.length : Int))))) (fun kk => ?_) (fun kk => ?_)
   ·have hr := ite_t kk hr
    refine W_skip (then_n (W_seq (W_block (sr (mv ka ?_)))))
    obtain ⟨kl, km, hr⟩ := bind_some hr
    refine ix Try.underlying59 ty64.inf kg (jv.mono k9) ka km (fun kn ko => ld ty64 (rv kn) ko (fun kp kq => L_alloc (α := Deed) (x := ⟨0, 0, 0, 0, false⟩) zero64 Deed.zero_rel (by decide) (fun kr ks kt ku kv => ?_)))
    have kw := Tch.ext k8 kt
    have kx : ∀ k, (fun k => k = j2) k → ¬ (fun k => k = ks) k := fun k jm jn => by have jo := (fun k (hk : k = j2) => lt_at hk (ki).lt) k jm; have jp := ku; subst jn; omega
    have ky : ∀ k, (fun k => k = jg) k → ¬ (fun k => k = ks) k := fun k jm jn => by have jo := (fun k (hk : k = jg) => lt_at hk (kj).lt) k jm; have jp := ku; subst jn; omega
    refine asg (rv (vi k1)) (L_store_ro ty64 (rv (Value.pointer (some ⟨ks, 0, none⟩))) (rv kp) (kq.mono kt.le) (kv) (fun kz g0 g1 => ?_))
    have g2 := Tch.trans kw g0 (fun k hk => Or.inr (by subst hk; exact (Nat.le_trans k8.size ku)))
    refine nn (W_seq ?_)
    obtain ⟨g3, g4, g5⟩ := bind_some hr
    refine W_seq_cut (fun f w => ∃ (s : St) (g6 : Bool), s.w = w ∧ Ext s0 s ∧ Le kz s ∧ g6 = g3 ∧ f 38 = vb g6 ∧ f 1 = vi (a1) ∧ f 2 = vi (a2) ∧ f 7 = Value.map (some j2) ∧ f 8 = j9 ∧ f 9 = Value.slice (some ⟨jg, 0, none⟩) ((j7.length : Int)).toNat ((j7.length : Int)).toNat ∧ f 10 = vi (k1) ∧ f 11 = Value.pointer (some ⟨ks, 0, none⟩) ∧ f 23 = js ∧ f 24 = vi ((jq.length : Int)) ∧ f 25 = vi (k1) ∧ MapX s j2 k2 ∧ Arr s jg 4 ((j7.length : Int)).toNat k3) ?_ ?_
    ·have hr := g4
     refine W_region (ld ty64 (rv (Value.pointer (some ⟨ks, 0, none⟩))) g1 (fun g7 g8 => ?_))
     obtain ⟨g9, ga, hr⟩ := bind_some hr
     refine L_calls cal40 (args1 (rv g7)) (dead_sends_ok N _ _ _ g8 g9 ga) (by decide) (fun gb gc gd gg => ?_)
     have gh := Tch.ext g2 gd
     obtain rfl := gg.bool
     refine L_not (rv (vb g9)) (by decide) (mv (rv (vb (!g9))) ?_)
     rcases tf (!g9) with gi | gi
     ·have hr := ite_t gi hr; exact gf 33 (rv (vb (!g9))) gi (gf 33 (rv (vb (!g9))) gi (gf 33 (rv (vb (!g9))) gi (gf 33 (rv (vb (!g9))) gi (pt (rv (vb (!g9))) gi (rv (vb true)) (nn ⟨gc, true, rfl, gh, gd.le, Option.some.inj hr, rfl, kb, kc, kd, ke, kf, rfl, rfl, kg, kh, ka, (((ki).ext kt).tch g0 ((fun k hk => kx k hk) j2 rfl)).ext gd, (((kj).ext kt).tch g0 ((fun k hk => ky k hk) jg rfl)).ext gd⟩)))))
     ·have hr := ite_f gi hr; exact gt 33 (rv (vb (!g9))) gi (fa fld64_1 Deed.of_Peer (rv (Value.pointer (some ⟨ks, 0, none⟩))) (g1.mono gd.le) (fun gj gk => gt 33 (rv (vb (!g9))) gi (li ty3 (rv gj) gk (gt 33 (rv (vb (!g9))) gi (mv kc (gt 33 (rv (vb (!g9))) gi (ne (rv (vi (kl.Peer))) (rv (vi a2)) (pf (rv (vb (!g9))) gi (rv (vb (!decide (kl.Peer = a2)))) (nn ⟨gc, (!decide (kl.Peer = a2)), rfl, gh, gd.le, Option.some.inj hr, rfl, kb, kc, kd, ke, kf, rfl, rfl, kg, kh, ka, (((ki).ext kt).tch g0 ((fun k hk => kx k hk) j2 rfl)).ext gd, (((kj).ext kt).tch g0 ((fun k hk => ky k hk) jg rfl)).ext gd⟩)))))))))
    ·rintro g7 g8 ⟨g9, g6, rfl, ga, gb, g4, gc, gd, gg, gh, gi, gj, gk, gl, gm, gn, go, gp, gq⟩
     subst g4
     have hr := g5
     try dsimp only at hr
     refine W_cond _ gc (fun gr => ?_) (fun gr => ?_)
     ·have hr := ite_t gr hr; refine W_exit (then_x (block_here (then_n (W_region ?_)))); obtain ⟨gs, hr⟩ := chk_some hr; exact ad go (rv (vi 1)) gs (mv (rv (vi (k1 + 1))) (nn ⟨k4, Nat.lt_succ_self _, ⟨g9, (k1 + 1), k2, k3, rfl, ga, (k9.trans (kt.le.trans (g0.le.trans gb))), hr, rfl, gd, gg, gh, gi, gj, gm, gn, gp, gq⟩⟩))
     ·have hr := ite_f gr hr
      refine W_skip (then_n (sr (mv gh (mv gk (L_mapUpdate (m := k2) Try.underlying92 Try.underlying3 (rv (Value.map (some j2))) (rv (vi k1)) (rv (vi (-1))) (gp) (Vint : V _ _ (-1 : Int)) (fun gs gu gv => ?_))))))
      have gw := Tch.trans ga gu (fun k hk => Or.inr (by subst hk; exact (Nat.le_trans j0.size j4)))
      refine nn (sr (mv gi (ln Try.underlying59 (rv j9) (jc.mono (jh.le.trans (ju.le.trans (k9.trans (kt.le.trans (g0.le.trans (gb.trans gu.le))))))) (mv (rv (vi 0)) (nn ?_)))))
      obtain ⟨gx, gy, gz⟩ := bind_some hr
      refine W_cut (fun f w => ∃ (s : St) (u0 : List (Int × Int)) (u1 : List Bool), s.w = w ∧ Ext s0 s ∧ Le gs s ∧ (u0, u1) = gx ∧ f 1 = vi (a1) ∧ f 2 = vi (a2) ∧ f 7 = Value.map (some j2) ∧ f 8 = j9 ∧ f 9 = Value.slice (some ⟨jg, 0, none⟩) ((j7.length : Int)).toNat ((j7.length : Int)).toNat ∧ f 23 = js ∧ f 24 = vi ((jq.length : Int)) ∧ f 25 = vi (k1) ∧ MapX s j2 u0 ∧ Arr s jg 4 ((j7.length : Int)).toNat u1) ?_ ?_
      ·refine W_block (W_loop (fun m f w => ∃ (s : St) (u2 : Int) (u3 : List (Int × Int)) (u4 : List Bool), s.w = w ∧ Ext s0 s ∧ Le gs s ∧ dead_run_pairs_l2 N a1 j7 k1 kl m u2 u3 u4 = some gx ∧ f 43 = vi u2 ∧ f 1 = vi (a1) ∧ f 2 = vi (a2) ∧ f 7 = Value.map (some j2) ∧ f 8 = j9 ∧ f 9 = Value.slice (some ⟨jg, 0, none⟩) ((j7.length : Int)).toNat ((j7.length : Int)).toNat ∧ f 10 = vi (k1) ∧ f 11 = Value.pointer (some ⟨ks, 0, none⟩) ∧ f 23 = js ∧ f 24 = vi ((jq.length : Int)) ∧ f 25 = vi (k1) ∧ f 41 = j9 ∧ f 42 = vi ((j7.length : Int)) ∧ MapX s j2 u3 ∧ Arr s jg 4 ((j7.length : Int)).toNat u4) N ⟨gs, 0, (mset k2 k1 (-1)), k3, rfl, gw, (Le.refl _), gy, rfl, gd, gg, gh, gi, gj, gk, gl, gm, gn, go, rfl, rfl, gv, (gq).tch gu ((fun k hk hm => jl k hm hk) jg rfl)⟩ ?_)
       rintro u5 u6 u7 ⟨u9, u2, u3, u4, rfl, ua, ub, hr, uc, ud, ue, uf, ug, uh, ui, uj, uk, ul, um, un, uo, up, uq⟩
       cases u5 with
       | zero => exact absurd hr (by simp [dead_run_pairs_l2])
       | succ u5 =>
        rw [dead_run_pairs_l2.eq_2] at hr
        refine sr (ls uc uo (nn (W_seq ?_)))
        refine W_cond _ (rv (vb (decide (u2 < (j7.length : Int))))) (fun ur => ?_) (fun ur => ?_)
        ·have hr := ite_t ur hr
         refine W_skip (then_n (W_seq (W_block (sr (mv uc ?_)))))
         obtain ⟨us, ut, hr⟩ := bind_some hr
         refine ix Try.underlying59 ty64.inf un (jc.mono (jh.le.trans (ju.le.trans (k9.trans (kt.le.trans (g0.le.trans (gb.trans (gu.le.trans ub)))))))) uc ut (fun uu uv => ld ty64 (rv uu) uv (fun uw ux => L_alloc (α := Deed) (x := ⟨0, 0, 0, 0, false⟩) zero64 Deed.zero_rel (by decide) (fun uy uz t0 t1 t2 => ?_)))
         have t3 := Tch.ext ua t0
         have t4 : ∀ k, (fun k => k = j2) k → ¬ (fun k => k = uz) k := fun k jm jn => by have jo := (fun k (hk : k = j2) => lt_at hk (up).lt) k jm; have jp := t1; subst jn; omega
         have t5 : ∀ k, (fun k => k = jg) k → ¬ (fun k => k = uz) k := fun k jm jn => by have jo := (fun k (hk : k = jg) => lt_at hk (uq).lt) k jm; have jp := t1; subst jn; omega
         refine asg (rv (vi u2)) (L_store_ro ty64 (rv (Value.pointer (some ⟨uz, 0, none⟩))) (rv uw) (ux.mono t0.le) (t2) (fun t6 t7 t8 => ?_))
         have t9 := Tch.trans t3 t7 (fun k hk => Or.inr (by subst hk; exact (Nat.le_trans ua.size t1)))
         refine nn ?_
         obtain ⟨ta, tb, tc⟩ := bind_some hr
         refine W_seq_cut (fun f w => ∃ (s : St) (td : Bool), s.w = w ∧ Ext s0 s ∧ Le t6 s ∧ td = ta ∧ f 67 = vb td ∧ f 1 = vi (a1) ∧ f 2 = vi (a2) ∧ f 7 = Value.map (some j2) ∧ f 8 = j9 ∧ f 9 = Value.slice (some ⟨jg, 0, none⟩) ((j7.length : Int)).toNat ((j7.length : Int)).toNat ∧ f 10 = vi (k1) ∧ f 11 = Value.pointer (some ⟨ks, 0, none⟩) ∧ f 12 = vi (u2) ∧ f 23 = js ∧ f 24 = vi ((jq.length : Int)) ∧ f 25 = vi (k1) ∧ f 41 = j9 ∧ f 42 = vi ((j7.length : Int)) ∧ f 43 = vi (u2) ∧ MapX s j2 u3 ∧ Arr s jg 4 ((j7.length : Int)).toNat u4) ?_ ?_
         ·have hr := tb
          refine W_region (ld ty64 (rv (Value.pointer (some ⟨uz, 0, none⟩))) t8 (fun te tg => ?_))
          obtain ⟨th, ti, hr⟩ := bind_some hr
          refine L_calls cal70 (args1 (rv te)) (dead_receives_ok N _ _ _ tg th ti) (by decide) (fun tj tk tl tm => ?_)
          have tn := Tch.ext t9 tl
          obtain rfl := tm.bool
          refine mv (rv (vb th)) ?_
          rcases tf (th) with tp | tp
          ·have hr := ite_t tp hr
           refine gt 50 (rv (vb th)) tp (fa fld64_1 Deed.of_Peer (rv (Value.pointer (some ⟨uz, 0, none⟩))) (t8.mono tl.le) (fun tq tr => gt 50 (rv (vb th)) tp (li ty3 (rv tq) tr (gt 50 (rv (vb th)) tp (mv ud (gt 50 (rv (vb th)) tp (el (rv (vi (us.Peer))) (rv (vi a1)) (pt (rv (vb th)) tp (rv (vb (decide (us.Peer = a1)))) (mv (rv (vb (decide (us.Peer = a1)))) ?_)))))))))
           rcases tf (decide (us.Peer = a1)) with ts | ts
           ·have hr := ite_t ts hr
            refine gt 56 (rv (vb (decide (us.Peer = a1)))) ts (mv uh (gt 56 (rv (vb (decide (us.Peer = a1)))) ts (mv (rv (vi u2)) (gt 56 (rv (vb (decide (us.Peer = a1)))) ts ?_))))
            obtain ⟨tt, tu, hr⟩ := bind_some hr
            refine L_indexA (sz := 1) Try.underlying116 ty4.inf (rv (Value.slice (some ⟨jg, 0, none⟩) ((j7.length : Int)).toNat ((j7.length : Int)).toNat)) (rv (vi u2)) (idx_some tu).1 (by have := (idx_some tu).2.1; have := ((((uq).ext t0).tch t7 ((fun k hk => t5 k hk) jg rfl)).ext tl).1; omega) (by decide) (gt 56 (rv (vb (decide (us.Peer = a1)))) ts (L_loadA (xs := u4) ty4 (rv (Value.pointer (some ⟨jg, (u2).toNat * 1, none⟩))) ((((uq).ext t0).tch t7 ((fun k hk => t5 k hk) jg rfl)).ext tl) tu (by decide) (fun tv tw => ?_)))
            obtain rfl := tw.bool
            refine gt 56 (rv (vb (decide (us.Peer = a1)))) ts (L_not (rv (vb tt)) (by decide) (pt (rv (vb (decide (us.Peer = a1)))) ts (rv (vb (!tt))) (mv (rv (vb (!tt))) ?_)))
            rcases tf (!tt) with tx | tx
            ·have hr := ite_t tx hr; refine gt 63 (rv (vb (!tt))) tx (ld ty64 uj (g1.mono (gb.trans (gu.le.trans (ub.trans (t0.le.trans (t7.le.trans tl.le)))))) (fun ty tz => gt 63 (rv (vb (!tt))) tx (ld ty64 (rv (Value.pointer (some ⟨uz, 0, none⟩))) (t8.mono tl.le) (fun c0 c1 => gt 63 (rv (vb (!tt))) tx ?_)))); obtain ⟨c2, c3, hr⟩ := bind_some hr; refine L_calls cal41 (args2 (rv ty) (rv c0)) (dead_fits_ok N _ _ _ tz _ _ c1 c2 c3) (by decide) (fun c4 c5 c6 c7 => ?_); have c8 := Tch.ext tn c6; obtain rfl := c7.bool; exact pt (rv (vb (!tt))) tx (rv (vb c2)) (nn ⟨c5, c2, rfl, c8, (tl.le.trans c6.le), Option.some.inj hr, rfl, ud, ue, uf, ug, uh, ui, uj, rfl, uk, ul, um, un, uo, uc, ((((up).ext t0).tch t7 ((fun k hk => t4 k hk) j2 rfl)).ext tl).ext c6, ((((uq).ext t0).tch t7 ((fun k hk => t5 k hk) jg rfl)).ext tl).ext c6⟩)
            ·have hr := ite_f tx hr; exact gf 63 (rv (vb (!tt))) tx (gf 63 (rv (vb (!tt))) tx (gf 63 (rv (vb (!tt))) tx (pf (rv (vb (!tt))) tx (rv (vb false)) (nn ⟨tk, false, rfl, tn, tl.le, Option.some.inj hr, rfl, ud, ue, uf, ug, uh, ui, uj, rfl, uk, ul, um, un, uo, uc, (((up).ext t0).tch t7 ((fun k hk => t4 k hk) j2 rfl)).ext tl, (((uq).ext t0).tch t7 ((fun k hk => t5 k hk) jg rfl)).ext tl⟩))))
           ·have hr := ite_f ts hr; exact gf 56 (rv (vb (decide (us.Peer = a1)))) ts (gf 56 (rv (vb (decide (us.Peer = a1)))) ts (gf 56 (rv (vb (decide (us.Peer = a1)))) ts (gf 56 (rv (vb (decide (us.Peer = a1)))) ts (gf 56 (rv (vb (decide (us.Peer = a1)))) ts (pf (rv (vb (decide (us.Peer = a1)))) ts (rv (vb false)) (mv (rv (vb false)) (gf 63 (rv (vb false)) rfl (gf 63 (rv (vb false)) rfl (gf 63 (rv (vb false)) rfl (pf (rv (vb false)) rfl (rv (vb false)) (nn ⟨tk, false, rfl, tn, tl.le, Option.some.inj hr, rfl, ud, ue, uf, ug, uh, ui, uj, rfl, uk, ul, um, un, uo, uc, (((up).ext t0).tch t7 ((fun k hk => t4 k hk) j2 rfl)).ext tl, (((uq).ext t0).tch t7 ((fun k hk => t5 k hk) jg rfl)).ext tl⟩)))))))))))
          ·have hr := ite_f tp hr; refine gf 50 (rv (vb th)) tp (gf 50 (rv (vb th)) tp (gf 50 (rv (vb th)) tp (gf 50 (rv (vb th)) tp (pf (rv (vb th)) tp (rv (vb false)) (mv (rv (vb false)) (gf 56 (rv (vb false)) rfl (gf 56 (rv (vb false)) rfl (gf 56 (rv (vb false)) rfl (gf 56 (rv (vb false)) rfl (gf 56 (rv (vb false)) rfl (pf (rv (vb false)) rfl (rv (vb false)) (mv (rv (vb false)) (gf 63 (rv (vb false)) rfl ?_))))))))))))); exact gf 63 (rv (vb false)) rfl (gf 63 (rv (vb false)) rfl (pf (rv (vb false)) rfl (rv (vb false)) (nn ⟨tk, false, rfl, tn, tl.le, Option.some.inj hr, rfl, ud, ue, uf, ug, uh, ui, uj, rfl, uk, ul, um, un, uo, uc, (((up).ext t0).tch t7 ((fun k hk => t4 k hk) j2 rfl)).ext tl, (((uq).ext t0).tch t7 ((fun k hk => t5 k hk) jg rfl)).ext tl⟩)))
         ·rintro te tg ⟨th, td, rfl, ti, tj, tb, tk, tl, tm, tn, tp, tq, tr, ts, tt, tu, tv, tw, tx, ty, tz, c0, c1⟩
          subst tb
          have hr := tc
          try dsimp only at hr
          refine W_cond _ tk (fun c2 => ?_) (fun c2 => ?_)
          ·have hr := ite_t c2 hr; refine sr (mv tn (mv tr (mv tq (mv tt (mv tt (L_mapUpdate (m := u3) Try.underlying92 Try.underlying3 (rv (Value.map (some j2))) (rv (vi k1)) (rv (vi u2)) (c0) (Vint : V _ _ (u2 : Int)) (fun c3 c4 c5 => ?_))))))); have c6 := Tch.trans ti c4 (fun k hk => Or.inr (by subst hk; exact (Nat.le_trans j0.size j4))); obtain ⟨c7, c8, hr⟩ := bind_some hr; refine L_indexA (sz := 1) Try.underlying116 ty4.inf (rv (Value.slice (some ⟨jg, 0, none⟩) ((j7.length : Int)).toNat ((j7.length : Int)).toNat)) (rv (vi u2)) (idx_some c8).1 (by have := (idx_some c8).2.1; have := ((c1).tch c4 ((fun k hk hm => jl k hm hk) jg rfl)).1; omega) (by decide) (L_storeA (xs := u4) ty4 (rv (Value.pointer (some ⟨jg, (u2).toNat * 1, none⟩))) (rv (vb true)) Vbool ((c1).tch c4 ((fun k hk hm => jl k hm hk) jg rfl)) c8 (fun c9 ca cb => ?_)); have cc := Tch.trans c6 ca (fun k hk => Or.inr (by subst hk; exact (Nat.le_trans jd.size ji))); refine nn (W_exit (block_x (by decide) (then_x (then_x (block_here ?_))))); exact then_n ⟨c9, (mset u3 k1 u2), (u4.set (u2).toNat true), rfl, cc, (ub.trans (t0.le.trans (t7.le.trans (tj.trans (c4.le.trans ca.le))))), Option.some.inj hr, tl, tm, tn, tp, tq, tu, tv, tw, (c5).tch ca ((fun k hk => jl k hk) j2 rfl), cb⟩
          ·have hr := ite_f c2 hr; refine W_skip (block_n (then_n (W_region ?_))); obtain ⟨c3, hr⟩ := chk_some hr; exact ad tz (rv (vi 1)) c3 (mv (rv (vi (u2 + 1))) (nn ⟨u5, Nat.lt_succ_self _, ⟨th, (u2 + 1), u3, u4, rfl, ti, (ub.trans (t0.le.trans (t7.le.trans tj))), hr, rfl, tl, tm, tn, tp, tq, tr, ts, tu, tv, tw, tx, ty, c0, c1⟩⟩))
        ·have hr := ite_f ur hr; refine W_exit (then_x (then_x (block_here ?_))); exact then_n ⟨u9, u3, u4, rfl, ua, ub, Option.some.inj hr, ud, ue, uf, ug, uh, uk, ul, um, up, uq⟩
      ·rintro u2 u3 ⟨u4, u0, u1, rfl, u5, u6, gy, u7, u9, ua, ub, uc, ud, ue, uf, ug, uh⟩; subst gy; have hr := gz; (try dsimp only at hr); refine block_n (then_n (W_region ?_)); obtain ⟨ui, hr⟩ := chk_some hr; exact ad uf (rv (vi 1)) ui (mv (rv (vi (k1 + 1))) (nn ⟨k4, Nat.lt_succ_self _, ⟨u4, (k1 + 1), u0, u1, rfl, u5, (k9.trans (kt.le.trans (g0.le.trans (gb.trans (gu.le.trans u6))))), hr, rfl, u7, u9, ua, ub, uc, ud, ue, ug, uh⟩⟩))
   ·have hr := ite_f kk hr; refine W_exit (then_x (then_x (block_here ?_))); exact then_n ⟨k7, k2, rfl, k8, k9, Option.some.inj hr, kd, ki⟩
 ·rintro k1 k2 ⟨k3, k0, rfl, k4, k5, jy, k6, k7⟩; subst jy; have hr := jz; (try dsimp only at hr); refine then_n (sr (mv k6 (asg (rv (Value.map (some j2))) (nn (W_ret ?_))))); obtain rfl := Option.some.inj hr; obtain ⟨k8, k9, ka, kb⟩ := (k7).freeze; have kc := Tch.trans k4 ka (fun k hk => Or.inr (by subst hk; exact (Nat.le_trans j0.size j4))); exact done1 (Or.inl rfl) Try.results81 rfl ⟨_, _, rfl, k9, kc, kb.toV⟩

theorem dead_run_taken_ok (N : Nat) (s0 : St) (w0 : Value) (a0 : Run) (h0 : Ptr s0 w0 a0) (a1 : Int) (a2 : Int) (r : Bool) (hr : dead_run_taken N a0 a1 a2 = some r) :
    Calls Try.prog 60 #[w0, .int .i64 a1, .int .i64 a2] s0.w (Ret s0 fun v s => V s v r) := by
 unfold dead_run_taken at hr
 have j0 := Ext.refl s0
 refine Calls_of (n := 72) (args := [w0, .int .i64 a1, .int .i64 a2]) Try.func60 rfl rfl (by simp) (sr (asg (rv (vb false)) (nn (sr (mv (rv w0) (L_nilCheck_ptr (rv w0) h0 (by decide) (fa fld72_0 Run.of_c (rv w0) h0 (fun j1 j2 => ld ty29 (rv j1) j2 (fun j3 j4 => mv (rv (vi a1)) ?_)))))))))
 obtain ⟨j5, j6, hr⟩ := bind_some hr
 refine ix Try.underlying29 ty59.inf (rv j3) j4 (rv (vi a1)) j6 (fun j7 j8 => ld ty59 (rv j7) j8 (fun j9 ja => mv (rv (vi a2)) ?_))
 obtain ⟨jb, jc, hr⟩ := bind_some hr
 refine ix Try.underlying59 ty64.inf (rv j9) ja (rv (vi a2)) jc (fun jd je => ld ty64 (rv jd) je (fun jf jg => L_alloc (α := Deed) (x := ⟨0, 0, 0, 0, false⟩) zero64 Deed.zero_rel (by decide) (fun jh ji jj jk jl => ?_)))
 have jm := Tch.ext j0 jj
 refine L_store_ro ty64 (rv (Value.pointer (some ⟨ji, 0, none⟩))) (rv jf) (jg.mono jj.le) (jl) (fun jn jo jp => ?_)
 have jq := Tch.trans jm jo (fun k hk => Or.inr (by subst hk; exact (Nat.le_trans j0.size jk)))
 refine nn (sr (mv (rv w0) (mv (rv (vi a1)) (fa fld64_1 Deed.of_Peer (rv (Value.pointer (some ⟨ji, 0, none⟩))) jp (fun jr js => li ty3 (rv jr) js ?_)))))
 obtain ⟨jt, ju, hr⟩ := bind_some hr
 refine L_calls cal81 (args3 (rv w0) (rv (vi a1)) (rv (vi (jb.Peer)))) (dead_run_pairs_ok N _ _ _ (h0.mono (jj.le.trans jo.le)) a1 jb.Peer jt ju) (by decide) (fun jv jw jx jy => ?_)
 have jz := Tch.ext jq jx
 refine asg (rv jv) (nn (W_seq (sr (mv (rv jv) (mv (rv (vi a2)) (L_lookup (m := jt.l) (z0 := (0 : Int)) Try.underlying92 Try.underlying3 zero3 Vint (rv jv) (rv (vi a2)) (jy).toMap (by decide) (fun k0 k1 => ?_)))))))
 obtain rfl := k1.int
 refine L_geq (rv (vi ((mget jt.l a2).getD (0 : Int)))) (rv (vi 0)) (by decide) (nn ?_)
 refine W_cond _ (rv (vb (decide (0 ≤ ((mget jt.l a2).getD (0 : Int)))))) (fun k2 => ?_) (fun k2 => ?_)
 ·have hr := ite_t k2 hr; refine sr (asg (rv (vb true)) (nn (W_ret (then_r ?_)))); obtain rfl := Option.some.inj hr; exact done1 (Or.inl rfl) Try.results60 rfl ⟨_, _, rfl, rfl, jz, Vbool⟩
 ·have hr := ite_f k2 hr
  refine W_skip (then_n (sr (asg (rv (vi 0)) (nn (W_seq (sr (mv (rv jv) (L_range (m := jt.l) Try.underlying92 (rv jv) (jy).toMap (by decide) (fun k3 k4 k5 k6 k7 => ?_)))))))))
  have k8 := Tch.ext jz k5
  refine nn ?_
  obtain ⟨k9, ka, kb⟩ := bind_some hr
  refine W_cut (fun f w => ∃ (s : St) (kc : Int), s.w = w ∧ Ext s0 s ∧ Le k3 s ∧ Sum.inl kc = k9 ∧ f 9 = vi kc ∧ f 0 = w0 ∧ f 7 = Value.pointer (some ⟨ji, 0, none⟩)) ?_ ?_
  ·refine W_block (W_loop (fun m f w => ∃ (kd : List (Int × Int)) (s : St) (ke : Int), s.w = w ∧ Ext s0 s ∧ Le k3 s ∧ (∀ l : List (Int × Int), l.Perm kd → foldE (ρ := Bool) (dead_run_taken_l1 N a0 a1 a2) (fun (q : Int) => match q with | ke => ke) l ke = some k9) ∧ Iter s k4 kd ∧ kd.length = m ∧ f 9 = vi ke ∧ f 0 = w0 ∧ f 1 = vi (a1) ∧ f 2 = vi (a2) ∧ f 7 = Value.pointer (some ⟨ji, 0, none⟩) ∧ f 32 = Value.pointer (some ⟨k4, 0, none⟩)) jt.l.length ⟨jt.l, k3, 0, rfl, k8, (Le.refl _), (fun l hl => (foldE_perm (dead_run_taken_l1_comm N a0 a1 a2) hl _).trans ka), k7, rfl, rfl, rfl, rfl, rfl, rfl, rfl⟩ ?_)
   rintro kf kg kh ⟨kd, ki, ke, rfl, kj, kk, kl, km, kn, ko, kp, kq, kr, ks, kt⟩
   refine sr ?_
   refine L_next kt (km) (by decide) (fun ku => ?_) (fun kv kw kx ky kz g0 g1 => ?_)
   ·have hr := kl [] (by rw [ku]); unfold foldE at hr; refine xt (rv (Value.tuple #[vb (false)])) (k := 0) rfl (nn (W_seq ?_)); refine W_cond _ (rv (vb false)) (fun h => absurd (h.symm.trans rfl) (by decide)) (fun _ => ?_); refine W_exit (then_x (then_x (block_here ?_))); exact then_n ⟨ki, ke, rfl, kj, kk, Option.some.inj hr, ko, kp, ks⟩
   ·have g2 := Tch.trans kj g0 (fun k hk => Or.inr (by subst hk; exact (Nat.le_trans jz.size k6)))
    obtain ⟨g3, hr, g4⟩ := foldE_cons kl kz
    unfold dead_run_taken_l1 at hr
    try dsimp only at hr
    refine xt (rv (Value.tuple #[vb (true), vi (kv.1), ky])) (k := 0) rfl (nn (W_seq ?_))
    refine W_cond _ (rv (vb true)) (fun _ => ?_) (fun h => absurd (h.symm.trans rfl) (by decide))
    refine W_skip (then_n (W_block (sr (L_entry kt (g1) (by decide) (fun g5 g6 => ?_)))))
    obtain rfl := g6.int
    refine xt (rv (Value.tuple #[vi (kv.1), vi (kv.2)])) (k := 0) rfl (xt (rv (Value.tuple #[vi (kv.1), vi (kv.2)])) (k := 1) rfl (asg (rv (vi (kv.1))) (asg (rv (vi (kv.2))) (nn (sr (mv (rv (vi (kv.1))) (mv kr (ls (rv (vi (kv.1))) (rv (vi a2)) (mv (rv (vb (decide (kv.1 < a2)))) ?_)))))))))
    rcases tf (decide (kv.1 < a2)) with g7 | g7
    ·have hr := ite_t g7 hr
     refine gt 41 (rv (vb (decide (kv.1 < a2)))) g7 (mv (rv (vi (kv.2))) (gt 41 (rv (vb (decide (kv.1 < a2)))) g7 (ls (rv (vi (kv.2))) (rv (vi 0)) (pt (rv (vb (decide (kv.1 < a2)))) g7 (rv (vb (decide (kv.2 < 0)))) (mv (rv (vb (decide (kv.2 < 0)))) ?_)))))
     rcases tf (decide (kv.2 < 0)) with g8 | g8
     ·have hr := ite_t g8 hr
      refine gt 45 (rv (vb (decide (kv.2 < 0)))) g8 (mv kp (gt 45 (rv (vb (decide (kv.2 < 0)))) g8 (L_nilCheck_ptr (rv w0) (h0.mono (jj.le.trans (jo.le.trans (jx.le.trans (k5.le.trans (kk.trans g0.le)))))) (by decide) (gt 45 (rv (vb (decide (kv.2 < 0)))) g8 (fa fld72_0 Run.of_c (rv w0) (h0.mono (jj.le.trans (jo.le.trans (jx.le.trans (k5.le.trans (kk.trans g0.le)))))) (fun g9 ga => gt 45 (rv (vb (decide (kv.2 < 0)))) g8 (ld ty29 (rv g9) ga (fun gb gc => gt 45 (rv (vb (decide (kv.2 < 0)))) g8 (mv kq (gt 45 (rv (vb (decide (kv.2 < 0)))) g8 ?_))))))))))
      obtain ⟨gd, gg, hr⟩ := bind_some hr
      refine ix Try.underlying29 ty59.inf (rv gb) gc (rv (vi a1)) gg (fun gh gi => gt 45 (rv (vb (decide (kv.2 < 0)))) g8 (ld ty59 (rv gh) gi (fun gj gk => gt 45 (rv (vb (decide (kv.2 < 0)))) g8 (mv (rv (vi (kv.1))) (gt 45 (rv (vb (decide (kv.2 < 0)))) g8 ?_)))))
      obtain ⟨gl, gm, hr⟩ := bind_some hr
      refine ix Try.underlying59 ty64.inf (rv gj) gk (rv (vi (kv.1))) gm (fun gn go => gt 45 (rv (vb (decide (kv.2 < 0)))) g8 (fa fld64_4 Deed.of_Sync (rv gn) go (fun gp gq => gt 45 (rv (vb (decide (kv.2 < 0)))) g8 (L_load_bool ty4 (rv gp) gq (by decide) (gt 45 (rv (vb (decide (kv.2 < 0)))) g8 (L_not (rv (vb (gl.Sync))) (by decide) (pt (rv (vb (decide (kv.2 < 0)))) g8 (rv (vb (!gl.Sync))) (nn ?_))))))))
      refine W_cond _ (rv (vb (!gl.Sync))) (fun gr => ?_) (fun gr => ?_)
      ·have hr := ite_t gr hr; refine W_region (mv ko ?_); obtain ⟨gs, hr⟩ := chk_some hr; refine ad (rv (vi ke)) (rv (vi 1)) gs (asg (rv (vi (ke + 1))) (L_nil (block_n ?_))); obtain rfl := Option.some.inj hr; exact then_n ⟨kw.length, by have := kz.length_eq; have := kn; simp at *; omega, ⟨kw, kx, (ke + 1), rfl, g2, (kk.trans g0.le), g4, ((g1)).iter, rfl, rfl, kp, kq, kr, ks, kt⟩⟩
      ·have hr := ite_f gr hr; refine W_skip (block_n ?_); obtain rfl := Option.some.inj hr; exact then_n ⟨kw.length, by have := kz.length_eq; have := kn; simp at *; omega, ⟨kw, kx, ke, rfl, g2, (kk.trans g0.le), g4, ((g1)).iter, rfl, ko, kp, kq, kr, ks, kt⟩⟩
     ·have hr := ite_f g8 hr; refine gf 45 (rv (vb (decide (kv.2 < 0)))) g8 (gf 45 (rv (vb (decide (kv.2 < 0)))) g8 (gf 45 (rv (vb (decide (kv.2 < 0)))) g8 (gf 45 (rv (vb (decide (kv.2 < 0)))) g8 (gf 45 (rv (vb (decide (kv.2 < 0)))) g8 (gf 45 (rv (vb (decide (kv.2 < 0)))) g8 (gf 45 (rv (vb (decide (kv.2 < 0)))) g8 (gf 45 (rv (vb (decide (kv.2 < 0)))) g8 (gf 45 (rv (vb (decide (kv.2 < 0)))) g8 (gf 45 (rv (vb (decide (kv.2 < 0)))) g8 (gf 45 (rv (vb (decide (kv.2 < 0)))) g8 (gf 45 (rv (vb (decide (kv.2 < 0)))) g8 (pf (rv (vb (decide (kv.2 < 0)))) g8 (rv (vb false)) (nn ?_))))))))))))); refine W_cond _ (rv (vb false)) (fun h => absurd (h.symm.trans rfl) (by decide)) (fun _ => ?_); refine W_skip (block_n ?_); obtain rfl := Option.some.inj hr; exact then_n ⟨kw.length, by have := kz.length_eq; have := kn; simp at *; omega, ⟨kw, kx, ke, rfl, g2, (kk.trans g0.le), g4, ((g1)).iter, rfl, ko, kp, kq, kr, ks, kt⟩⟩
    ·have hr := ite_f g7 hr; refine gf 41 (rv (vb (decide (kv.1 < a2)))) g7 (gf 41 (rv (vb (decide (kv.1 < a2)))) g7 (pf (rv (vb (decide (kv.1 < a2)))) g7 (rv (vb false)) (mv (rv (vb false)) (gf 45 (rv (vb false)) rfl (gf 45 (rv (vb false)) rfl (gf 45 (rv (vb false)) rfl (gf 45 (rv (vb false)) rfl (gf 45 (rv (vb false)) rfl (gf 45 (rv (vb false)) rfl (gf 45 (rv (vb false)) rfl (gf 45 (rv (vb false)) rfl (gf 45 (rv (vb false)) rfl (gf 45 (rv (vb false)) rfl ?_))))))))))))); refine gf 45 (rv (vb false)) rfl (gf 45 (rv (vb false)) rfl (pf (rv (vb false)) rfl (rv (vb false)) (nn ?_))); refine W_cond _ (rv (vb false)) (fun h => absurd (h.symm.trans rfl) (by decide)) (fun _ => ?_); refine W_skip (block_n ?_); obtain rfl := Option.some.inj hr; exact then_n ⟨kw.length, by have := kz.length_eq; have := kn; simp at *; omega, ⟨kw, kx, ke, rfl, g2, (kk.trans g0.le), g4, ((g1)).iter, rfl, ko, kp, kq, kr, ks, kt⟩⟩
  ·rintro kd ke ⟨kf, kc, rfl, kg, kh, ka, ki, kj, kk⟩
   subst ka
   have hr := kb
   try dsimp only at hr
   refine then_n (sr (fa fld64_4 Deed.of_Sync kk (jp.mono (jx.le.trans (k5.le.trans kh))) (fun kl km => L_load_bool ty4 (rv kl) km (by decide) (L_not (rv (vb (jb.Sync))) (by decide) (mv (rv (vb (!jb.Sync))) ?_)))))
   rcases tf (!jb.Sync) with kn | kn
   ·have hr := ite_t kn hr; refine gt 64 (rv (vb (!jb.Sync))) kn (mv ki (gt 64 (rv (vb (!jb.Sync))) kn (mv kj (gt 64 (rv (vb (!jb.Sync))) kn (L_nilCheck_ptr (rv w0) (h0.mono (jj.le.trans (jo.le.trans (jx.le.trans (k5.le.trans kh))))) (by decide) (gt 64 (rv (vb (!jb.Sync))) kn (fa fld72_1 Run.of_room (rv w0) (h0.mono (jj.le.trans (jo.le.trans (jx.le.trans (k5.le.trans kh))))) (fun ko kp => gt 64 (rv (vb (!jb.Sync))) kn (li ty3 (rv ko) kp (gt 64 (rv (vb (!jb.Sync))) kn (ls (rv (vi kc)) (rv (vi (a0.room))) (pt (rv (vb (!jb.Sync))) kn (rv (vb (decide (kc < a0.room)))) (asg (rv (vb (decide (kc < a0.room)))) ?_))))))))))))); refine nn (W_ret ?_); obtain rfl := Option.some.inj hr; exact done1 (Or.inl rfl) Try.results60 rfl ⟨_, _, rfl, rfl, kg, Vbool⟩
   ·have hr := ite_f kn hr; refine gf 64 (rv (vb (!jb.Sync))) kn (gf 64 (rv (vb (!jb.Sync))) kn (gf 64 (rv (vb (!jb.Sync))) kn (gf 64 (rv (vb (!jb.Sync))) kn (gf 64 (rv (vb (!jb.Sync))) kn (gf 64 (rv (vb (!jb.Sync))) kn (pf (rv (vb (!jb.Sync))) kn (rv (vb false)) (asg (rv (vb false)) (nn (W_ret ?_))))))))); obtain rfl := Option.some.inj hr; exact done1 (Or.inl rfl) Try.results60 rfl ⟨_, _, rfl, rfl, kg, Vbool⟩

theorem dead_run_can_1_ok (N : Nat) (s0 : St) (w0 : Value) (a0 : Ref Run) (h0 : Ptr s0 w0 a0) (w1 : Value) (a1 : Int) (h1 : Ptr s0 w1 a1) (w2 : Value) (a2 : Int) (h2 : Ptr s0 w2 a2) (r : Bool) (hr : dead_run_can_1 N a0 a1 a2 = some r) :
    Calls Try.prog 59 #[w0, w1, w2] s0.w (Ret s0 fun v s => V s v r) := by
 unfold dead_run_can_1 at hr
 have j0 := Ext.refl s0
 refine Calls_of (n := 8) (args := [w0, w1, w2]) Try.func59 rfl rfl (by simp) (sr (asg (rv (vb false)) (nn (sr (ld ty67 (rv w0) h0 (fun j1 j2 => li ty3 (rv w1) h1 (li ty3 (rv w2) h2 ?_)))))))
 obtain ⟨j3, j4, hr⟩ := bind_some hr
 refine L_calls cal60 (args3 (rv j1) (rv (vi a1)) (rv (vi a2))) (dead_run_taken_ok N _ _ _ j2.toPtr a1 a2 j3 j4) (by decide) (fun j5 j6 j7 j8 => ?_)
 have j9 := Tch.ext j0 j7
 obtain rfl := j8.bool
 refine asg (rv (vb j3)) (nn (W_ret ?_))
 obtain rfl := Option.some.inj hr
 exact done1 (Or.inl rfl) Try.results59 rfl ⟨_, _, rfl, rfl, j9, Vbool⟩

theorem dead_run_received_ok (N : Nat) (s0 : St) (w0 : Value) (a0 : Run) (h0 : Ptr s0 w0 a0) (a1 : Int) (a2 : Int) (r : Bool) (hr : dead_run_received N a0 a1 a2 = some r) :
    Calls Try.prog 62 #[w0, .int .i64 a1, .int .i64 a2] s0.w (Ret s0 fun v s => V s v r) := by
 unfold dead_run_received at hr
 have j0 := Ext.refl s0
 refine Calls_of (n := 31) (args := [w0, .int .i64 a1, .int .i64 a2]) Try.func62 rfl rfl (by simp) (sr (asg (rv (vb false)) (nn (W_seq (sr (mv (rv w0) (mv (rv w0) (L_nilCheck_ptr (rv w0) h0 (by decide) (fa fld72_0 Run.of_c (rv w0) h0 (fun j1 j2 => ld ty29 (rv j1) j2 (fun j3 j4 => mv (rv (vi a1)) ?_)))))))))))
 obtain ⟨j5, j6, hr⟩ := bind_some hr
 refine ix Try.underlying29 ty59.inf (rv j3) j4 (rv (vi a1)) j6 (fun j7 j8 => ld ty59 (rv j7) j8 (fun j9 ja => mv (rv (vi a2)) ?_))
 obtain ⟨jb, jc, hr⟩ := bind_some hr
 refine ix Try.underlying59 ty64.inf (rv j9) ja (rv (vi a2)) jc (fun jd je => fa fld64_1 Deed.of_Peer (rv jd) je (fun jf jg => li ty3 (rv jf) jg (mv (rv (vi a1)) ?_)))
 obtain ⟨jh, ji, hr⟩ := bind_some hr
 refine L_calls cal81 (args3 (rv w0) (rv (vi (jb.Peer))) (rv (vi a1))) (dead_run_pairs_ok N _ _ _ h0 jb.Peer a1 jh ji) (by decide) (fun jj jk jl jm => ?_)
 have jn := Tch.ext j0 jl
 refine L_range (m := jh.l) Try.underlying92 (rv jj) (jm).toMap (by decide) (fun jo jp jq jr js => ?_)
 have jt := Tch.ext jn jq
 refine nn ?_
 obtain ⟨ju, jv, jw⟩ := bind_some hr
 refine W_cut (fun f w => ∃ (s : St), s.w = w ∧ Ext s0 s ∧ Le jo s ∧ Sum.inl () = ju) ?_ ?_
 ·refine W_block (W_loop (fun m f w => ∃ (jx : List (Int × Int)) (s : St), s.w = w ∧ Ext s0 s ∧ Le jo s ∧ (∀ l : List (Int × Int), l.Perm jx → foldE (ρ := Bool) (dead_run_received_l1 N a2) (fun (q : Unit) => match q with | () => ()) l () = some ju) ∧ Iter s jp jx ∧ jx.length = m ∧ f 2 = vi (a2) ∧ f 23 = Value.pointer (some ⟨jp, 0, none⟩)) jh.l.length ⟨jh.l, jo, rfl, jt, (Le.refl _), (fun l hl => (foldE_perm (dead_run_received_l1_comm N a2) hl _).trans jv), js, rfl, rfl, rfl⟩ ?_)
  rintro jy jz k0 ⟨jx, k1, rfl, k2, k3, k4, k5, k6, k7, k8⟩
  refine sr ?_
  refine L_next k8 (k5) (by decide) (fun k9 => ?_) (fun ka kb kc kd ke kf kg => ?_)
  ·have hr := k4 [] (by rw [k9]); unfold foldE at hr; refine xt (rv (Value.tuple #[vb (false)])) (k := 0) rfl (nn (W_seq ?_)); refine W_cond _ (rv (vb false)) (fun h => absurd (h.symm.trans rfl) (by decide)) (fun _ => ?_); refine W_exit (then_x (then_x (block_here ?_))); exact then_n ⟨k1, rfl, k2, k3, Option.some.inj hr⟩
  ·have kh := Tch.trans k2 kf (fun k hk => Or.inr (by subst hk; exact (Nat.le_trans jn.size jr)))
   obtain ⟨ki, hr, kj⟩ := foldE_cons k4 ke
   unfold dead_run_received_l1 at hr
   try dsimp only at hr
   refine xt (rv (Value.tuple #[vb (true), vi (ka.1), kd])) (k := 0) rfl (nn (W_seq ?_))
   refine W_cond _ (rv (vb true)) (fun _ => ?_) (fun h => absurd (h.symm.trans rfl) (by decide))
   refine W_skip (then_n (W_block (sr (L_entry k8 (kg) (by decide) (fun kk kl => ?_)))))
   obtain rfl := kl.int
   refine xt (rv (Value.tuple #[vi (ka.1), vi (ka.2)])) (k := 1) rfl (asg (rv (vi (ka.2))) (nn (sr (mv (rv (vi (ka.2))) (mv k7 (el (rv (vi (ka.2))) (rv (vi a2)) (nn ?_)))))))
   refine W_cond _ (rv (vb (decide (ka.2 = a2)))) (fun km => ?_) (fun km => ?_)
   ·have hr := ite_t km hr; refine sr (asg (rv (vb true)) (nn (W_ret (block_r (then_r (block_r ?_)))))); obtain rfl := Option.some.inj hr; have hr := kj _ (List.Perm.refl _); unfold foldK at hr; (try dsimp only at hr); obtain rfl := Option.some.inj hr; have hr := jw; (try dsimp only at hr); refine then_r (then_r ?_); obtain rfl := Option.some.inj hr; exact done1 (Or.inl rfl) Try.results62 rfl ⟨_, _, rfl, rfl, kh, Vbool⟩
   ·have hr := ite_f km hr; refine W_skip (block_n ?_); obtain rfl := Option.some.inj hr; exact then_n ⟨kb.length, by have := ke.length_eq; have := k6; simp at *; omega, ⟨kb, kc, rfl, kh, (k3.trans kf.le), kj, ((kg)).iter, rfl, k7, k8⟩⟩
 ·rintro jx jy ⟨jz, rfl, k0, k1, jv⟩; subst jv; have hr := jw; (try dsimp only at hr); refine then_n (sr (asg (rv (vb false)) (nn (W_ret ?_)))); obtain rfl := Option.some.inj hr; exact done1 (Or.inl rfl) Try.results62 rfl ⟨_, _, rfl, rfl, k0, Vbool⟩

theorem dead_run_can_2_ok (N : Nat) (s0 : St) (w0 : Value) (a0 : Ref Run) (h0 : Ptr s0 w0 a0) (w1 : Value) (a1 : Int) (h1 : Ptr s0 w1 a1) (w2 : Value) (a2 : Int) (h2 : Ptr s0 w2 a2) (r : Bool) (hr : dead_run_can_2 N a0 a1 a2 = some r) :
    Calls Try.prog 61 #[w0, w1, w2] s0.w (Ret s0 fun v s => V s v r) := by
 unfold dead_run_can_2 at hr
 have j0 := Ext.refl s0
 refine Calls_of (n := 8) (args := [w0, w1, w2]) Try.func61 rfl rfl (by simp) (sr (asg (rv (vb false)) (nn (sr (ld ty67 (rv w0) h0 (fun j1 j2 => li ty3 (rv w1) h1 (li ty3 (rv w2) h2 ?_)))))))
 obtain ⟨j3, j4, hr⟩ := bind_some hr
 refine L_calls cal62 (args3 (rv j1) (rv (vi a1)) (rv (vi a2))) (dead_run_received_ok N _ _ _ j2.toPtr a1 a2 j3 j4) (by decide) (fun j5 j6 j7 j8 => ?_)
 have j9 := Tch.ext j0 j7
 obtain rfl := j8.bool
 refine asg (rv (vb j3)) (nn (W_ret ?_))
 obtain rfl := Option.some.inj hr
 exact done1 (Or.inl rfl) Try.results61 rfl ⟨_, _, rfl, rfl, j9, Vbool⟩

theorem dead_run_meetings_1_ok (N : Nat) (s0 : St) (w0 : Value) (a0 : Deed) (h0 : V s0 w0 a0) (r : Bool) (hr : dead_run_meetings_1 N a0 = some r) :
    Calls Try.prog 87 #[w0] s0.w (Ret s0 fun v s => V s v r) := by
 unfold dead_run_meetings_1 at hr
 have j0 := Ext.refl s0
 refine Calls_of (n := 6) (args := [w0]) Try.func87 rfl rfl (by simp) (sr (L_box (rv w0) h0 (by decide) (fun j1 j2 j3 j4 => ?_)))
 have j5 := Tch.ext j0 j3
 refine asg (rv (vb false)) (nn (sr (fa fld64_0 Deed.of_Kind (rv j2) j4 (fun j6 j7 => li ty3 (rv j6) j7 (el (rv (vi (a0.Kind))) (rv (vi 6)) (asg (rv (vb (decide (a0.Kind = 6)))) (nn (W_ret ?_))))))))
 obtain rfl := Option.some.inj hr
 exact done1 (Or.inl rfl) Try.results87 rfl ⟨_, _, rfl, rfl, j5, Vbool⟩

theorem dead_run_meetings_ok (N : Nat) (s0 : St) (w0 : Value) (a0 : Run) (h0 : Ptr s0 w0 a0) (a1 : Int) (r : Int) (hr : dead_run_meetings N a0 a1 = some r) :
    Calls Try.prog 76 #[w0, .int .i64 a1] s0.w (Ret s0 fun v s => V s v r) := by
 unfold dead_run_meetings at hr
 have j0 := Ext.refl s0
 refine Calls_of (n := 9) (args := [w0, .int .i64 a1]) Try.func76 rfl rfl (by simp) (sr (asg (rv (vi 0)) (nn (sr (mv (rv w0) (mv (rv (vi a1)) ?_))))))
 obtain ⟨j1, j2, hr⟩ := bind_some hr
 refine L_calls cal86 (args2 (rv w0) (rv (vi a1))) (dead_run_begun_ok N _ _ _ h0 a1 j1 j2) (by decide) (fun j3 j4 j5 j6 => ?_)
 have j7 := Tch.ext j0 j5
 obtain ⟨j8, j9, hr⟩ := bind_some hr
 refine L_calls cal79 (args2 (rv j3) (rv (Value.func (.func 87) #[] #[]))) (dead_count_lang_Deed_ok N _ _ _ j6 _ (fun x => dead_run_meetings_1 N x ) (Fn1.mk0 cal87 fun t vx x r hl hv hr => dead_run_meetings_1_ok N t vx x hv  r hr) j8 j9) (by decide) (fun ja jb jc jd => ?_)
 have je := Tch.ext j7 jc
 obtain rfl := jd.int
 refine asg (rv (vi j8)) (nn (W_ret ?_))
 obtain rfl := Option.some.inj hr
 exact done1 (Or.inl rfl) Try.results76 rfl ⟨_, _, rfl, rfl, je, Vint⟩

theorem dead_run_late_ok (N : Nat) (s0 : St) (w0 : Value) (a0 : Run) (h0 : Ptr s0 w0 a0) (a1 : Int) (r : (List Int)) (hr : dead_run_late N a0 a1 = some r) :
    Calls Try.prog 51 #[w0, .int .i64 a1] s0.w (Ret s0 fun v s => V s v r) := by
 unfold dead_run_late at hr
 have j0 := Ext.refl s0
 refine Calls_of (n := 28) (args := [w0, .int .i64 a1]) Try.func51 rfl rfl (by simp) (sr (asg (rv (Value.slice none 0 0)) (nn (sr (asg (rv (Value.slice none 0 0)) (nn (W_seq (sr (mv (rv w0) (L_nilCheck_ptr (rv w0) h0 (by decide) (fa fld72_0 Run.of_c (rv w0) h0 (fun j1 j2 => ld ty29 (rv j1) j2 (fun j3 j4 => ln Try.underlying29 (rv j3) j4 ?_)))))))))))))
 refine mv (rv (vi 0)) (nn ?_)
 obtain ⟨j5, j6, j7⟩ := bind_some hr
 refine W_cut (fun f w => ∃ (s : St) (j8 : Value) (j9 : List Int), s.w = w ∧ Ext s0 s ∧ Le s0 s ∧ j9 = j5 ∧ f 5 = j8 ∧ Bld s s0.w.heap.size 3 j8 j9) ?_ ?_
 ·refine W_block (W_loop (fun m f w => ∃ (s : St) (ja : Value) (jb : List Int) (jc : Int), s.w = w ∧ Ext s0 s ∧ Le s0 s ∧ dead_run_late_l1 N a0 a1 m jb jc = some j5 ∧ f 5 = ja ∧ Bld s s0.w.heap.size 3 ja jb ∧ f 12 = vi jc ∧ f 0 = w0 ∧ f 1 = vi (a1) ∧ f 11 = vi ((a0.c.length : Int))) N ⟨s0, (Value.slice none 0 0), ([]), 0, rfl, j0, (Le.refl _), j6, rfl, Bld.nil, rfl, rfl, rfl, rfl⟩ ?_)
  rintro jd je jf ⟨jg, ja, jb, jc, rfl, jh, ji, hr, jj, jk, jl, jm, jn, jo⟩
  cases jd with
  | zero => exact absurd hr (by simp [dead_run_late_l1])
  | succ jd =>
   rw [dead_run_late_l1.eq_2] at hr
   refine sr (ls jl jo (nn (W_seq ?_)))
   refine W_cond _ (rv (vb (decide (jc < (a0.c.length : Int))))) (fun jp => ?_) (fun jp => ?_)
   ·have hr := ite_t jp hr
    refine W_skip (then_n (W_seq (W_block (sr (mv jl (asg (rv (vi jc)) (nn (sr (mv jm (mv (rv (vi jc)) ?_))))))))))
    obtain ⟨jq, jr, hr⟩ := bind_some hr
    refine L_calls cal76 (args2 (rv w0) (rv (vi jc))) (dead_run_meetings_ok N _ _ _ (h0.mono ji) jc jq jr) (by decide) (fun js jt ju jv => ?_)
    have jw := Tch.ext jh ju
    obtain rfl := jv.int
    refine mv jm (mv jn ?_)
    obtain ⟨jx, jy, hr⟩ := bind_some hr
    refine L_calls cal76 (args2 (rv w0) (rv (vi a1))) (dead_run_meetings_ok N _ _ _ (h0.mono (ji.trans ju.le)) a1 jx jy) (by decide) (fun jz k0 k1 k2 => ?_)
    have k3 := Tch.ext jw k1
    obtain rfl := k2.int
    refine ls (rv (vi jq)) (rv (vi jx)) (nn ?_)
    refine W_cond _ (rv (vb (decide (jq < jx)))) (fun k4 => ?_) (fun k4 => ?_)
    ·have hr := ite_t k4 hr; refine W_region (mv jj (mv (rv (vi jc)) (L_buildSlice (xs := ([jc] : List Int)) Try.underlying23 tyz3 (Parts_cons rfl (rv (vi jc)) Parts_nil) (Vs.cons Vint Vs.nil) rfl (by decide) (by decide) (fun k5 k6 k7 k8 k9 => ?_)))); have ka := Tch.ext k3 k7; obtain ⟨kb, hr⟩ := chk_some hr; refine L_append (xs := jb) (B := s0.w.heap.size) Try.underlying23 tyz3 (rv ja) (rv k6) ((((jk).ext ju).ext k1).ext k7) (ka.size) k9 kb.1 kb.2 (by decide) (fun kc kd ke => ?_); have kf := ke.tchM ((((jk).ext ju).ext k1).ext k7) ka (Nat.le_refl _); refine asg (rv kc) (L_nil (block_n (then_n (W_region ?_)))); obtain ⟨kg, hr⟩ := chk_some hr; exact ad jl (rv (vi 1)) kg (mv (rv (vi (jc + 1))) (nn ⟨jd, Nat.lt_succ_self _, ⟨kd, kc, (jb ++ ([jc] : List Int)), (jc + 1), rfl, kf, (ji.trans (ju.le.trans (k1.le.trans (k7.le.trans ke.tch.le)))), hr, rfl, ke.bld, rfl, jm, jn, jo⟩⟩))
    ·have hr := ite_f k4 hr; refine W_skip (block_n (then_n (W_region ?_))); obtain ⟨k5, hr⟩ := chk_some hr; exact ad jl (rv (vi 1)) k5 (mv (rv (vi (jc + 1))) (nn ⟨jd, Nat.lt_succ_self _, ⟨k0, ja, jb, (jc + 1), rfl, k3, (ji.trans (ju.le.trans k1.le)), hr, jj, ((jk).ext ju).ext k1, rfl, jm, jn, jo⟩⟩))
   ·have hr := ite_f jp hr; refine W_exit (then_x (then_x (block_here ?_))); exact then_n ⟨jg, ja, jb, rfl, jh, ji, Option.some.inj hr, jj, jk⟩
 ·rintro ja jb ⟨jc, j8, j9, rfl, jd, je, j6, jf, jg⟩; subst j6; have hr := j7; (try dsimp only at hr); refine then_n (sr (mv jf (asg (rv j8) (nn (W_ret ?_))))); obtain rfl := Option.some.inj hr; exact done1 (Or.inl rfl) Try.results51 rfl ⟨_, _, rfl, rfl, jd, (jg).toV⟩

theorem dead_run_can_3_ok (N : Nat) (s0 : St) (w0 : Value) (a0 : Ref Run) (h0 : Ptr s0 w0 a0) (w1 : Value) (a1 : Int) (h1 : Ptr s0 w1 a1) (r : Bool) (hr : dead_run_can_3 N a0 a1 = some r) :
    Calls Try.prog 63 #[w0, w1] s0.w (Ret s0 fun v s => V s v r) := by
 unfold dead_run_can_3 at hr
 have j0 := Ext.refl s0
 refine Calls_of (n := 8) (args := [w0, w1]) Try.func63 rfl rfl (by simp) (sr (asg (rv (vb false)) (nn (sr (ld ty67 (rv w0) h0 (fun j1 j2 => li ty3 (rv w1) h1 ?_))))))
 obtain ⟨j3, j4, hr⟩ := bind_some hr
 refine L_calls cal51 (args2 (rv j1) (rv (vi a1))) (dead_run_late_ok N _ _ _ j2.toPtr a1 j3 j4) (by decide) (fun j5 j6 j7 j8 => ?_)
 have j9 := Tch.ext j0 j7
 refine ln Try.underlying23 (rv j5) j8 (el (rv (vi ((j3.length : Int)))) (rv (vi 0)) (asg (rv (vb (decide ((j3.length : Int) = 0)))) (nn (W_ret ?_))))
 obtain rfl := Option.some.inj hr
 exact done1 (Or.inl rfl) Try.results63 rfl ⟨_, _, rfl, rfl, j9, Vbool⟩

theorem dead_run_request_1_ok (N : Nat) (s0 : St) (w0 : Value) (a0 : Deed) (h0 : V s0 w0 a0) (w1 : Value) (a1 : Int) (h1 : Ptr s0 w1 a1) (r : Bool) (hr : dead_run_request_1 N a0 a1 = some r) :
    Calls Try.prog 74 #[w0, w1] s0.w (Ret s0 fun v s => V s v r) := by
 unfold dead_run_request_1 at hr
 have j0 := Ext.refl s0
 refine Calls_of (n := 12) (args := [w0, w1]) Try.func74 rfl rfl (by simp) (sr (L_box (rv w0) h0 (by decide) (fun j1 j2 j3 j4 => ?_)))
 have j5 := Tch.ext j0 j3
 refine asg (rv (vb false)) (nn (sr (ld ty64 (rv j2) j4 (fun j6 j7 => ?_))))
 obtain ⟨j8, j9, hr⟩ := bind_some hr
 refine L_calls cal75 (args1 (rv j6)) (dead_begins_ok N _ _ _ j7 j8 j9) (by decide) (fun ja jb jc jd => ?_)
 have je := Tch.ext j5 jc
 obtain rfl := jd.bool
 refine mv (rv (vb j8)) ?_
 rcases tf (j8) with jf | jf
 ·have hr := ite_t jf hr; refine gt 6 (rv (vb j8)) jf (fa fld64_3 Deed.of_Req (rv j2) (j4.mono jc.le) (fun jg jh => gt 6 (rv (vb j8)) jf (li ty3 (rv jg) jh (gt 6 (rv (vb j8)) jf (li ty3 (rv w1) (h1.mono (j3.le.trans jc.le)) (gt 6 (rv (vb j8)) jf (el (rv (vi (a0.Req))) (rv (vi a1)) (pt (rv (vb j8)) jf (rv (vb (decide (a0.Req = a1)))) (asg (rv (vb (decide (a0.Req = a1)))) (nn (W_ret ?_))))))))))); obtain rfl := Option.some.inj hr; exact done1 (Or.inl rfl) Try.results74 rfl ⟨_, _, rfl, rfl, je, Vbool⟩
 ·have hr := ite_f jf hr; refine gf 6 (rv (vb j8)) jf (gf 6 (rv (vb j8)) jf (gf 6 (rv (vb j8)) jf (gf 6 (rv (vb j8)) jf (pf (rv (vb j8)) jf (rv (vb false)) (asg (rv (vb false)) (nn (W_ret ?_))))))); obtain rfl := Option.some.inj hr; exact done1 (Or.inl rfl) Try.results74 rfl ⟨_, _, rfl, rfl, je, Vbool⟩

theorem dead_run_request_ok (N : Nat) (s0 : St) (w0 : Value) (a0 : Run) (h0 : Ptr s0 w0 a0) (a1 : Int) (a2 : Int) (r : Int) (hr : dead_run_request N a0 a1 a2 = some r) :
    Calls Try.prog 50 #[w0, .int .i64 a1, .int .i64 a2] s0.w (Ret s0 fun v s => V s v r) := by
 unfold dead_run_request at hr
 have j0 := Ext.refl s0
 refine Calls_of (n := 16) (args := [w0, .int .i64 a1, .int .i64 a2]) Try.func50 rfl rfl (by simp) (sr (L_box (rv (vi a2)) Vint (by decide) (fun j1 j2 j3 j4 => ?_)))
 have j5 := Tch.ext j0 j3
 refine asg (rv (vi 0)) (nn (sr (mv (rv w0) (L_nilCheck_ptr (rv w0) (h0.mono j3.le) (by decide) (fa fld72_0 Run.of_c (rv w0) (h0.mono j3.le) (fun j6 j7 => ld ty29 (rv j6) j7 (fun j8 j9 => mv (rv (vi a1)) ?_)))))))
 obtain ⟨ja, jb, hr⟩ := bind_some hr
 refine ix Try.underlying29 ty59.inf (rv j8) j9 (rv (vi a1)) jb (fun jc jd => ld ty59 (rv jc) jd (fun je jf => L_makeFunc (args1 (rv j2)) (by decide) ?_))
 obtain ⟨jg, jh, hr⟩ := bind_some hr
 refine L_calls cal71 (args2 (rv je) (rv (Value.func (.func 74) #[] #[j2]))) (slices_IndexFunc_Llang_Deed_lang_Deed_ok N _ _ _ jf _ (fun x => dead_run_request_1 N x a2) (Fn1.mk1 cal74 fun t vx x r hl hv hr => dead_run_request_1_ok N t vx x hv _ _ ((j4).mono hl) r hr) jg jh) (by decide) (fun ji jj jk jl => ?_)
 have jm := Tch.ext j5 jk
 obtain rfl := jl.int
 refine asg (rv (vi jg)) (nn (W_ret ?_))
 obtain rfl := Option.some.inj hr
 exact done1 (Or.inl rfl) Try.results50 rfl ⟨_, _, rfl, rfl, jm, Vint⟩

end Go.Arm
