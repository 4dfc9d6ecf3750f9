/- Each function of the program computes what its plain function says. -/
import Derived.Test.YtmojccilbgjngaaPureT3
import Derived.Test.YtmojccilbgjngaaCoreM
namespace Go.Arm
open Go Go.RowKit Go.Proofs
theorem law08_few_ok (N : Nat) (s0 : St) (w0 : Value) (a0 : List (List Deed)) (h0 : V s0 w0 a0) (r : Bool) (hr : law08_few N a0 = some r) :
    Calls Try.prog 9 #[w0] s0.w (Ret s0 fun v s => V s v r) := by
 unfold law08_few at hr
 have j0 := Ext.refl s0
 refine Calls_of (n := 45) (args := [w0]) Try.func9 rfl rfl (by simp) (sr (asg (rfl : _ = Value.bool (false)) (nn (W_seq ?_))))
 obtain ⟨j1, j2, j3⟩ := bind_some hr
 refine W_seq_cut (fun f w => ∃ (s : St) (j4 : Bool), s.w = w ∧ Ext s0 s ∧ Le s0 s ∧ j4 = j1 ∧ f 16 = Value.bool j4 ∧ f 0 = w0) ?_ ?_
 ·have hr := j2
  refine W_region (mv (rfl : _ = w0) (L_len Try.underlying22 (rfl : _ = w0) h0 (by decide) (L_gtr (rfl : _ = Value.int .i64 ((a0.length : Int))) (rfl : _ = Value.int .i64 (80)) (by decide) (mv (rfl : _ = Value.bool (decide (80 < (a0.length : Int)))) ?_))))
  rcases Bool.eq_false_or_eq_true (decide (80 < (a0.length : Int))) with j5 | j5
  ·have hr := ite_t j5 hr; exact gf 7 (rfl : _ = Value.bool (decide (80 < (a0.length : Int)))) j5 (gf 7 (rfl : _ = Value.bool (decide (80 < (a0.length : Int)))) j5 (gf 7 (rfl : _ = Value.bool (decide (80 < (a0.length : Int)))) j5 (gf 7 (rfl : _ = Value.bool (decide (80 < (a0.length : Int)))) j5 (L_gu (e := 11) (by rfl) (rfl : _ = undef) (by decide) (L_gu (e := 11) (by rfl) (rfl : _ = undef) (by decide) (L_gu (e := 11) (by rfl) (rfl : _ = undef) (by decide) (gf 7 (rfl : _ = Value.bool (decide (80 < (a0.length : Int)))) j5 (pt (rfl : _ = Value.bool (decide (80 < (a0.length : Int)))) j5 (rfl : _ = Value.bool (true)) (nn ⟨s0, true, rfl, j0, (Le.refl _), Option.some.inj hr, rfl, rfl⟩)))))))))
  ·have hr := ite_f j5 hr
   refine gt 7 (rfl : _ = Value.bool (decide (80 < (a0.length : Int)))) j5 (mv (rfl : _ = w0) (gt 7 (rfl : _ = Value.bool (decide (80 < (a0.length : Int)))) j5 (L_len Try.underlying22 (rfl : _ = w0) h0 (by decide) (gt 7 (rfl : _ = Value.bool (decide (80 < (a0.length : Int)))) j5 (L_gtr (rfl : _ = Value.int .i64 ((a0.length : Int))) (rfl : _ = Value.int .i64 (6)) (by decide) (gt 7 (rfl : _ = Value.bool (decide (80 < (a0.length : Int)))) j5 (mv (rfl : _ = Value.bool (decide (6 < (a0.length : Int)))) ?_)))))))
   rcases Bool.eq_false_or_eq_true (decide (6 < (a0.length : Int))) with j6 | j6
   ·have hr := ite_t j6 hr; exact gt 11 (rfl : _ = Value.bool (decide (6 < (a0.length : Int)))) j6 (mv (rfl : _ = w0) (gt 11 (rfl : _ = Value.bool (decide (6 < (a0.length : Int)))) j6 (L_len Try.underlying22 (rfl : _ = w0) h0 (by decide) (gt 11 (rfl : _ = Value.bool (decide (6 < (a0.length : Int)))) j6 (L_leq (rfl : _ = Value.int .i64 ((a0.length : Int))) (rfl : _ = Value.int .i64 (64)) (by decide) (gt 7 (rfl : _ = Value.bool (decide (80 < (a0.length : Int)))) j5 (pt (rfl : _ = Value.bool (decide (6 < (a0.length : Int)))) j6 (rfl : _ = Value.bool (decide ((a0.length : Int) ≤ 64))) (pf (rfl : _ = Value.bool (decide (80 < (a0.length : Int)))) j5 (rfl : _ = Value.bool (decide ((a0.length : Int) ≤ 64))) (nn ⟨s0, (decide ((a0.length : Int) ≤ 64)), rfl, j0, (Le.refl _), Option.some.inj hr, rfl, rfl⟩)))))))))
   ·have hr := ite_f j6 hr; exact gf 11 (rfl : _ = Value.bool (decide (6 < (a0.length : Int)))) j6 (gf 11 (rfl : _ = Value.bool (decide (6 < (a0.length : Int)))) j6 (gf 11 (rfl : _ = Value.bool (decide (6 < (a0.length : Int)))) j6 (gt 7 (rfl : _ = Value.bool (decide (80 < (a0.length : Int)))) j5 (pf (rfl : _ = Value.bool (decide (6 < (a0.length : Int)))) j6 (rfl : _ = Value.bool (false)) (pf (rfl : _ = Value.bool (decide (80 < (a0.length : Int)))) j5 (rfl : _ = Value.bool (false)) (nn ⟨s0, false, rfl, j0, (Le.refl _), Option.some.inj hr, rfl, rfl⟩))))))
 ·rintro j5 j6 ⟨j7, j4, rfl, j8, j9, j2, ja, jb⟩
  subst j2
  have hr := j3
  try dsimp only at hr
  refine W_cond _ ja (fun jc => ?_) (fun jc => ?_)
  ·have hr := ite_t jc hr; refine sr (asg (rfl : _ = Value.bool (false)) (nn (W_ret (then_r ?_)))); obtain rfl := Option.some.inj hr; exact done1 (Or.inl rfl) Try.results9 rfl ⟨_, _, rfl, rfl, j8, Vbool⟩
  ·have hr := ite_f jc hr
   refine W_skip (then_n (W_seq (sr (asg (rfl : _ = Value.int .i64 (0)) (nn ?_)))))
   obtain ⟨jd, je, jf⟩ := bind_some hr
   refine W_cut (fun f w => ∃ (s : St), s.w = w ∧ Ext s0 s ∧ Le j7 s ∧ Sum.inl () = jd) ?_ ?_
   ·refine W_block (W_loop (fun m f w => ∃ (s : St) (jg : Int), s.w = w ∧ Ext s0 s ∧ Le j7 s ∧ law08_few_l1 N a0 m jg = some jd ∧ f 3 = Value.int .i64 jg ∧ f 0 = w0) N ⟨j7, 0, rfl, j8, (Le.refl _), je, rfl, jb⟩ ?_)
    rintro jh ji jj ⟨jk, jg, rfl, jl, jm, hr, jn, jo⟩
    cases jh with
    | zero => exact absurd hr (by simp [law08_few_l1])
    | succ jh =>
     rw [law08_few_l1.eq_2] at hr
     refine W_seq (sr (mv jn (mv jo (L_len Try.underlying22 (rfl : _ = w0) (h0.mono (j9.trans jm)) (by decide) (L_lss (rfl : _ = Value.int .i64 (jg)) (rfl : _ = Value.int .i64 ((a0.length : Int))) (by decide) (nn ?_))))))
     refine W_cond _ (rfl : _ = Value.bool (decide (jg < (a0.length : Int)))) (fun jp => ?_) (fun jp => ?_)
     ·have hr := ite_t jp hr
      refine W_skip (then_n (W_seq (W_block ?_)))
      obtain ⟨jq, jr, js⟩ := bind_some hr
      refine W_seq_cut (fun f w => ∃ (s : St) (jt : Bool), s.w = w ∧ Ext s0 s ∧ Le jk s ∧ jt = jq ∧ f 44 = Value.bool jt ∧ f 0 = w0 ∧ f 3 = Value.int .i64 (jg)) ?_ ?_
      ·have hr := jr
       refine W_region (mv jo (mv jn ?_))
       obtain ⟨ju, jv, hr⟩ := bind_some hr
       refine L_index Try.underlying22 ty65.inf (rfl : _ = w0) (h0.mono (j9.trans jm)) (rfl : _ = Value.int .i64 (jg)) jv (by decide) (fun jw jx => L_load ty65 (rfl : _ = jw) jx (by decide) (fun jy jz => L_len Try.underlying65 (rfl : _ = jy) jz (by decide) (L_gtr (rfl : _ = Value.int .i64 ((ju.length : Int))) (rfl : _ = Value.int .i64 (14)) (by decide) (mv (rfl : _ = Value.bool (decide (14 < (ju.length : Int)))) ?_))))
       rcases Bool.eq_false_or_eq_true (decide (14 < (ju.length : Int))) with k0 | k0
       ·have hr := ite_t k0 hr
        refine gt 29 (rfl : _ = Value.bool (decide (14 < (ju.length : Int)))) k0 (mv jo (gt 29 (rfl : _ = Value.bool (decide (14 < (ju.length : Int)))) k0 (mv jn (gt 29 (rfl : _ = Value.bool (decide (14 < (ju.length : Int)))) k0 ?_))))
        obtain ⟨k1, k2, hr⟩ := bind_some hr
        refine L_index Try.underlying22 ty65.inf (rfl : _ = w0) (h0.mono (j9.trans jm)) (rfl : _ = Value.int .i64 (jg)) k2 (by decide) (fun k3 k4 => gt 29 (rfl : _ = Value.bool (decide (14 < (ju.length : Int)))) k0 (L_load ty65 (rfl : _ = k3) k4 (by decide) (fun k5 k6 => gt 29 (rfl : _ = Value.bool (decide (14 < (ju.length : Int)))) k0 (L_len Try.underlying65 (rfl : _ = k5) k6 (by decide) (gt 29 (rfl : _ = Value.bool (decide (14 < (ju.length : Int)))) k0 (L_leq (rfl : _ = Value.int .i64 ((k1.length : Int))) (rfl : _ = Value.int .i64 (200)) (by decide) (pt (rfl : _ = Value.bool (decide (14 < (ju.length : Int)))) k0 (rfl : _ = Value.bool (decide ((k1.length : Int) ≤ 200))) (mv (rfl : _ = Value.bool (decide ((k1.length : Int) ≤ 200))) ?_))))))))
        rcases Bool.eq_false_or_eq_true (decide ((k1.length : Int) ≤ 200)) with k7 | k7
        ·have hr := ite_t k7 hr; exact gf 37 (rfl : _ = Value.bool (decide ((k1.length : Int) ≤ 200))) k7 (gf 37 (rfl : _ = Value.bool (decide ((k1.length : Int) ≤ 200))) k7 (gf 37 (rfl : _ = Value.bool (decide ((k1.length : Int) ≤ 200))) k7 (gf 37 (rfl : _ = Value.bool (decide ((k1.length : Int) ≤ 200))) k7 (gf 37 (rfl : _ = Value.bool (decide ((k1.length : Int) ≤ 200))) k7 (gf 37 (rfl : _ = Value.bool (decide ((k1.length : Int) ≤ 200))) k7 (pt (rfl : _ = Value.bool (decide ((k1.length : Int) ≤ 200))) k7 (rfl : _ = Value.bool (true)) (nn ⟨jk, true, rfl, jl, (Le.refl _), Option.some.inj hr, rfl, jo, jn⟩)))))))
        ·have hr := ite_f k7 hr; refine gt 37 (rfl : _ = Value.bool (decide ((k1.length : Int) ≤ 200))) k7 (mv jo (gt 37 (rfl : _ = Value.bool (decide ((k1.length : Int) ≤ 200))) k7 (mv jn (gt 37 (rfl : _ = Value.bool (decide ((k1.length : Int) ≤ 200))) k7 ?_)))); obtain ⟨k8, k9, hr⟩ := bind_some hr; exact L_index Try.underlying22 ty65.inf (rfl : _ = w0) (h0.mono (j9.trans jm)) (rfl : _ = Value.int .i64 (jg)) k9 (by decide) (fun ka kb => gt 37 (rfl : _ = Value.bool (decide ((k1.length : Int) ≤ 200))) k7 (L_load ty65 (rfl : _ = ka) kb (by decide) (fun kc kd => gt 37 (rfl : _ = Value.bool (decide ((k1.length : Int) ≤ 200))) k7 (L_len Try.underlying65 (rfl : _ = kc) kd (by decide) (gt 37 (rfl : _ = Value.bool (decide ((k1.length : Int) ≤ 200))) k7 (L_gtr (rfl : _ = Value.int .i64 ((k8.length : Int))) (rfl : _ = Value.int .i64 (300)) (by decide) (pf (rfl : _ = Value.bool (decide ((k1.length : Int) ≤ 200))) k7 (rfl : _ = Value.bool (decide (300 < (k8.length : Int)))) (nn ⟨jk, (decide (300 < (k8.length : Int))), rfl, jl, (Le.refl _), Option.some.inj hr, rfl, jo, jn⟩))))))))
       ·have hr := ite_f k0 hr; refine gf 29 (rfl : _ = Value.bool (decide (14 < (ju.length : Int)))) k0 (gf 29 (rfl : _ = Value.bool (decide (14 < (ju.length : Int)))) k0 (gf 29 (rfl : _ = Value.bool (decide (14 < (ju.length : Int)))) k0 (gf 29 (rfl : _ = Value.bool (decide (14 < (ju.length : Int)))) k0 (gf 29 (rfl : _ = Value.bool (decide (14 < (ju.length : Int)))) k0 (gf 29 (rfl : _ = Value.bool (decide (14 < (ju.length : Int)))) k0 (pf (rfl : _ = Value.bool (decide (14 < (ju.length : Int)))) k0 (rfl : _ = Value.bool (false)) (mv (rfl : _ = Value.bool (false)) (gt 37 (rfl : _ = Value.bool (false)) rfl (mv jo (gt 37 (rfl : _ = Value.bool (false)) rfl (mv jn (gt 37 (rfl : _ = Value.bool (false)) rfl ?_)))))))))))); obtain ⟨k1, k2, hr⟩ := bind_some hr; exact L_index Try.underlying22 ty65.inf (rfl : _ = w0) (h0.mono (j9.trans jm)) (rfl : _ = Value.int .i64 (jg)) k2 (by decide) (fun k3 k4 => gt 37 (rfl : _ = Value.bool (false)) rfl (L_load ty65 (rfl : _ = k3) k4 (by decide) (fun k5 k6 => gt 37 (rfl : _ = Value.bool (false)) rfl (L_len Try.underlying65 (rfl : _ = k5) k6 (by decide) (gt 37 (rfl : _ = Value.bool (false)) rfl (L_gtr (rfl : _ = Value.int .i64 ((k1.length : Int))) (rfl : _ = Value.int .i64 (300)) (by decide) (pf (rfl : _ = Value.bool (false)) rfl (rfl : _ = Value.bool (decide (300 < (k1.length : Int)))) (nn ⟨jk, (decide (300 < (k1.length : Int))), rfl, jl, (Le.refl _), Option.some.inj hr, rfl, jo, jn⟩))))))))
      ·rintro ju jv ⟨jw, jt, rfl, jx, jy, jr, jz, k0, k1⟩
       subst jr
       have hr := js
       try dsimp only at hr
       refine W_cond _ jz (fun k2 => ?_) (fun k2 => ?_)
       ·have hr := ite_t k2 hr; refine sr (asg (rfl : _ = Value.bool (false)) (nn (W_ret (block_r (then_r (then_r (block_r ?_))))))); obtain rfl := Option.some.inj hr; have hr := jf; (try dsimp only at hr); refine then_r (then_r ?_); obtain rfl := Option.some.inj hr; exact done1 (Or.inl rfl) Try.results9 rfl ⟨_, _, rfl, rfl, jx, Vbool⟩
       ·have hr := ite_f k2 hr; refine W_skip (block_n (then_n (W_region (mv k1 ?_)))); obtain ⟨k3, hr⟩ := chk_some hr; exact L_add (rfl : _ = Value.int .i64 (jg)) (rfl : _ = Value.int .i64 (1)) k3 (by decide) (asg (rfl : _ = Value.int .i64 (jg + 1)) (nn ⟨jh, Nat.lt_succ_self _, ⟨jw, (jg + 1), rfl, jx, (jm.trans jy), hr, rfl, k0⟩⟩))
     ·have hr := ite_f jp hr; refine W_exit (then_x (then_x (block_here ?_))); exact then_n ⟨jk, rfl, jl, jm, Option.some.inj hr⟩
   ·rintro jg jh ⟨ji, rfl, jj, jk, je⟩; subst je; have hr := jf; (try dsimp only at hr); refine then_n (sr (asg (rfl : _ = Value.bool (true)) (nn (W_ret ?_)))); obtain rfl := Option.some.inj hr; exact done1 (Or.inl rfl) Try.results9 rfl ⟨_, _, rfl, rfl, jj, Vbool⟩

theorem dead_begins_ok (N : Nat) (s0 : St) (w0 : Value) (a0 : Deed) (h0 : V s0 w0 a0) (r : Bool) (hr : dead_begins N a0 = some r) :
    Calls Try.prog 75 #[w0] s0.w (Ret s0 fun v s => V s v r) := by
 unfold dead_begins at hr
 have j0 := Ext.refl s0
 refine Calls_of (n := 11) (args := [w0]) Try.func75 rfl rfl (by simp) (sr (L_box (rfl : _ = w0) h0 (by decide) (fun j1 j2 j3 j4 => ?_)))
 have j5 := Tch.ext j0 j3
 refine asg (rfl : _ = Value.bool (false)) (nn (sr (L_fieldAddr fld64_0 Deed.of_Kind (rfl : _ = j2) j4 (by decide) (fun j6 j7 => li ty3 (rfl : _ = j6) j7 (L_eql (rfl : _ = Value.int .i64 (a0.Kind)) (rfl : _ = Value.int .i64 (3)) (by decide) (mv (rfl : _ = Value.bool (decide (a0.Kind = 3))) ?_))))))
 rcases Bool.eq_false_or_eq_true (decide (a0.Kind = 3)) with j8 | j8
 ·have hr := ite_t j8 hr; refine gf 6 (rfl : _ = Value.bool (decide (a0.Kind = 3))) j8 (gf 6 (rfl : _ = Value.bool (decide (a0.Kind = 3))) j8 (gf 6 (rfl : _ = Value.bool (decide (a0.Kind = 3))) j8 (pt (rfl : _ = Value.bool (decide (a0.Kind = 3))) j8 (rfl : _ = Value.bool (true)) (asg (rfl : _ = Value.bool (true)) (nn (W_ret ?_)))))); obtain rfl := Option.some.inj hr; exact done1 (Or.inl rfl) Try.results75 rfl ⟨_, _, rfl, rfl, j5, Vbool⟩
 ·have hr := ite_f j8 hr; refine gt 6 (rfl : _ = Value.bool (decide (a0.Kind = 3))) j8 (L_fieldAddr fld64_0 Deed.of_Kind (rfl : _ = j2) j4 (by decide) (fun j9 ja => gt 6 (rfl : _ = Value.bool (decide (a0.Kind = 3))) j8 (li ty3 (rfl : _ = j9) ja (gt 6 (rfl : _ = Value.bool (decide (a0.Kind = 3))) j8 (L_eql (rfl : _ = Value.int .i64 (a0.Kind)) (rfl : _ = Value.int .i64 (4)) (by decide) (pf (rfl : _ = Value.bool (decide (a0.Kind = 3))) j8 (rfl : _ = Value.bool (decide (a0.Kind = 4))) (asg (rfl : _ = Value.bool (decide (a0.Kind = 4))) (nn (W_ret ?_))))))))); obtain rfl := Option.some.inj hr; exact done1 (Or.inl rfl) Try.results75 rfl ⟨_, _, rfl, rfl, j5, Vbool⟩

theorem dead_count_lang_Deed_ok (N : Nat) (s0 : St) (w0 : Value) (a0 : List Deed) (h0 : V s0 w0 a0) (w1 : Value) (a1 : Deed → Option Bool) (h1 : Fn1 Try.prog s0 w1 a1) (r : Int) (hr : dead_count_lang_Deed N a0 a1 = some r) :
    Calls Try.prog 79 #[w0, w1] s0.w (Ret s0 fun v s => V s v r) := by
 unfold dead_count_lang_Deed at hr
 have j0 := Ext.refl s0
 refine Calls_of (n := 21) (args := [w0, w1]) Try.func79 rfl rfl (by simp) (sr (asg (rfl : _ = Value.int .i64 (0)) (nn (sr (asg (rfl : _ = Value.int .i64 (0)) (nn (W_seq (sr (mv (rfl : _ = w0) (L_len Try.underlying59 (rfl : _ = w0) h0 (by decide) (mv (rfl : _ = Value.int .i64 (0)) (nn ?_))))))))))))
 obtain ⟨j1, j2, j3⟩ := bind_some hr
 refine W_cut (fun f w => ∃ (s : St) (j4 : Int), s.w = w ∧ Ext s0 s ∧ Le s0 s ∧ j4 = j1 ∧ f 5 = Value.int .i64 j4) ?_ ?_
 ·refine W_block (W_loop (fun m f w => ∃ (s : St) (j5 : Int) (j6 : Int), s.w = w ∧ Ext s0 s ∧ Le s0 s ∧ dead_count_lang_Deed_l1 N a0 a1 m j5 j6 = some j1 ∧ f 5 = Value.int .i64 j5 ∧ f 10 = Value.int .i64 j6 ∧ f 1 = w1 ∧ f 8 = w0 ∧ f 9 = Value.int .i64 ((a0.length : Int))) N ⟨s0, 0, 0, rfl, j0, (Le.refl _), j2, rfl, rfl, rfl, rfl, rfl⟩ ?_)
  rintro j7 j8 j9 ⟨ja, j5, j6, rfl, jb, jc, hr, jd, je, jf, jg, jh⟩
  cases j7 with
  | zero => exact absurd hr (by simp [dead_count_lang_Deed_l1])
  | succ j7 =>
   rw [dead_count_lang_Deed_l1.eq_2] at hr
   refine sr (L_lss je jh (by decide) (nn (W_seq ?_)))
   refine W_cond _ (rfl : _ = Value.bool (decide (j6 < (a0.length : Int)))) (fun ji => ?_) (fun ji => ?_)
   ·have hr := ite_t ji hr
    refine W_skip (then_n (W_seq (W_block (sr ?_))))
    obtain ⟨jj, jk, hr⟩ := bind_some hr
    refine L_index Try.underlying59 ty64.inf jg (h0.mono jc) je jk (by decide) (fun jl jm => L_load ty64 (rfl : _ = jl) jm (by decide) (fun jn jo => L_alloc (α := Deed) (x := ⟨0, 0, 0, 0, false⟩) zero64 Deed.zero_rel (by decide) (fun jp jq jr js jt => ?_)))
    have ju := Tch.ext jb jr
    refine L_store_ro ty64 (rfl : _ = Value.pointer (some ⟨jq, 0, none⟩)) (rfl : _ = jn) (jo.mono jr.le) (jt) (fun jv jw jx => ?_)
    have jy := Tch.trans ju jw (fun k hk => Or.inr (by subst hk; exact (Nat.le_trans jb.size js)))
    refine nn (sr (mv jf (L_load ty64 (rfl : _ = Value.pointer (some ⟨jq, 0, none⟩)) jx (by decide) (fun jz k0 => ?_))))
    obtain ⟨k1, k2, hr⟩ := bind_some hr
    refine L_call1 (rfl : _ = w1) (h1.mono (jc.trans (jr.le.trans jw.le))) (rfl : _ = jz) k0 k2 (by decide) (fun k3 k4 k5 k6 => ?_)
    have k7 := Tch.ext jy k5
    obtain rfl := k6.bool
    refine nn ?_
    refine W_cond _ (rfl : _ = Value.bool (k1)) (fun k8 => ?_) (fun k8 => ?_)
    ·have hr := ite_t k8 hr; refine W_region (mv jd ?_); obtain ⟨k9, hr⟩ := chk_some hr; refine L_add (rfl : _ = Value.int .i64 (j5)) (rfl : _ = Value.int .i64 (1)) k9 (by decide) (asg (rfl : _ = Value.int .i64 (j5 + 1)) (L_nil (block_n (then_n (W_region ?_))))); obtain ⟨ka, hr⟩ := chk_some hr; exact L_add je (rfl : _ = Value.int .i64 (1)) ka (by decide) (mv (rfl : _ = Value.int .i64 (j6 + 1)) (nn ⟨j7, Nat.lt_succ_self _, ⟨k4, (j5 + 1), (j6 + 1), rfl, k7, (jc.trans (jr.le.trans (jw.le.trans k5.le))), hr, rfl, rfl, jf, jg, jh⟩⟩))
    ·have hr := ite_f k8 hr; refine W_skip (block_n (then_n (W_region ?_))); obtain ⟨k9, hr⟩ := chk_some hr; exact L_add je (rfl : _ = Value.int .i64 (1)) k9 (by decide) (mv (rfl : _ = Value.int .i64 (j6 + 1)) (nn ⟨j7, Nat.lt_succ_self _, ⟨k4, j5, (j6 + 1), rfl, k7, (jc.trans (jr.le.trans (jw.le.trans k5.le))), hr, jd, rfl, jf, jg, jh⟩⟩))
   ·have hr := ite_f ji hr; refine W_exit (then_x (then_x (block_here ?_))); exact then_n ⟨ja, j5, rfl, jb, jc, Option.some.inj hr, jd⟩
 ·rintro j5 j6 ⟨j7, j4, rfl, j8, j9, j2, ja⟩; subst j2; have hr := j3; (try dsimp only at hr); refine then_n (sr (mv ja (asg (rfl : _ = Value.int .i64 (j4)) (nn (W_ret ?_))))); obtain rfl := Option.some.inj hr; exact done1 (Or.inl rfl) Try.results79 rfl ⟨_, _, rfl, rfl, j8, Vint⟩

theorem slices_Index_Llang_Deed_lang_Deed_ok (N : Nat) (s0 : St) (w0 : Value) (a0 : List Deed) (h0 : V s0 w0 a0) (w1 : Value) (a1 : Deed) (h1 : V s0 w1 a1) (r : Int) (hr : slices_Index_Llang_Deed_lang_Deed N a0 a1 = some r) :
    Calls Try.prog 88 #[w0, w1] s0.w (Ret s0 fun v s => V s v r) := by
 unfold slices_Index_Llang_Deed_lang_Deed at hr
 have j0 := Ext.refl s0
 refine Calls_of (n := 19) (args := [w0, w1]) Try.func88 rfl rfl (by simp) (sr (L_box (rfl : _ = w1) h1 (by decide) (fun j1 j2 j3 j4 => ?_)))
 have j5 := Tch.ext j0 j3
 refine asg (rfl : _ = Value.int .i64 (0)) (nn (W_seq (sr (mv (rfl : _ = w0) (L_len Try.underlying59 (rfl : _ = w0) (h0.mono j3.le) (by decide) (mv (rfl : _ = Value.int .i64 (0)) (nn ?_)))))))
 obtain ⟨j6, j7, j8⟩ := bind_some hr
 refine W_cut (fun f w => ∃ (s : St), s.w = w ∧ Ext s0 s ∧ Le j1 s ∧ Sum.inl () = j6) ?_ ?_
 ·refine W_block (W_loop (fun m f w => ∃ (s : St) (j9 : Int), s.w = w ∧ Ext s0 s ∧ Le j1 s ∧ slices_Index_Llang_Deed_lang_Deed_l1 N a0 a1 m j9 = some j6 ∧ f 8 = Value.int .i64 j9 ∧ f 0 = w0 ∧ f 3 = j2 ∧ f 7 = Value.int .i64 ((a0.length : Int))) N ⟨j1, 0, rfl, j5, (Le.refl _), j7, rfl, rfl, rfl, rfl⟩ ?_)
  rintro ja jb jc ⟨jd, j9, rfl, je, jf, hr, jg, jh, ji, jj⟩
  cases ja with
  | zero => exact absurd hr (by simp [slices_Index_Llang_Deed_lang_Deed_l1])
  | succ ja =>
   rw [slices_Index_Llang_Deed_lang_Deed_l1.eq_2] at hr
   refine sr (L_lss jg jj (by decide) (nn (W_seq ?_)))
   refine W_cond _ (rfl : _ = Value.bool (decide (j9 < (a0.length : Int)))) (fun jk => ?_) (fun jk => ?_)
   ·have hr := ite_t jk hr
    refine W_skip (then_n (W_seq (W_block (sr (mv jg (asg (rfl : _ = Value.int .i64 (j9)) (nn (W_seq ?_))))))))
    obtain ⟨jl, jm, hr⟩ := bind_some hr
    refine W_draws mixed (by kernel_rfl) [PV.data (a1 : Deed), PV.data (a0 : List Deed), PV.eq (Value.int .i64 (j9)), PV.ptr (jl : Deed), PV.data (jl : Deed), PV.eq (Value.bool (decide (a1 = jl)))] (Steps_cons ?_ (Steps_cons ?_ (Steps_cons ?_ (Steps_cons ?_ (Steps_cons ?_ (Steps_cons ?_ Steps_nil)))))) ?_
    ·intro jn jo jp jq jr Q js; have jt : jn 3 = j2 := (jr 3 (by kernel_rfl)).trans ji; exact L_load ty64 jt (j4.mono (jf.trans jp.le)) (by decide) (fun ju jv => fin js jv)
    ·intro jn jo jp jq jr Q js; have jt : jn 0 = w0 := (jr 0 (by kernel_rfl)).trans jh; exact mv jt (fin js (h0.mono (j3.le.trans (jf.trans jp.le))))
    ·intro jn jo jp jq jr Q js; have jt : jn 5 = Value.int .i64 (j9) := (jr 5 (by kernel_rfl)).trans rfl; exact mv jt (fin js rfl)
    ·intro jn jo jp jq jr Q js; have jt : V _ (jn 12) (a0 : List Deed) := jq 1 12 (by kernel_rfl) (by kernel_rfl); obtain ⟨ju, jv, jw⟩ : ∃ v, _ = v ∧ V _ v _ := ⟨_, rfl, jt⟩; have jx : jn 13 = Value.int .i64 (j9) := jq 2 13 (by kernel_rfl) (by kernel_rfl); exact L_index Try.underlying59 ty64.inf jv jw jx jm (by decide) (fun jy jz => fin js jz)
    ·intro jn jo jp jq jr Q js; have jt : Ptr _ (jn 14) (jl : Deed) := jq 3 14 (by kernel_rfl) (by kernel_rfl); obtain ⟨ju, jv, jw⟩ : ∃ v, _ = v ∧ Ptr _ v _ := ⟨_, rfl, jt⟩; exact L_load ty64 jv jw (by decide) (fun jx jy => fin js jy)
    ·intro jn jo jp jq jr Q js; have jt : V _ (jn 11) (a1 : Deed) := jq 0 11 (by kernel_rfl) (by kernel_rfl); obtain ⟨ju, jv, jw⟩ : ∃ v, _ = v ∧ V _ v _ := ⟨_, rfl, jt⟩; have jx : V _ (jn 15) (jl : Deed) := jq 4 15 (by kernel_rfl) (by kernel_rfl); obtain ⟨jy, jz, k0⟩ : ∃ v, _ = v ∧ V _ v _ := ⟨_, rfl, jx⟩; exact L_seq64 jv jw jz k0 (by decide) (fin js rfl)
    ·intro jn jo jp jq jr
     have js := Tch.ext je jp
     have jt : jn 0 = w0 := (jr 0 (by kernel_rfl)).trans jh
     have ju : jn 3 = j2 := (jr 3 (by kernel_rfl)).trans ji
     have jv : jn 5 = Value.int .i64 (j9) := (jr 5 (by kernel_rfl)).trans rfl
     have jw : jn 7 = Value.int .i64 ((a0.length : Int)) := (jr 7 (by kernel_rfl)).trans jj
     have jx : jn 8 = Value.int .i64 (j9) := (jr 8 (by kernel_rfl)).trans jg
     have jy : jn 16 = Value.bool (decide (a1 = jl)) := jq 5 16 (by kernel_rfl)
     refine then_n ?_
     refine W_cond _ jy (fun jz => ?_) (fun jz => ?_)
     ·have hr := ite_t jz hr; refine sr (mv jv (asg (rfl : _ = Value.int .i64 (j9)) (nn (W_ret (block_r (then_r (then_r (block_r ?_)))))))); obtain rfl := Option.some.inj hr; have hr := j8; (try dsimp only at hr); refine then_r (then_r ?_); obtain rfl := Option.some.inj hr; exact done1 (Or.inl rfl) Try.results88 rfl ⟨_, _, rfl, rfl, js, Vint⟩
     ·have hr := ite_f jz hr; refine W_skip (block_n (then_n (W_region ?_))); obtain ⟨k0, hr⟩ := chk_some hr; exact L_add jx (rfl : _ = Value.int .i64 (1)) k0 (by decide) (mv (rfl : _ = Value.int .i64 (j9 + 1)) (nn ⟨ja, Nat.lt_succ_self _, ⟨jo, (j9 + 1), rfl, js, (jf.trans jp.le), hr, rfl, jt, ju, jw⟩⟩))
   ·have hr := ite_f jk hr; refine W_exit (then_x (then_x (block_here ?_))); exact then_n ⟨jd, rfl, je, jf, Option.some.inj hr⟩
 ·rintro j9 ja ⟨jb, rfl, jc, jd, j7⟩; subst j7; have hr := j8; (try dsimp only at hr); refine then_n (sr (asg (rfl : _ = Value.int .i64 (-1)) (nn (W_ret ?_)))); obtain rfl := Option.some.inj hr; exact done1 (Or.inl rfl) Try.results88 rfl ⟨_, _, rfl, rfl, jc, Vint⟩

theorem slices_Contains_Llang_Deed_lang_Deed_ok (N : Nat) (s0 : St) (w0 : Value) (a0 : List Deed) (h0 : V s0 w0 a0) (w1 : Value) (a1 : Deed) (h1 : V s0 w1 a1) (r : Bool) (hr : slices_Contains_Llang_Deed_lang_Deed N a0 a1 = some r) :
    Calls Try.prog 80 #[w0, w1] s0.w (Ret s0 fun v s => V s v r) := by
 unfold slices_Contains_Llang_Deed_lang_Deed at hr
 have j0 := Ext.refl s0
 refine Calls_of (n := 9) (args := [w0, w1]) Try.func80 rfl rfl (by simp) (sr (L_box (rfl : _ = w1) h1 (by decide) (fun j1 j2 j3 j4 => ?_)))
 have j5 := Tch.ext j0 j3
 refine asg (rfl : _ = Value.bool (false)) (nn (sr (mv (rfl : _ = w0) (L_load ty64 (rfl : _ = j2) j4 (by decide) (fun j6 j7 => ?_)))))
 obtain ⟨j8, j9, hr⟩ := bind_some hr
 refine L_calls cal88 (args2 (rfl : _ = w0) (rfl : _ = j6)) (slices_Index_Llang_Deed_lang_Deed_ok N _ _ _ (h0.mono j3.le) _ _ j7 j8 j9) (by decide) (fun ja jb jc jd => ?_)
 have je := Tch.ext j5 jc
 obtain rfl := jd.int
 refine L_geq (rfl : _ = Value.int .i64 (j8)) (rfl : _ = Value.int .i64 (0)) (by decide) (asg (rfl : _ = Value.bool (decide (0 ≤ j8))) (nn (W_ret ?_)))
 obtain rfl := Option.some.inj hr
 exact done1 (Or.inl rfl) Try.results80 rfl ⟨_, _, rfl, rfl, je, Vbool⟩

set_option maxHeartbeats 2843000 in
theorem dead_formed_ok (N : Nat) (s0 : St) (w0 : Value) (a0 : Deed) (h0 : V s0 w0 a0) (w1 : Value) (a1 : List Deed) (h1 : V s0 w1 a1) (a2 : Int) (r : Bool) (hr : dead_formed N a0 a1 a2 = some r) :
    Calls Try.prog 58 #[w0, w1, .int .i64 a2] s0.w (Ret s0 fun v s => V s v r) := by
 unfold dead_formed at hr
 have j0 := Ext.refl s0
 refine Calls_of (n := 109) (args := [w0, w1, .int .i64 a2]) Try.func58 rfl rfl (by simp) (sr (L_box (rfl : _ = w0) h0 (by decide) (fun j1 j2 j3 j4 => ?_)))
 have j5 := Tch.ext j0 j3
 refine asg (rfl : _ = Value.bool (false)) (nn ?_)
 obtain ⟨j6, j7, j8⟩ := bind_some hr
 refine W_seq_cut (fun f w => ∃ (s : St) (j9 : Bool), s.w = w ∧ Ext s0 s ∧ Le j1 s ∧ j9 = j6 ∧ f 7 = Value.bool j9 ∧ f 1 = w1 ∧ f 2 = Value.int .i64 (a2) ∧ f 3 = j2) ?_ ?_
 ·have hr := j7
  refine W_region (L_fieldAddr fld64_2 Deed.of_Tag (rfl : _ = j2) j4 (by decide) (fun ja jb => li ty3 (rfl : _ = ja) jb (L_geq (rfl : _ = Value.int .i64 (a0.Tag)) (rfl : _ = Value.int .i64 (0)) (by decide) (mv (rfl : _ = Value.bool (decide (0 ≤ a0.Tag))) ?_))))
  rcases Bool.eq_false_or_eq_true (decide (0 ≤ a0.Tag)) with jc | jc
  ·have hr := ite_t jc hr; exact gt 14 (rfl : _ = Value.bool (decide (0 ≤ a0.Tag))) jc (L_fieldAddr fld64_2 Deed.of_Tag (rfl : _ = j2) j4 (by decide) (fun jd je => gt 14 (rfl : _ = Value.bool (decide (0 ≤ a0.Tag))) jc (li ty3 (rfl : _ = jd) je (gt 14 (rfl : _ = Value.bool (decide (0 ≤ a0.Tag))) jc (L_leq (rfl : _ = Value.int .i64 (a0.Tag)) (rfl : _ = Value.int .i64 (1048576)) (by decide) (pt (rfl : _ = Value.bool (decide (0 ≤ a0.Tag))) jc (rfl : _ = Value.bool (decide (a0.Tag ≤ 1048576))) (asg (rfl : _ = Value.bool (decide (a0.Tag ≤ 1048576))) (nn ⟨j1, (decide (a0.Tag ≤ 1048576)), rfl, j5, (Le.refl _), Option.some.inj hr, rfl, rfl, rfl, rfl⟩))))))))
  ·have hr := ite_f jc hr; exact gf 14 (rfl : _ = Value.bool (decide (0 ≤ a0.Tag))) jc (gf 14 (rfl : _ = Value.bool (decide (0 ≤ a0.Tag))) jc (gf 14 (rfl : _ = Value.bool (decide (0 ≤ a0.Tag))) jc (pf (rfl : _ = Value.bool (decide (0 ≤ a0.Tag))) jc (rfl : _ = Value.bool (false)) (asg (rfl : _ = Value.bool (false)) (nn ⟨j1, false, rfl, j5, (Le.refl _), Option.some.inj hr, rfl, rfl, rfl, rfl⟩)))))
 ·rintro ja jb ⟨jc, j9, rfl, jd, je, j7, jf, jg, jh, ji⟩
  subst j7
  have hr := j8
  try dsimp only at hr
  obtain ⟨jj, jk, jl⟩ := bind_some hr
  refine W_seq_cut (fun f w => ∃ (s : St) (jm : Bool), s.w = w ∧ Ext s0 s ∧ Le jc s ∧ jm = jj ∧ f 8 = Value.bool jm ∧ f 1 = w1 ∧ f 3 = j2 ∧ f 7 = Value.bool (j9)) ?_ ?_
  ·have hr := jk
   refine W_region (L_fieldAddr fld64_1 Deed.of_Peer ji (j4.mono je) (by decide) (fun jn jo => li ty3 (rfl : _ = jn) jo (L_geq (rfl : _ = Value.int .i64 (a0.Peer)) (rfl : _ = Value.int .i64 (0)) (by decide) (mv (rfl : _ = Value.bool (decide (0 ≤ a0.Peer))) ?_))))
   rcases Bool.eq_false_or_eq_true (decide (0 ≤ a0.Peer)) with jp | jp
   ·have hr := ite_t jp hr; exact gt 22 (rfl : _ = Value.bool (decide (0 ≤ a0.Peer))) jp (L_fieldAddr fld64_1 Deed.of_Peer ji (j4.mono je) (by decide) (fun jq jr => gt 22 (rfl : _ = Value.bool (decide (0 ≤ a0.Peer))) jp (li ty3 (rfl : _ = jq) jr (gt 22 (rfl : _ = Value.bool (decide (0 ≤ a0.Peer))) jp (mv jh (gt 22 (rfl : _ = Value.bool (decide (0 ≤ a0.Peer))) jp (L_lss (rfl : _ = Value.int .i64 (a0.Peer)) (rfl : _ = Value.int .i64 (a2)) (by decide) (pt (rfl : _ = Value.bool (decide (0 ≤ a0.Peer))) jp (rfl : _ = Value.bool (decide (a0.Peer < a2))) (asg (rfl : _ = Value.bool (decide (a0.Peer < a2))) (nn ⟨jc, (decide (a0.Peer < a2)), rfl, jd, (Le.refl _), Option.some.inj hr, rfl, jg, ji, jf⟩))))))))))
   ·have hr := ite_f jp hr; exact gf 22 (rfl : _ = Value.bool (decide (0 ≤ a0.Peer))) jp (gf 22 (rfl : _ = Value.bool (decide (0 ≤ a0.Peer))) jp (gf 22 (rfl : _ = Value.bool (decide (0 ≤ a0.Peer))) jp (gf 22 (rfl : _ = Value.bool (decide (0 ≤ a0.Peer))) jp (pf (rfl : _ = Value.bool (decide (0 ≤ a0.Peer))) jp (rfl : _ = Value.bool (false)) (asg (rfl : _ = Value.bool (false)) (nn ⟨jc, false, rfl, jd, (Le.refl _), Option.some.inj hr, rfl, jg, ji, jf⟩))))))
  ·rintro jn jo ⟨jp, jm, rfl, jq, jr, jk, js, jt, ju, jv⟩
   subst jk
   have hr := jl
   try dsimp only at hr
   refine sr (mv jt ?_)
   obtain ⟨jw, jx, hr⟩ := bind_some hr
   refine L_calls cal79 (args2 (rfl : _ = w1) (rfl : _ = Value.func (.func 75) #[] #[])) (dead_count_lang_Deed_ok N _ _ _ (h1.mono (j3.le.trans (je.trans jr))) _ (fun x => dead_begins N x ) (Fn1.mk0 cal75 fun t vx x r hl hv hr => dead_begins_ok N t vx x hv  r hr) jw jx) (by decide) (fun jy jz k0 k1 => ?_)
   have k2 := Tch.ext jq k0
   obtain rfl := k1.int
   refine asg (rfl : _ = Value.int .i64 (jw)) (nn (sr (L_fieldAddr fld64_0 Deed.of_Kind ju (j4.mono (je.trans (jr.trans k0.le))) (by decide) (fun k3 k4 => li ty3 (rfl : _ = k3) k4 (L_bld64_0 (s := jz) (rfl : _ = Value.int .i64 (a0.Kind)) (Vint : V _ _ (a0.Kind : Int)) (by decide) (fun k5 k6 => L_alloc (α := Deed) (x := ⟨0, 0, 0, 0, false⟩) zero64 Deed.zero_rel (by decide) (fun k7 k8 k9 ka kb => ?_)))))))
   have kc := Tch.ext k2 k9
   refine L_store ty64 (rfl : _ = Value.pointer (some ⟨k8, 0, none⟩)) (rfl : _ = k5) (k6.mono k9.le) (kb) (fun kd ke kf => ?_)
   have kg := Tch.trans kc ke (fun k hk => Or.inr (by subst hk; exact (Nat.le_trans k2.size ka)))
   refine nn (W_seq (sr (L_fieldAddr fld64_0 Deed.of_Kind ju (j4.mono (je.trans (jr.trans (k0.le.trans (k9.le.trans ke.le))))) (by decide) (fun kh ki => li ty3 (rfl : _ = kh) ki (nn (W_block (sr (L_eql (rfl : _ = Value.int .i64 (a0.Kind)) (rfl : _ = Value.int .i64 (1)) (by decide) (asg (rfl : _ = Value.bool (decide (a0.Kind = 1))) (nn ?_))))))))))
   refine W_cond _ (rfl : _ = Value.bool (decide (a0.Kind = 1))) (fun kj => ?_) (fun kj => ?_)
   ·have hr := ite_t kj hr
    refine W_region (L_fieldAddr fld64_4 Deed.of_Sync ju (j4.mono (je.trans (jr.trans (k0.le.trans (k9.le.trans ke.le))))) (by decide) (fun kk kl => L_load_bool ty4 (rfl : _ = kk) kl (by decide) (L_fieldAddr_var fld64_4 (rfl : _ = Value.pointer (some ⟨k8, 0, none⟩)) (by decide) (L_store_field ty4 Deed.set_Sync (rfl : _ = Value.pointer (some ⟨k8, 4, none⟩)) (rfl : _ = Value.bool (a0.Sync)) Vbool (kf) (fun km kn ko => ?_)))))
    have kp := Tch.trans kg kn (fun k hk => Or.inr (by subst hk; exact (Nat.le_trans k2.size ka)))
    refine L_nil (block_n (then_n (W_seq ?_)))
    refine W_drawP mixed 8 [PX.ptr (a0.Peer : Int), PX.eq (Value.int .i64 (a0.Peer)), PX.ptr (a0.Tag : Int), PX.eq (Value.int .i64 (a0.Tag)), PX.eq (Value.pointer (some ⟨k8, 1, none⟩)), PX.var s0.w.heap.size 64 ((Deed.with_Peer (Deed.with_Sync (⟨a0.Kind, 0, 0, 0, false⟩ : Deed) a0.Sync) a0.Peer) : Deed), PX.eq (Value.pointer (some ⟨k8, 2, none⟩)), PX.var s0.w.heap.size 64 ((Deed.with_Tag (Deed.with_Peer (Deed.with_Sync (⟨a0.Kind, 0, 0, 0, false⟩ : Deed) a0.Sync) a0.Peer) a0.Tag) : Deed), PX.var s0.w.heap.size 64 ((Deed.with_Sync (⟨a0.Kind, 0, 0, 0, false⟩ : Deed) a0.Sync) : Deed)] [94, 95, 96, 97, 98, 10, 99, 10, 10] [[], [], [], [], [], [8], [], [5]] rfl (by kernel_rfl) (ent1 rfl ⟨k8, rfl, (Nat.le_trans k2.size ka), ko⟩) (dis1 rfl) (StepsX_cons ?_ (StepsX_cons ?_ (StepsX_cons ?_ (StepsX_cons ?_ (StepsX_cons ?_ (StepsX_cons ?_ (StepsX_cons ?_ (StepsX_cons ?_ StepsX_nil)))))))) ?_
    ·intro kq kr ks kt ku Q kv; have kw : kq 3 = j2 := (ku 3 (by kernel_rfl)).trans ju; exact L_fieldAddr fld64_1 Deed.of_Peer kw (j4.mono (je.trans (jr.trans (k0.le.trans (k9.le.trans (ke.le.trans (kn.le.trans ks.le))))))) (by decide) (fun kx ky => L_nil (kv _ _ No (Ext.refl kr) (fun _ h => h.elim) ky (fun _ h => h.elim)))
    ·intro kq kr ks kt ku Q kv; have kw : Ptr _ (kq 94) (a0.Peer : Int) := kt 0 (by kernel_rfl) (by show _ < 9; decide); obtain ⟨kx, ky, kz⟩ : ∃ v, _ = v ∧ Ptr _ v _ := ⟨_, rfl, kw⟩; exact li ty3 ky kz (L_nil (kv _ _ No (Ext.refl kr) (fun _ h => h.elim) rfl (fun _ h => h.elim)))
    ·intro kq kr ks kt ku Q kv; have kw : kq 3 = j2 := (ku 3 (by kernel_rfl)).trans ju; exact L_fieldAddr fld64_2 Deed.of_Tag kw (j4.mono (je.trans (jr.trans (k0.le.trans (k9.le.trans (ke.le.trans (kn.le.trans ks.le))))))) (by decide) (fun kx ky => L_nil (kv _ _ No (Ext.refl kr) (fun _ h => h.elim) ky (fun _ h => h.elim)))
    ·intro kq kr ks kt ku Q kv; have kw : Ptr _ (kq 96) (a0.Tag : Int) := kt 2 (by kernel_rfl) (by show _ < 9; decide); obtain ⟨kx, ky, kz⟩ : ∃ v, _ = v ∧ Ptr _ v _ := ⟨_, rfl, kw⟩; exact li ty3 ky kz (L_nil (kv _ _ No (Ext.refl kr) (fun _ h => h.elim) rfl (fun _ h => h.elim)))
    ·intro kq kr ks kt ku Q kv
     obtain ⟨kw, kx, ky, kz⟩ : ∃ b, kq 10 = Value.pointer (some ⟨b, 0, none⟩) ∧ s0.w.heap.size ≤ b ∧ Var kr b 64 ((Deed.with_Sync (⟨a0.Kind, 0, 0, 0, false⟩ : Deed) a0.Sync) : Deed) := kt 8 (by kernel_rfl) (by show _ < 9; decide)
     have g0 : kq 10 = Value.pointer (some ⟨k8, 0, none⟩) := (ku 10 (by kernel_rfl)).trans rfl
     have g1 : kw = k8 := by have g2 := kx.symm.trans g0; cases g2; rfl
     rw [g1] at ky kz
     exact L_fieldAddr_var fld64_1 g0 (by decide) (L_nil (kv _ _ No (Ext.refl kr) (fun _ h => h.elim) rfl (fun _ h => h.elim)))
    ·intro kq kr ks kt ku Q kv
     obtain ⟨kw, kx, ky, kz⟩ : ∃ b, kq 10 = Value.pointer (some ⟨b, 0, none⟩) ∧ s0.w.heap.size ≤ b ∧ Var kr b 64 ((Deed.with_Sync (⟨a0.Kind, 0, 0, 0, false⟩ : Deed) a0.Sync) : Deed) := kt 8 (by kernel_rfl) (by show _ < 9; decide)
     have g0 : kq 10 = Value.pointer (some ⟨k8, 0, none⟩) := (ku 10 (by kernel_rfl)).trans rfl
     have g1 : kw = k8 := by have g2 := kx.symm.trans g0; cases g2; rfl
     rw [g1] at ky kz
     have g3 : kq 95 = Value.int .i64 (a0.Peer) := kt 1 (by kernel_rfl) (by show _ < 9; decide)
     have g4 : kq 98 = Value.pointer (some ⟨k8, 1, none⟩) := kt 4 (by kernel_rfl) (by show _ < 9; decide)
     exact L_store_field ty3 Deed.set_Peer g4 g3 Vint (kz) (fun g5 g6 g7 => L_nil (kv undef _ _ g6 (fun k h => ⟨8, (List.mem_singleton.2 rfl : (8 : Nat) ∈ [8]), (by show ownP (kq 10) k; rw [g0]; exact congrArg (fun z => Value.pointer (some ⟨z, 0, none⟩)) h.symm)⟩) ⟨_, g0, ky, g7⟩ (fun k h => Or.inl ⟨8, (List.mem_singleton.2 rfl : (8 : Nat) ∈ [8]), h⟩)))
    ·intro kq kr ks kt ku Q kv
     obtain ⟨kw, kx, ky, kz⟩ : ∃ b, kq 10 = Value.pointer (some ⟨b, 0, none⟩) ∧ s0.w.heap.size ≤ b ∧ Var kr b 64 ((Deed.with_Peer (Deed.with_Sync (⟨a0.Kind, 0, 0, 0, false⟩ : Deed) a0.Sync) a0.Peer) : Deed) := kt 5 (by kernel_rfl) (by show _ < 9; decide)
     have g0 : kq 10 = Value.pointer (some ⟨k8, 0, none⟩) := (ku 10 (by kernel_rfl)).trans rfl
     have g1 : kw = k8 := by have g2 := kx.symm.trans g0; cases g2; rfl
     rw [g1] at ky kz
     exact L_fieldAddr_var fld64_2 g0 (by decide) (L_nil (kv _ _ No (Ext.refl kr) (fun _ h => h.elim) rfl (fun _ h => h.elim)))
    ·intro kq kr ks kt ku Q kv
     obtain ⟨kw, kx, ky, kz⟩ : ∃ b, kq 10 = Value.pointer (some ⟨b, 0, none⟩) ∧ s0.w.heap.size ≤ b ∧ Var kr b 64 ((Deed.with_Peer (Deed.with_Sync (⟨a0.Kind, 0, 0, 0, false⟩ : Deed) a0.Sync) a0.Peer) : Deed) := kt 5 (by kernel_rfl) (by show _ < 9; decide)
     have g0 : kq 10 = Value.pointer (some ⟨k8, 0, none⟩) := (ku 10 (by kernel_rfl)).trans rfl
     have g1 : kw = k8 := by have g2 := kx.symm.trans g0; cases g2; rfl
     rw [g1] at ky kz
     have g3 : kq 97 = Value.int .i64 (a0.Tag) := kt 3 (by kernel_rfl) (by show _ < 9; decide)
     have g4 : kq 99 = Value.pointer (some ⟨k8, 2, none⟩) := kt 6 (by kernel_rfl) (by show _ < 9; decide)
     exact L_store_field ty3 Deed.set_Tag g4 g3 Vint (kz) (fun g5 g6 g7 => L_nil (kv undef _ _ g6 (fun k h => ⟨5, (List.mem_singleton.2 rfl : (5 : Nat) ∈ [5]), (by show ownP (kq 10) k; rw [g0]; exact congrArg (fun z => Value.pointer (some ⟨z, 0, none⟩)) h.symm)⟩) ⟨_, g0, ky, g7⟩ (fun k h => Or.inl ⟨5, (List.mem_singleton.2 rfl : (5 : Nat) ∈ [5]), h⟩)))
    ·intro kq kr ks kt ku kv
     have kw := Tch.trans kp ks (fun k h => Or.inr (by have kx := ent_is (k := 8) rfl rfl h; have ky := Eq.mp (congrArg (fun v => ownP v k) (rfl : _ = Value.pointer (some ⟨k8, 0, none⟩))) kx; cases ky; exact (Nat.le_trans k2.size ka)))
     obtain ⟨kz, g0, g1, g2⟩ : ∃ b, kq 10 = Value.pointer (some ⟨b, 0, none⟩) ∧ s0.w.heap.size ≤ b ∧ Var kr b 64 ((Deed.with_Tag (Deed.with_Peer (Deed.with_Sync (⟨a0.Kind, 0, 0, 0, false⟩ : Deed) a0.Sync) a0.Peer) a0.Tag) : Deed) := kt 7 (by show _ < 9; decide) (by kernel_rfl)
     have g3 : kq 10 = Value.pointer (some ⟨k8, 0, none⟩) := (kv 10 (by kernel_rfl)).trans rfl
     have g4 : kz = k8 := by have ky := g0.symm.trans g3; cases ky; rfl
     rw [g4] at g1 g2
     have g5 : kq 3 = j2 := (kv 3 (by kernel_rfl)).trans ju
     have g6 : kq 7 = Value.bool (j9) := (kv 7 (by kernel_rfl)).trans jv
     have g7 : kq 8 = Value.bool (jm) := (kv 8 (by kernel_rfl)).trans js
     refine then_n (sr (L_load ty64 g5 (j4.mono (je.trans (jr.trans (k0.le.trans (k9.le.trans (ke.le.trans (kn.le.trans ks.le))))))) (by decide) (fun g8 g9 => L_load_var ty64 g3 (g2) (by decide) (fun ga gb => L_seq64 (rfl : _ = g8) g9 (rfl : _ = ga) gb (by decide) (mv (rfl : _ = Value.bool (decide (a0 = (Deed.with_Tag (Deed.with_Peer (Deed.with_Sync (⟨a0.Kind, 0, 0, 0, false⟩ : Deed) a0.Sync) a0.Peer) a0.Tag)))) ?_)))))
     rcases Bool.eq_false_or_eq_true (decide (a0 = (Deed.with_Tag (Deed.with_Peer (Deed.with_Sync (⟨a0.Kind, 0, 0, 0, false⟩ : Deed) a0.Sync) a0.Peer) a0.Tag))) with gc | gc
     ·have hr := ite_t gc hr
      refine gt 103 (rfl : _ = Value.bool (decide (a0 = (Deed.with_Tag (Deed.with_Peer (Deed.with_Sync (⟨a0.Kind, 0, 0, 0, false⟩ : Deed) a0.Sync) a0.Peer) a0.Tag)))) gc (mv g6 (pt (rfl : _ = Value.bool (decide (a0 = (Deed.with_Tag (Deed.with_Peer (Deed.with_Sync (⟨a0.Kind, 0, 0, 0, false⟩ : Deed) a0.Sync) a0.Peer) a0.Tag)))) gc (rfl : _ = Value.bool (j9)) (mv (rfl : _ = Value.bool (j9)) ?_)))
      rcases Bool.eq_false_or_eq_true (j9) with gd | gd
      ·have hr := ite_t gd hr; refine gt 106 (rfl : _ = Value.bool (j9)) gd (mv g7 (pt (rfl : _ = Value.bool (j9)) gd (rfl : _ = Value.bool (jm)) (asg (rfl : _ = Value.bool (jm)) (nn (W_ret ?_))))); obtain rfl := Option.some.inj hr; exact done1 (Or.inl rfl) Try.results58 rfl ⟨_, _, rfl, rfl, kw, Vbool⟩
      ·have hr := ite_f gd hr; refine gf 106 (rfl : _ = Value.bool (j9)) gd (pf (rfl : _ = Value.bool (j9)) gd (rfl : _ = Value.bool (false)) (asg (rfl : _ = Value.bool (false)) (nn (W_ret ?_)))); obtain rfl := Option.some.inj hr; exact done1 (Or.inl rfl) Try.results58 rfl ⟨_, _, rfl, rfl, kw, Vbool⟩
     ·have hr := ite_f gc hr; refine gf 103 (rfl : _ = Value.bool (decide (a0 = (Deed.with_Tag (Deed.with_Peer (Deed.with_Sync (⟨a0.Kind, 0, 0, 0, false⟩ : Deed) a0.Sync) a0.Peer) a0.Tag)))) gc (pf (rfl : _ = Value.bool (decide (a0 = (Deed.with_Tag (Deed.with_Peer (Deed.with_Sync (⟨a0.Kind, 0, 0, 0, false⟩ : Deed) a0.Sync) a0.Peer) a0.Tag)))) gc (rfl : _ = Value.bool (false)) (mv (rfl : _ = Value.bool (false)) (gf 106 (rfl : _ = Value.bool (false)) rfl (pf (rfl : _ = Value.bool (false)) rfl (rfl : _ = Value.bool (false)) (asg (rfl : _ = Value.bool (false)) (nn (W_ret ?_))))))); obtain rfl := Option.some.inj hr; exact done1 (Or.inl rfl) Try.results58 rfl ⟨_, _, rfl, rfl, kw, Vbool⟩
   ·have hr := ite_f kj hr
    refine sr (L_eql (rfl : _ = Value.int .i64 (a0.Kind)) (rfl : _ = Value.int .i64 (3)) (by decide) (asg (rfl : _ = Value.bool (decide (a0.Kind = 3))) (nn ?_)))
    refine W_cond _ (rfl : _ = Value.bool (decide (a0.Kind = 3))) (fun kk => ?_) (fun kk => ?_)
    ·have hr := ite_t kk hr
     refine W_region (mv (rfl : _ = Value.int .i64 (jw)) (L_fieldAddr_var fld64_3 (rfl : _ = Value.pointer (some ⟨k8, 0, none⟩)) (by decide) (L_store_field ty3 Deed.set_Req (rfl : _ = Value.pointer (some ⟨k8, 3, none⟩)) (rfl : _ = Value.int .i64 (jw)) Vint (kf) (fun kl km kn => ?_))))
     have ko := Tch.trans kg km (fun k hk => Or.inr (by subst hk; exact (Nat.le_trans k2.size ka)))
     refine L_nil (block_n (then_n (W_seq ?_)))
     refine W_drawP mixed 8 [PX.ptr (a0.Peer : Int), PX.eq (Value.int .i64 (a0.Peer)), PX.ptr (a0.Tag : Int), PX.eq (Value.int .i64 (a0.Tag)), PX.eq (Value.pointer (some ⟨k8, 1, none⟩)), PX.var s0.w.heap.size 64 ((Deed.with_Peer (Deed.with_Req (⟨a0.Kind, 0, 0, 0, false⟩ : Deed) jw) a0.Peer) : Deed), PX.eq (Value.pointer (some ⟨k8, 2, none⟩)), PX.var s0.w.heap.size 64 ((Deed.with_Tag (Deed.with_Peer (Deed.with_Req (⟨a0.Kind, 0, 0, 0, false⟩ : Deed) jw) a0.Peer) a0.Tag) : Deed), PX.var s0.w.heap.size 64 ((Deed.with_Req (⟨a0.Kind, 0, 0, 0, false⟩ : Deed) jw) : Deed)] [94, 95, 96, 97, 98, 10, 99, 10, 10] [[], [], [], [], [], [8], [], [5]] rfl (by kernel_rfl) (ent1 rfl ⟨k8, rfl, (Nat.le_trans k2.size ka), kn⟩) (dis1 rfl) (StepsX_cons ?_ (StepsX_cons ?_ (StepsX_cons ?_ (StepsX_cons ?_ (StepsX_cons ?_ (StepsX_cons ?_ (StepsX_cons ?_ (StepsX_cons ?_ StepsX_nil)))))))) ?_
     ·intro kp kq kr ks kt Q ku; have kv : kp 3 = j2 := (kt 3 (by kernel_rfl)).trans ju; exact L_fieldAddr fld64_1 Deed.of_Peer kv (j4.mono (je.trans (jr.trans (k0.le.trans (k9.le.trans (ke.le.trans (km.le.trans kr.le))))))) (by decide) (fun kw kx => L_nil (ku _ _ No (Ext.refl kq) (fun _ h => h.elim) kx (fun _ h => h.elim)))
     ·intro kp kq kr ks kt Q ku; have kv : Ptr _ (kp 94) (a0.Peer : Int) := ks 0 (by kernel_rfl) (by show _ < 9; decide); obtain ⟨kw, kx, ky⟩ : ∃ v, _ = v ∧ Ptr _ v _ := ⟨_, rfl, kv⟩; exact li ty3 kx ky (L_nil (ku _ _ No (Ext.refl kq) (fun _ h => h.elim) rfl (fun _ h => h.elim)))
     ·intro kp kq kr ks kt Q ku; have kv : kp 3 = j2 := (kt 3 (by kernel_rfl)).trans ju; exact L_fieldAddr fld64_2 Deed.of_Tag kv (j4.mono (je.trans (jr.trans (k0.le.trans (k9.le.trans (ke.le.trans (km.le.trans kr.le))))))) (by decide) (fun kw kx => L_nil (ku _ _ No (Ext.refl kq) (fun _ h => h.elim) kx (fun _ h => h.elim)))
     ·intro kp kq kr ks kt Q ku; have kv : Ptr _ (kp 96) (a0.Tag : Int) := ks 2 (by kernel_rfl) (by show _ < 9; decide); obtain ⟨kw, kx, ky⟩ : ∃ v, _ = v ∧ Ptr _ v _ := ⟨_, rfl, kv⟩; exact li ty3 kx ky (L_nil (ku _ _ No (Ext.refl kq) (fun _ h => h.elim) rfl (fun _ h => h.elim)))
     ·intro kp kq kr ks kt Q ku
      obtain ⟨kv, kw, kx, ky⟩ : ∃ b, kp 10 = Value.pointer (some ⟨b, 0, none⟩) ∧ s0.w.heap.size ≤ b ∧ Var kq b 64 ((Deed.with_Req (⟨a0.Kind, 0, 0, 0, false⟩ : Deed) jw) : Deed) := ks 8 (by kernel_rfl) (by show _ < 9; decide)
      have kz : kp 10 = Value.pointer (some ⟨k8, 0, none⟩) := (kt 10 (by kernel_rfl)).trans rfl
      have g0 : kv = k8 := by have g1 := kw.symm.trans kz; cases g1; rfl
      rw [g0] at kx ky
      exact L_fieldAddr_var fld64_1 kz (by decide) (L_nil (ku _ _ No (Ext.refl kq) (fun _ h => h.elim) rfl (fun _ h => h.elim)))
     ·intro kp kq kr ks kt Q ku
      obtain ⟨kv, kw, kx, ky⟩ : ∃ b, kp 10 = Value.pointer (some ⟨b, 0, none⟩) ∧ s0.w.heap.size ≤ b ∧ Var kq b 64 ((Deed.with_Req (⟨a0.Kind, 0, 0, 0, false⟩ : Deed) jw) : Deed) := ks 8 (by kernel_rfl) (by show _ < 9; decide)
      have kz : kp 10 = Value.pointer (some ⟨k8, 0, none⟩) := (kt 10 (by kernel_rfl)).trans rfl
      have g0 : kv = k8 := by have g1 := kw.symm.trans kz; cases g1; rfl
      rw [g0] at kx ky
      have g2 : kp 95 = Value.int .i64 (a0.Peer) := ks 1 (by kernel_rfl) (by show _ < 9; decide)
      have g3 : kp 98 = Value.pointer (some ⟨k8, 1, none⟩) := ks 4 (by kernel_rfl) (by show _ < 9; decide)
      exact L_store_field ty3 Deed.set_Peer g3 g2 Vint (ky) (fun g4 g5 g6 => L_nil (ku undef _ _ g5 (fun k h => ⟨8, (List.mem_singleton.2 rfl : (8 : Nat) ∈ [8]), (by show ownP (kp 10) k; rw [kz]; exact congrArg (fun z => Value.pointer (some ⟨z, 0, none⟩)) h.symm)⟩) ⟨_, kz, kx, g6⟩ (fun k h => Or.inl ⟨8, (List.mem_singleton.2 rfl : (8 : Nat) ∈ [8]), h⟩)))
     ·intro kp kq kr ks kt Q ku
      obtain ⟨kv, kw, kx, ky⟩ : ∃ b, kp 10 = Value.pointer (some ⟨b, 0, none⟩) ∧ s0.w.heap.size ≤ b ∧ Var kq b 64 ((Deed.with_Peer (Deed.with_Req (⟨a0.Kind, 0, 0, 0, false⟩ : Deed) jw) a0.Peer) : Deed) := ks 5 (by kernel_rfl) (by show _ < 9; decide)
      have kz : kp 10 = Value.pointer (some ⟨k8, 0, none⟩) := (kt 10 (by kernel_rfl)).trans rfl
      have g0 : kv = k8 := by have g1 := kw.symm.trans kz; cases g1; rfl
      rw [g0] at kx ky
      exact L_fieldAddr_var fld64_2 kz (by decide) (L_nil (ku _ _ No (Ext.refl kq) (fun _ h => h.elim) rfl (fun _ h => h.elim)))
     ·intro kp kq kr ks kt Q ku
      obtain ⟨kv, kw, kx, ky⟩ : ∃ b, kp 10 = Value.pointer (some ⟨b, 0, none⟩) ∧ s0.w.heap.size ≤ b ∧ Var kq b 64 ((Deed.with_Peer (Deed.with_Req (⟨a0.Kind, 0, 0, 0, false⟩ : Deed) jw) a0.Peer) : Deed) := ks 5 (by kernel_rfl) (by show _ < 9; decide)
      have kz : kp 10 = Value.pointer (some ⟨k8, 0, none⟩) := (kt 10 (by kernel_rfl)).trans rfl
      have g0 : kv = k8 := by have g1 := kw.symm.trans kz; cases g1; rfl
      rw [g0] at kx ky
      have g2 : kp 97 = Value.int .i64 (a0.Tag) := ks 3 (by kernel_rfl) (by show _ < 9; decide)
      have g3 : kp 99 = Value.pointer (some ⟨k8, 2, none⟩) := ks 6 (by kernel_rfl) (by show _ < 9; decide)
      exact L_store_field ty3 Deed.set_Tag g3 g2 Vint (ky) (fun g4 g5 g6 => L_nil (ku undef _ _ g5 (fun k h => ⟨5, (List.mem_singleton.2 rfl : (5 : Nat) ∈ [5]), (by show ownP (kp 10) k; rw [kz]; exact congrArg (fun z => Value.pointer (some ⟨z, 0, none⟩)) h.symm)⟩) ⟨_, kz, kx, g6⟩ (fun k h => Or.inl ⟨5, (List.mem_singleton.2 rfl : (5 : Nat) ∈ [5]), h⟩)))
     ·intro kp kq kr ks kt ku
      have kv := Tch.trans ko kr (fun k h => Or.inr (by have kw := ent_is (k := 8) rfl rfl h; have kx := Eq.mp (congrArg (fun v => ownP v k) (rfl : _ = Value.pointer (some ⟨k8, 0, none⟩))) kw; cases kx; exact (Nat.le_trans k2.size ka)))
      obtain ⟨ky, kz, g0, g1⟩ : ∃ b, kp 10 = Value.pointer (some ⟨b, 0, none⟩) ∧ s0.w.heap.size ≤ b ∧ Var kq b 64 ((Deed.with_Tag (Deed.with_Peer (Deed.with_Req (⟨a0.Kind, 0, 0, 0, false⟩ : Deed) jw) a0.Peer) a0.Tag) : Deed) := ks 7 (by show _ < 9; decide) (by kernel_rfl)
      have g2 : kp 10 = Value.pointer (some ⟨k8, 0, none⟩) := (ku 10 (by kernel_rfl)).trans rfl
      have g3 : ky = k8 := by have kx := kz.symm.trans g2; cases kx; rfl
      rw [g3] at g0 g1
      have g4 : kp 3 = j2 := (ku 3 (by kernel_rfl)).trans ju
      have g5 : kp 7 = Value.bool (j9) := (ku 7 (by kernel_rfl)).trans jv
      have g6 : kp 8 = Value.bool (jm) := (ku 8 (by kernel_rfl)).trans js
      refine then_n (sr (L_load ty64 g4 (j4.mono (je.trans (jr.trans (k0.le.trans (k9.le.trans (ke.le.trans (km.le.trans kr.le))))))) (by decide) (fun g7 g8 => L_load_var ty64 g2 (g1) (by decide) (fun g9 ga => L_seq64 (rfl : _ = g7) g8 (rfl : _ = g9) ga (by decide) (mv (rfl : _ = Value.bool (decide (a0 = (Deed.with_Tag (Deed.with_Peer (Deed.with_Req (⟨a0.Kind, 0, 0, 0, false⟩ : Deed) jw) a0.Peer) a0.Tag)))) ?_)))))
      rcases Bool.eq_false_or_eq_true (decide (a0 = (Deed.with_Tag (Deed.with_Peer (Deed.with_Req (⟨a0.Kind, 0, 0, 0, false⟩ : Deed) jw) a0.Peer) a0.Tag))) with gb | gb
      ·have hr := ite_t gb hr
       refine gt 103 (rfl : _ = Value.bool (decide (a0 = (Deed.with_Tag (Deed.with_Peer (Deed.with_Req (⟨a0.Kind, 0, 0, 0, false⟩ : Deed) jw) a0.Peer) a0.Tag)))) gb (mv g5 (pt (rfl : _ = Value.bool (decide (a0 = (Deed.with_Tag (Deed.with_Peer (Deed.with_Req (⟨a0.Kind, 0, 0, 0, false⟩ : Deed) jw) a0.Peer) a0.Tag)))) gb (rfl : _ = Value.bool (j9)) (mv (rfl : _ = Value.bool (j9)) ?_)))
       rcases Bool.eq_false_or_eq_true (j9) with gc | gc
       ·have hr := ite_t gc hr; refine gt 106 (rfl : _ = Value.bool (j9)) gc (mv g6 (pt (rfl : _ = Value.bool (j9)) gc (rfl : _ = Value.bool (jm)) (asg (rfl : _ = Value.bool (jm)) (nn (W_ret ?_))))); obtain rfl := Option.some.inj hr; exact done1 (Or.inl rfl) Try.results58 rfl ⟨_, _, rfl, rfl, kv, Vbool⟩
       ·have hr := ite_f gc hr; refine gf 106 (rfl : _ = Value.bool (j9)) gc (pf (rfl : _ = Value.bool (j9)) gc (rfl : _ = Value.bool (false)) (asg (rfl : _ = Value.bool (false)) (nn (W_ret ?_)))); obtain rfl := Option.some.inj hr; exact done1 (Or.inl rfl) Try.results58 rfl ⟨_, _, rfl, rfl, kv, Vbool⟩
      ·have hr := ite_f gb hr; refine gf 103 (rfl : _ = Value.bool (decide (a0 = (Deed.with_Tag (Deed.with_Peer (Deed.with_Req (⟨a0.Kind, 0, 0, 0, false⟩ : Deed) jw) a0.Peer) a0.Tag)))) gb (pf (rfl : _ = Value.bool (decide (a0 = (Deed.with_Tag (Deed.with_Peer (Deed.with_Req (⟨a0.Kind, 0, 0, 0, false⟩ : Deed) jw) a0.Peer) a0.Tag)))) gb (rfl : _ = Value.bool (false)) (mv (rfl : _ = Value.bool (false)) (gf 106 (rfl : _ = Value.bool (false)) rfl (pf (rfl : _ = Value.bool (false)) rfl (rfl : _ = Value.bool (false)) (asg (rfl : _ = Value.bool (false)) (nn (W_ret ?_))))))); obtain rfl := Option.some.inj hr; exact done1 (Or.inl rfl) Try.results58 rfl ⟨_, _, rfl, rfl, kv, Vbool⟩
    ·have hr := ite_f kk hr
     refine W_seq (sr (L_eql (rfl : _ = Value.int .i64 (a0.Kind)) (rfl : _ = Value.int .i64 (2)) (by decide) (asg (rfl : _ = Value.bool (decide (a0.Kind = 2))) (nn ?_))))
     refine W_cond _ (rfl : _ = Value.bool (decide (a0.Kind = 2))) (fun kl => ?_) (fun kl => ?_)
     ·have hr := ite_t kl hr
      refine W_skip (then_n ?_)
      refine W_cond _ (rfl : _ = Value.bool (decide (a0.Kind = 2))) (fun _ => ?_) (fun h => absurd (h.symm.trans kl) (by decide))
      refine W_seq (sr (L_fieldAddr fld64_0 Deed.of_Kind ju (j4.mono (je.trans (jr.trans (k0.le.trans (k9.le.trans ke.le))))) (by decide) (fun km kn => li ty3 (rfl : _ = km) kn (L_eql (rfl : _ = Value.int .i64 (a0.Kind)) (rfl : _ = Value.int .i64 (4)) (by decide) (nn ?_)))))
      refine W_cond _ (rfl : _ = Value.bool (decide (a0.Kind = 4))) (fun ko => ?_) (fun ko => ?_)
      ·have hr := ite_t ko hr
       refine W_region (mv (rfl : _ = Value.int .i64 (jw)) (L_fieldAddr_var fld64_3 (rfl : _ = Value.pointer (some ⟨k8, 0, none⟩)) (by decide) (L_store_field ty3 Deed.set_Req (rfl : _ = Value.pointer (some ⟨k8, 3, none⟩)) (rfl : _ = Value.int .i64 (jw)) Vint (kf) (fun kp kq kr => ?_))))
       have ks := Tch.trans kg kq (fun k hk => Or.inr (by subst hk; exact (Nat.le_trans k2.size ka)))
       refine nn ?_
       rcases Bool.eq_false_or_eq_true (j9) with kt | kt
       ·have hr := ite_t kt hr
        rcases Bool.eq_false_or_eq_true (jm) with ku | ku
        ·have hr := ite_t ku hr
         refine W_draws mixed (by kernel_rfl) [PV.eq (Value.bool (j9)), PV.eq (Value.bool (j9)), PV.eq (undef), PV.eq (undef), PV.eq (undef), PV.eq (Value.bool (true)), PV.eq (Value.bool (jm)), PV.eq (Value.bool (jm)), PV.eq (undef), PV.eq (undef), PV.eq (undef), PV.eq (Value.bool (true)), PV.eq (Value.bool (true)), PV.eq (Value.bool (true))] (Steps_cons ?_ (Steps_cons ?_ (Steps_cons ?_ (Steps_cons ?_ (Steps_cons ?_ (Steps_cons ?_ (Steps_cons ?_ (Steps_cons ?_ (Steps_cons ?_ (Steps_cons ?_ (Steps_cons ?_ (Steps_cons ?_ (Steps_cons ?_ (Steps_cons ?_ Steps_nil)))))))))))))) ?_
         ·intro kv kw kx ky kz Q g0; have g1 : kv 7 = Value.bool (j9) := (kz 7 (by kernel_rfl)).trans jv; exact mv g1 (fin g0 rfl)
         ·intro kv kw kx ky kz Q g0; have g1 : kv 52 = Value.bool (j9) := ky 0 52 (by kernel_rfl) (by kernel_rfl); exact mv g1 (fin g0 rfl)
         ·intro kv kw kx ky kz Q g0; have g1 : kv 53 = Value.bool (j9) := ky 1 53 (by kernel_rfl) (by kernel_rfl); exact gf 53 g1 kt (fin g0 rfl)
         ·intro kv kw kx ky kz Q g0; have g1 : kv 53 = Value.bool (j9) := ky 1 53 (by kernel_rfl) (by kernel_rfl); exact gf 53 g1 kt (fin g0 rfl)
         ·intro kv kw kx ky kz Q g0; have g1 : kv 53 = Value.bool (j9) := ky 1 53 (by kernel_rfl) (by kernel_rfl); exact gf 53 g1 kt (fin g0 rfl)
         ·intro kv kw kx ky kz Q g0; have g1 : kv 53 = Value.bool (j9) := ky 1 53 (by kernel_rfl) (by kernel_rfl); exact pt g1 kt (rfl : _ = Value.bool (true)) (fin g0 rfl)
         ·intro kv kw kx ky kz Q g0; have g1 : kv 8 = Value.bool (jm) := (kz 8 (by kernel_rfl)).trans js; exact mv g1 (fin g0 rfl)
         ·intro kv kw kx ky kz Q g0; have g1 : kv 58 = Value.bool (jm) := ky 6 58 (by kernel_rfl) (by kernel_rfl); exact mv g1 (fin g0 rfl)
         ·intro kv kw kx ky kz Q g0; have g1 : kv 59 = Value.bool (jm) := ky 7 59 (by kernel_rfl) (by kernel_rfl); exact gf 59 g1 ku (fin g0 rfl)
         ·intro kv kw kx ky kz Q g0; have g1 : kv 59 = Value.bool (jm) := ky 7 59 (by kernel_rfl) (by kernel_rfl); exact gf 59 g1 ku (fin g0 rfl)
         ·intro kv kw kx ky kz Q g0; have g1 : kv 59 = Value.bool (jm) := ky 7 59 (by kernel_rfl) (by kernel_rfl); exact gf 59 g1 ku (fin g0 rfl)
         ·intro kv kw kx ky kz Q g0; have g1 : kv 59 = Value.bool (jm) := ky 7 59 (by kernel_rfl) (by kernel_rfl); exact pt g1 ku (rfl : _ = Value.bool (true)) (fin g0 rfl)
         ·intro kv kw kx ky kz Q g0; have g1 : kv 57 = Value.bool (true) := ky 5 57 (by kernel_rfl) (by kernel_rfl); exact asg g1 (fin g0 rfl)
         ·intro kv kw kx ky kz Q g0; have g1 : kv 63 = Value.bool (true) := ky 11 63 (by kernel_rfl) (by kernel_rfl); exact asg g1 (fin g0 rfl)
         ·intro kv kw kx ky kz
          have g0 := Tch.ext ks kx
          have g1 : kv 3 = j2 := (kz 3 (by kernel_rfl)).trans ju
          have g2 : kv 7 = Value.bool (true) := ky 12 7 (by kernel_rfl)
          have g3 : kv 8 = Value.bool (true) := ky 13 8 (by kernel_rfl)
          have g4 : kv 10 = Value.pointer (some ⟨k8, 0, none⟩) := (kz 10 (by kernel_rfl)).trans rfl
          refine block_n (then_n (W_seq ?_))
          refine W_drawP mixed 8 [PX.ptr (a0.Peer : Int), PX.eq (Value.int .i64 (a0.Peer)), PX.ptr (a0.Tag : Int), PX.eq (Value.int .i64 (a0.Tag)), PX.eq (Value.pointer (some ⟨k8, 1, none⟩)), PX.var s0.w.heap.size 64 ((Deed.with_Peer (Deed.with_Req (⟨a0.Kind, 0, 0, 0, false⟩ : Deed) jw) a0.Peer) : Deed), PX.eq (Value.pointer (some ⟨k8, 2, none⟩)), PX.var s0.w.heap.size 64 ((Deed.with_Tag (Deed.with_Peer (Deed.with_Req (⟨a0.Kind, 0, 0, 0, false⟩ : Deed) jw) a0.Peer) a0.Tag) : Deed), PX.var s0.w.heap.size 64 ((Deed.with_Req (⟨a0.Kind, 0, 0, 0, false⟩ : Deed) jw) : Deed)] [94, 95, 96, 97, 98, 10, 99, 10, 10] [[], [], [], [], [], [8], [], [5]] rfl (by kernel_rfl) (ent1 rfl ⟨k8, g4, (Nat.le_trans k2.size ka), (kr).ext kx⟩) (dis1 rfl) (StepsX_cons ?_ (StepsX_cons ?_ (StepsX_cons ?_ (StepsX_cons ?_ (StepsX_cons ?_ (StepsX_cons ?_ (StepsX_cons ?_ (StepsX_cons ?_ StepsX_nil)))))))) ?_
          ·intro g5 g6 g7 g8 g9 Q ga; have gb : g5 3 = j2 := (g9 3 (by kernel_rfl)).trans g1; exact L_fieldAddr fld64_1 Deed.of_Peer gb (j4.mono (je.trans (jr.trans (k0.le.trans (k9.le.trans (ke.le.trans (kq.le.trans (kx.le.trans g7.le)))))))) (by decide) (fun gc gd => L_nil (ga _ _ No (Ext.refl g6) (fun _ h => h.elim) gd (fun _ h => h.elim)))
          ·intro g5 g6 g7 g8 g9 Q ga; have gb : Ptr _ (g5 94) (a0.Peer : Int) := g8 0 (by kernel_rfl) (by show _ < 9; decide); obtain ⟨gc, gd, gg⟩ : ∃ v, _ = v ∧ Ptr _ v _ := ⟨_, rfl, gb⟩; exact li ty3 gd gg (L_nil (ga _ _ No (Ext.refl g6) (fun _ h => h.elim) rfl (fun _ h => h.elim)))
          ·intro g5 g6 g7 g8 g9 Q ga; have gb : g5 3 = j2 := (g9 3 (by kernel_rfl)).trans g1; exact L_fieldAddr fld64_2 Deed.of_Tag gb (j4.mono (je.trans (jr.trans (k0.le.trans (k9.le.trans (ke.le.trans (kq.le.trans (kx.le.trans g7.le)))))))) (by decide) (fun gc gd => L_nil (ga _ _ No (Ext.refl g6) (fun _ h => h.elim) gd (fun _ h => h.elim)))
          ·intro g5 g6 g7 g8 g9 Q ga; have gb : Ptr _ (g5 96) (a0.Tag : Int) := g8 2 (by kernel_rfl) (by show _ < 9; decide); obtain ⟨gc, gd, gg⟩ : ∃ v, _ = v ∧ Ptr _ v _ := ⟨_, rfl, gb⟩; exact li ty3 gd gg (L_nil (ga _ _ No (Ext.refl g6) (fun _ h => h.elim) rfl (fun _ h => h.elim)))
          ·intro g5 g6 g7 g8 g9 Q ga
           obtain ⟨gb, gc, gd, gg⟩ : ∃ b, g5 10 = Value.pointer (some ⟨b, 0, none⟩) ∧ s0.w.heap.size ≤ b ∧ Var g6 b 64 ((Deed.with_Req (⟨a0.Kind, 0, 0, 0, false⟩ : Deed) jw) : Deed) := g8 8 (by kernel_rfl) (by show _ < 9; decide)
           have gh : g5 10 = Value.pointer (some ⟨k8, 0, none⟩) := (g9 10 (by kernel_rfl)).trans g4
           have gi : gb = k8 := by have gj := gc.symm.trans gh; cases gj; rfl
           rw [gi] at gd gg
           exact L_fieldAddr_var fld64_1 gh (by decide) (L_nil (ga _ _ No (Ext.refl g6) (fun _ h => h.elim) rfl (fun _ h => h.elim)))
          ·intro g5 g6 g7 g8 g9 Q ga
           obtain ⟨gb, gc, gd, gg⟩ : ∃ b, g5 10 = Value.pointer (some ⟨b, 0, none⟩) ∧ s0.w.heap.size ≤ b ∧ Var g6 b 64 ((Deed.with_Req (⟨a0.Kind, 0, 0, 0, false⟩ : Deed) jw) : Deed) := g8 8 (by kernel_rfl) (by show _ < 9; decide)
           have gh : g5 10 = Value.pointer (some ⟨k8, 0, none⟩) := (g9 10 (by kernel_rfl)).trans g4
           have gi : gb = k8 := by have gj := gc.symm.trans gh; cases gj; rfl
           rw [gi] at gd gg
           have gk : g5 95 = Value.int .i64 (a0.Peer) := g8 1 (by kernel_rfl) (by show _ < 9; decide)
           have gl : g5 98 = Value.pointer (some ⟨k8, 1, none⟩) := g8 4 (by kernel_rfl) (by show _ < 9; decide)
           exact L_store_field ty3 Deed.set_Peer gl gk Vint (gg) (fun gm gn go => L_nil (ga undef _ _ gn (fun k h => ⟨8, (List.mem_singleton.2 rfl : (8 : Nat) ∈ [8]), (by show ownP (g5 10) k; rw [gh]; exact congrArg (fun z => Value.pointer (some ⟨z, 0, none⟩)) h.symm)⟩) ⟨_, gh, gd, go⟩ (fun k h => Or.inl ⟨8, (List.mem_singleton.2 rfl : (8 : Nat) ∈ [8]), h⟩)))
          ·intro g5 g6 g7 g8 g9 Q ga
           obtain ⟨gb, gc, gd, gg⟩ : ∃ b, g5 10 = Value.pointer (some ⟨b, 0, none⟩) ∧ s0.w.heap.size ≤ b ∧ Var g6 b 64 ((Deed.with_Peer (Deed.with_Req (⟨a0.Kind, 0, 0, 0, false⟩ : Deed) jw) a0.Peer) : Deed) := g8 5 (by kernel_rfl) (by show _ < 9; decide)
           have gh : g5 10 = Value.pointer (some ⟨k8, 0, none⟩) := (g9 10 (by kernel_rfl)).trans g4
           have gi : gb = k8 := by have gj := gc.symm.trans gh; cases gj; rfl
           rw [gi] at gd gg
           exact L_fieldAddr_var fld64_2 gh (by decide) (L_nil (ga _ _ No (Ext.refl g6) (fun _ h => h.elim) rfl (fun _ h => h.elim)))
          ·intro g5 g6 g7 g8 g9 Q ga
           obtain ⟨gb, gc, gd, gg⟩ : ∃ b, g5 10 = Value.pointer (some ⟨b, 0, none⟩) ∧ s0.w.heap.size ≤ b ∧ Var g6 b 64 ((Deed.with_Peer (Deed.with_Req (⟨a0.Kind, 0, 0, 0, false⟩ : Deed) jw) a0.Peer) : Deed) := g8 5 (by kernel_rfl) (by show _ < 9; decide)
           have gh : g5 10 = Value.pointer (some ⟨k8, 0, none⟩) := (g9 10 (by kernel_rfl)).trans g4
           have gi : gb = k8 := by have gj := gc.symm.trans gh; cases gj; rfl
           rw [gi] at gd gg
           have gk : g5 97 = Value.int .i64 (a0.Tag) := g8 3 (by kernel_rfl) (by show _ < 9; decide)
           have gl : g5 99 = Value.pointer (some ⟨k8, 2, none⟩) := g8 6 (by kernel_rfl) (by show _ < 9; decide)
           exact L_store_field ty3 Deed.set_Tag gl gk Vint (gg) (fun gm gn go => L_nil (ga undef _ _ gn (fun k h => ⟨5, (List.mem_singleton.2 rfl : (5 : Nat) ∈ [5]), (by show ownP (g5 10) k; rw [gh]; exact congrArg (fun z => Value.pointer (some ⟨z, 0, none⟩)) h.symm)⟩) ⟨_, gh, gd, go⟩ (fun k h => Or.inl ⟨5, (List.mem_singleton.2 rfl : (5 : Nat) ∈ [5]), h⟩)))
          ·intro g5 g6 g7 g8 g9 ga
           have gb := Tch.trans g0 g7 (fun k h => Or.inr (by have gc := ent_is (k := 8) rfl rfl h; have gd := Eq.mp (congrArg (fun v => ownP v k) (g4 : _ = Value.pointer (some ⟨k8, 0, none⟩))) gc; cases gd; exact (Nat.le_trans k2.size ka)))
           obtain ⟨gg, gh, gi, gj⟩ : ∃ b, g5 10 = Value.pointer (some ⟨b, 0, none⟩) ∧ s0.w.heap.size ≤ b ∧ Var g6 b 64 ((Deed.with_Tag (Deed.with_Peer (Deed.with_Req (⟨a0.Kind, 0, 0, 0, false⟩ : Deed) jw) a0.Peer) a0.Tag) : Deed) := g8 7 (by show _ < 9; decide) (by kernel_rfl)
           have gk : g5 10 = Value.pointer (some ⟨k8, 0, none⟩) := (ga 10 (by kernel_rfl)).trans g4
           have gl : gg = k8 := by have gd := gh.symm.trans gk; cases gd; rfl
           rw [gl] at gi gj
           have gm : g5 3 = j2 := (ga 3 (by kernel_rfl)).trans g1
           have gn : g5 7 = Value.bool (true) := (ga 7 (by kernel_rfl)).trans g2
           have go : g5 8 = Value.bool (true) := (ga 8 (by kernel_rfl)).trans g3
           refine then_n (sr (L_load ty64 gm (j4.mono (je.trans (jr.trans (k0.le.trans (k9.le.trans (ke.le.trans (kq.le.trans (kx.le.trans g7.le)))))))) (by decide) (fun gp gq => L_load_var ty64 gk (gj) (by decide) (fun gr gs => L_seq64 (rfl : _ = gp) gq (rfl : _ = gr) gs (by decide) (mv (rfl : _ = Value.bool (decide (a0 = (Deed.with_Tag (Deed.with_Peer (Deed.with_Req (⟨a0.Kind, 0, 0, 0, false⟩ : Deed) jw) a0.Peer) a0.Tag)))) ?_)))))
           rcases Bool.eq_false_or_eq_true (decide (a0 = (Deed.with_Tag (Deed.with_Peer (Deed.with_Req (⟨a0.Kind, 0, 0, 0, false⟩ : Deed) jw) a0.Peer) a0.Tag))) with gu | gu
           ·have hr := ite_t gu hr; refine gt 103 (rfl : _ = Value.bool (decide (a0 = (Deed.with_Tag (Deed.with_Peer (Deed.with_Req (⟨a0.Kind, 0, 0, 0, false⟩ : Deed) jw) a0.Peer) a0.Tag)))) gu (mv gn (pt (rfl : _ = Value.bool (decide (a0 = (Deed.with_Tag (Deed.with_Peer (Deed.with_Req (⟨a0.Kind, 0, 0, 0, false⟩ : Deed) jw) a0.Peer) a0.Tag)))) gu (rfl : _ = Value.bool (true)) (mv (rfl : _ = Value.bool (true)) (gt 106 (rfl : _ = Value.bool (true)) rfl (mv go (pt (rfl : _ = Value.bool (true)) rfl (rfl : _ = Value.bool (true)) (asg (rfl : _ = Value.bool (true)) (nn (W_ret ?_))))))))); obtain rfl := Option.some.inj hr; exact done1 (Or.inl rfl) Try.results58 rfl ⟨_, _, rfl, rfl, gb, Vbool⟩
           ·have hr := ite_f gu hr; refine gf 103 (rfl : _ = Value.bool (decide (a0 = (Deed.with_Tag (Deed.with_Peer (Deed.with_Req (⟨a0.Kind, 0, 0, 0, false⟩ : Deed) jw) a0.Peer) a0.Tag)))) gu (pf (rfl : _ = Value.bool (decide (a0 = (Deed.with_Tag (Deed.with_Peer (Deed.with_Req (⟨a0.Kind, 0, 0, 0, false⟩ : Deed) jw) a0.Peer) a0.Tag)))) gu (rfl : _ = Value.bool (false)) (mv (rfl : _ = Value.bool (false)) (gf 106 (rfl : _ = Value.bool (false)) rfl (pf (rfl : _ = Value.bool (false)) rfl (rfl : _ = Value.bool (false)) (asg (rfl : _ = Value.bool (false)) (nn (W_ret ?_))))))); obtain rfl := Option.some.inj hr; exact done1 (Or.inl rfl) Try.results58 rfl ⟨_, _, rfl, rfl, gb, Vbool⟩
        ·have hr := ite_f ku hr
         refine W_draws mixed (by kernel_rfl) [PV.eq (Value.bool (j9)), PV.eq (Value.bool (j9)), PV.eq (undef), PV.eq (undef), PV.eq (undef), PV.eq (Value.bool (true)), PV.eq (Value.bool (jm)), PV.eq (Value.bool (jm)), PV.ptr (a0.Peer : Int), PV.eq (Value.int .i64 (a0.Peer)), PV.eq (Value.bool (decide (a0.Peer = (-1)))), PV.eq (Value.bool (decide (a0.Peer = (-1)))), PV.eq (Value.bool (true)), PV.eq (Value.bool (decide (a0.Peer = (-1))))] (Steps_cons ?_ (Steps_cons ?_ (Steps_cons ?_ (Steps_cons ?_ (Steps_cons ?_ (Steps_cons ?_ (Steps_cons ?_ (Steps_cons ?_ (Steps_cons ?_ (Steps_cons ?_ (Steps_cons ?_ (Steps_cons ?_ (Steps_cons ?_ (Steps_cons ?_ Steps_nil)))))))))))))) ?_
         ·intro kv kw kx ky kz Q g0; have g1 : kv 7 = Value.bool (j9) := (kz 7 (by kernel_rfl)).trans jv; exact mv g1 (fin g0 rfl)
         ·intro kv kw kx ky kz Q g0; have g1 : kv 52 = Value.bool (j9) := ky 0 52 (by kernel_rfl) (by kernel_rfl); exact mv g1 (fin g0 rfl)
         ·intro kv kw kx ky kz Q g0; have g1 : kv 53 = Value.bool (j9) := ky 1 53 (by kernel_rfl) (by kernel_rfl); exact gf 53 g1 kt (fin g0 rfl)
         ·intro kv kw kx ky kz Q g0; have g1 : kv 53 = Value.bool (j9) := ky 1 53 (by kernel_rfl) (by kernel_rfl); exact gf 53 g1 kt (fin g0 rfl)
         ·intro kv kw kx ky kz Q g0; have g1 : kv 53 = Value.bool (j9) := ky 1 53 (by kernel_rfl) (by kernel_rfl); exact gf 53 g1 kt (fin g0 rfl)
         ·intro kv kw kx ky kz Q g0; have g1 : kv 53 = Value.bool (j9) := ky 1 53 (by kernel_rfl) (by kernel_rfl); exact pt g1 kt (rfl : _ = Value.bool (true)) (fin g0 rfl)
         ·intro kv kw kx ky kz Q g0; have g1 : kv 8 = Value.bool (jm) := (kz 8 (by kernel_rfl)).trans js; exact mv g1 (fin g0 rfl)
         ·intro kv kw kx ky kz Q g0; have g1 : kv 58 = Value.bool (jm) := ky 6 58 (by kernel_rfl) (by kernel_rfl); exact mv g1 (fin g0 rfl)
         ·intro kv kw kx ky kz Q g0; have g1 : kv 3 = j2 := (kz 3 (by kernel_rfl)).trans ju; have g2 : kv 59 = Value.bool (jm) := ky 7 59 (by kernel_rfl) (by kernel_rfl); exact gt 59 g2 ku (L_fieldAddr fld64_1 Deed.of_Peer g1 (j4.mono (je.trans (jr.trans (k0.le.trans (k9.le.trans (ke.le.trans (kq.le.trans kx.le))))))) (by decide) (fun g3 g4 => fin g0 g4))
         ·intro kv kw kx ky kz Q g0; have g1 : kv 59 = Value.bool (jm) := ky 7 59 (by kernel_rfl) (by kernel_rfl); have g2 : Ptr _ (kv 60) (a0.Peer : Int) := ky 8 60 (by kernel_rfl) (by kernel_rfl); obtain ⟨g3, g4, g5⟩ : ∃ v, _ = v ∧ Ptr _ v _ := ⟨_, rfl, g2⟩; exact gt 59 g1 ku (li ty3 g4 g5 (fin g0 rfl))
         ·intro kv kw kx ky kz Q g0; have g1 : kv 59 = Value.bool (jm) := ky 7 59 (by kernel_rfl) (by kernel_rfl); have g2 : kv 61 = Value.int .i64 (a0.Peer) := ky 9 61 (by kernel_rfl) (by kernel_rfl); exact gt 59 g1 ku (L_eql g2 (rfl : _ = Value.int .i64 (-1)) (by decide) (fin g0 rfl))
         ·intro kv kw kx ky kz Q g0; have g1 : kv 59 = Value.bool (jm) := ky 7 59 (by kernel_rfl) (by kernel_rfl); have g2 : kv 62 = Value.bool (decide (a0.Peer = (-1))) := ky 10 62 (by kernel_rfl) (by kernel_rfl); exact pf g1 ku g2 (fin g0 rfl)
         ·intro kv kw kx ky kz Q g0; have g1 : kv 57 = Value.bool (true) := ky 5 57 (by kernel_rfl) (by kernel_rfl); exact asg g1 (fin g0 rfl)
         ·intro kv kw kx ky kz Q g0; have g1 : kv 63 = Value.bool (decide (a0.Peer = (-1))) := ky 11 63 (by kernel_rfl) (by kernel_rfl); exact asg g1 (fin g0 rfl)
         ·intro kv kw kx ky kz
          have g0 := Tch.ext ks kx
          have g1 : kv 3 = j2 := (kz 3 (by kernel_rfl)).trans ju
          have g2 : kv 7 = Value.bool (true) := ky 12 7 (by kernel_rfl)
          have g3 : kv 8 = Value.bool (decide (a0.Peer = (-1))) := ky 13 8 (by kernel_rfl)
          have g4 : kv 10 = Value.pointer (some ⟨k8, 0, none⟩) := (kz 10 (by kernel_rfl)).trans rfl
          refine block_n (then_n (W_seq ?_))
          refine W_drawP mixed 8 [PX.ptr (a0.Peer : Int), PX.eq (Value.int .i64 (a0.Peer)), PX.ptr (a0.Tag : Int), PX.eq (Value.int .i64 (a0.Tag)), PX.eq (Value.pointer (some ⟨k8, 1, none⟩)), PX.var s0.w.heap.size 64 ((Deed.with_Peer (Deed.with_Req (⟨a0.Kind, 0, 0, 0, false⟩ : Deed) jw) a0.Peer) : Deed), PX.eq (Value.pointer (some ⟨k8, 2, none⟩)), PX.var s0.w.heap.size 64 ((Deed.with_Tag (Deed.with_Peer (Deed.with_Req (⟨a0.Kind, 0, 0, 0, false⟩ : Deed) jw) a0.Peer) a0.Tag) : Deed), PX.var s0.w.heap.size 64 ((Deed.with_Req (⟨a0.Kind, 0, 0, 0, false⟩ : Deed) jw) : Deed)] [94, 95, 96, 97, 98, 10, 99, 10, 10] [[], [], [], [], [], [8], [], [5]] rfl (by kernel_rfl) (ent1 rfl ⟨k8, g4, (Nat.le_trans k2.size ka), (kr).ext kx⟩) (dis1 rfl) (StepsX_cons ?_ (StepsX_cons ?_ (StepsX_cons ?_ (StepsX_cons ?_ (StepsX_cons ?_ (StepsX_cons ?_ (StepsX_cons ?_ (StepsX_cons ?_ StepsX_nil)))))))) ?_
          ·intro g5 g6 g7 g8 g9 Q ga; have gb : g5 3 = j2 := (g9 3 (by kernel_rfl)).trans g1; exact L_fieldAddr fld64_1 Deed.of_Peer gb (j4.mono (je.trans (jr.trans (k0.le.trans (k9.le.trans (ke.le.trans (kq.le.trans (kx.le.trans g7.le)))))))) (by decide) (fun gc gd => L_nil (ga _ _ No (Ext.refl g6) (fun _ h => h.elim) gd (fun _ h => h.elim)))
          ·intro g5 g6 g7 g8 g9 Q ga; have gb : Ptr _ (g5 94) (a0.Peer : Int) := g8 0 (by kernel_rfl) (by show _ < 9; decide); obtain ⟨gc, gd, gg⟩ : ∃ v, _ = v ∧ Ptr _ v _ := ⟨_, rfl, gb⟩; exact li ty3 gd gg (L_nil (ga _ _ No (Ext.refl g6) (fun _ h => h.elim) rfl (fun _ h => h.elim)))
          ·intro g5 g6 g7 g8 g9 Q ga; have gb : g5 3 = j2 := (g9 3 (by kernel_rfl)).trans g1; exact L_fieldAddr fld64_2 Deed.of_Tag gb (j4.mono (je.trans (jr.trans (k0.le.trans (k9.le.trans (ke.le.trans (kq.le.trans (kx.le.trans g7.le)))))))) (by decide) (fun gc gd => L_nil (ga _ _ No (Ext.refl g6) (fun _ h => h.elim) gd (fun _ h => h.elim)))
          ·intro g5 g6 g7 g8 g9 Q ga; have gb : Ptr _ (g5 96) (a0.Tag : Int) := g8 2 (by kernel_rfl) (by show _ < 9; decide); obtain ⟨gc, gd, gg⟩ : ∃ v, _ = v ∧ Ptr _ v _ := ⟨_, rfl, gb⟩; exact li ty3 gd gg (L_nil (ga _ _ No (Ext.refl g6) (fun _ h => h.elim) rfl (fun _ h => h.elim)))
          ·intro g5 g6 g7 g8 g9 Q ga
           obtain ⟨gb, gc, gd, gg⟩ : ∃ b, g5 10 = Value.pointer (some ⟨b, 0, none⟩) ∧ s0.w.heap.size ≤ b ∧ Var g6 b 64 ((Deed.with_Req (⟨a0.Kind, 0, 0, 0, false⟩ : Deed) jw) : Deed) := g8 8 (by kernel_rfl) (by show _ < 9; decide)
           have gh : g5 10 = Value.pointer (some ⟨k8, 0, none⟩) := (g9 10 (by kernel_rfl)).trans g4
           have gi : gb = k8 := by have gj := gc.symm.trans gh; cases gj; rfl
           rw [gi] at gd gg
           exact L_fieldAddr_var fld64_1 gh (by decide) (L_nil (ga _ _ No (Ext.refl g6) (fun _ h => h.elim) rfl (fun _ h => h.elim)))
          ·intro g5 g6 g7 g8 g9 Q ga
           obtain ⟨gb, gc, gd, gg⟩ : ∃ b, g5 10 = Value.pointer (some ⟨b, 0, none⟩) ∧ s0.w.heap.size ≤ b ∧ Var g6 b 64 ((Deed.with_Req (⟨a0.Kind, 0, 0, 0, false⟩ : Deed) jw) : Deed) := g8 8 (by kernel_rfl) (by show _ < 9; decide)
           have gh : g5 10 = Value.pointer (some ⟨k8, 0, none⟩) := (g9 10 (by kernel_rfl)).trans g4
           have gi : gb = k8 := by have gj := gc.symm.trans gh; cases gj; rfl
           rw [gi] at gd gg
           have gk : g5 95 = Value.int .i64 (a0.Peer) := g8 1 (by kernel_rfl) (by show _ < 9; decide)
           have gl : g5 98 = Value.pointer (some ⟨k8, 1, none⟩) := g8 4 (by kernel_rfl) (by show _ < 9; decide)
           exact L_store_field ty3 Deed.set_Peer gl gk Vint (gg) (fun gm gn go => L_nil (ga undef _ _ gn (fun k h => ⟨8, (List.mem_singleton.2 rfl : (8 : Nat) ∈ [8]), (by show ownP (g5 10) k; rw [gh]; exact congrArg (fun z => Value.pointer (some ⟨z, 0, none⟩)) h.symm)⟩) ⟨_, gh, gd, go⟩ (fun k h => Or.inl ⟨8, (List.mem_singleton.2 rfl : (8 : Nat) ∈ [8]), h⟩)))
          ·intro g5 g6 g7 g8 g9 Q ga
           obtain ⟨gb, gc, gd, gg⟩ : ∃ b, g5 10 = Value.pointer (some ⟨b, 0, none⟩) ∧ s0.w.heap.size ≤ b ∧ Var g6 b 64 ((Deed.with_Peer (Deed.with_Req (⟨a0.Kind, 0, 0, 0, false⟩ : Deed) jw) a0.Peer) : Deed) := g8 5 (by kernel_rfl) (by show _ < 9; decide)
           have gh : g5 10 = Value.pointer (some ⟨k8, 0, none⟩) := (g9 10 (by kernel_rfl)).trans g4
           have gi : gb = k8 := by have gj := gc.symm.trans gh; cases gj; rfl
           rw [gi] at gd gg
           exact L_fieldAddr_var fld64_2 gh (by decide) (L_nil (ga _ _ No (Ext.refl g6) (fun _ h => h.elim) rfl (fun _ h => h.elim)))
          ·intro g5 g6 g7 g8 g9 Q ga
           obtain ⟨gb, gc, gd, gg⟩ : ∃ b, g5 10 = Value.pointer (some ⟨b, 0, none⟩) ∧ s0.w.heap.size ≤ b ∧ Var g6 b 64 ((Deed.with_Peer (Deed.with_Req (⟨a0.Kind, 0, 0, 0, false⟩ : Deed) jw) a0.Peer) : Deed) := g8 5 (by kernel_rfl) (by show _ < 9; decide)
           have gh : g5 10 = Value.pointer (some ⟨k8, 0, none⟩) := (g9 10 (by kernel_rfl)).trans g4
           have gi : gb = k8 := by have gj := gc.symm.trans gh; cases gj; rfl
           rw [gi] at gd gg
           have gk : g5 97 = Value.int .i64 (a0.Tag) := g8 3 (by kernel_rfl) (by show _ < 9; decide)
           have gl : g5 99 = Value.pointer (some ⟨k8, 2, none⟩) := g8 6 (by kernel_rfl) (by show _ < 9; decide)
           exact L_store_field ty3 Deed.set_Tag gl gk Vint (gg) (fun gm gn go => L_nil (ga undef _ _ gn (fun k h => ⟨5, (List.mem_singleton.2 rfl : (5 : Nat) ∈ [5]), (by show ownP (g5 10) k; rw [gh]; exact congrArg (fun z => Value.pointer (some ⟨z, 0, none⟩)) h.symm)⟩) ⟨_, gh, gd, go⟩ (fun k h => Or.inl ⟨5, (List.mem_singleton.2 rfl : (5 : Nat) ∈ [5]), h⟩)))
          ·intro g5 g6 g7 g8 g9 ga
           have gb := Tch.trans g0 g7 (fun k h => Or.inr (by have gc := ent_is (k := 8) rfl rfl h; have gd := Eq.mp (congrArg (fun v => ownP v k) (g4 : _ = Value.pointer (some ⟨k8, 0, none⟩))) gc; cases gd; exact (Nat.le_trans k2.size ka)))
           obtain ⟨gg, gh, gi, gj⟩ : ∃ b, g5 10 = Value.pointer (some ⟨b, 0, none⟩) ∧ s0.w.heap.size ≤ b ∧ Var g6 b 64 ((Deed.with_Tag (Deed.with_Peer (Deed.with_Req (⟨a0.Kind, 0, 0, 0, false⟩ : Deed) jw) a0.Peer) a0.Tag) : Deed) := g8 7 (by show _ < 9; decide) (by kernel_rfl)
           have gk : g5 10 = Value.pointer (some ⟨k8, 0, none⟩) := (ga 10 (by kernel_rfl)).trans g4
           have gl : gg = k8 := by have gd := gh.symm.trans gk; cases gd; rfl
           rw [gl] at gi gj
           have gm : g5 3 = j2 := (ga 3 (by kernel_rfl)).trans g1
           have gn : g5 7 = Value.bool (true) := (ga 7 (by kernel_rfl)).trans g2
           have go : g5 8 = Value.bool (decide (a0.Peer = (-1))) := (ga 8 (by kernel_rfl)).trans g3
           refine then_n (sr (L_load ty64 gm (j4.mono (je.trans (jr.trans (k0.le.trans (k9.le.trans (ke.le.trans (kq.le.trans (kx.le.trans g7.le)))))))) (by decide) (fun gp gq => L_load_var ty64 gk (gj) (by decide) (fun gr gs => L_seq64 (rfl : _ = gp) gq (rfl : _ = gr) gs (by decide) (mv (rfl : _ = Value.bool (decide (a0 = (Deed.with_Tag (Deed.with_Peer (Deed.with_Req (⟨a0.Kind, 0, 0, 0, false⟩ : Deed) jw) a0.Peer) a0.Tag)))) ?_)))))
           rcases Bool.eq_false_or_eq_true (decide (a0 = (Deed.with_Tag (Deed.with_Peer (Deed.with_Req (⟨a0.Kind, 0, 0, 0, false⟩ : Deed) jw) a0.Peer) a0.Tag))) with gu | gu
           ·have hr := ite_t gu hr; refine gt 103 (rfl : _ = Value.bool (decide (a0 = (Deed.with_Tag (Deed.with_Peer (Deed.with_Req (⟨a0.Kind, 0, 0, 0, false⟩ : Deed) jw) a0.Peer) a0.Tag)))) gu (mv gn (pt (rfl : _ = Value.bool (decide (a0 = (Deed.with_Tag (Deed.with_Peer (Deed.with_Req (⟨a0.Kind, 0, 0, 0, false⟩ : Deed) jw) a0.Peer) a0.Tag)))) gu (rfl : _ = Value.bool (true)) (mv (rfl : _ = Value.bool (true)) (gt 106 (rfl : _ = Value.bool (true)) rfl (mv go (pt (rfl : _ = Value.bool (true)) rfl (rfl : _ = Value.bool (decide (a0.Peer = (-1)))) (asg (rfl : _ = Value.bool (decide (a0.Peer = (-1)))) (nn (W_ret ?_))))))))); obtain rfl := Option.some.inj hr; exact done1 (Or.inl rfl) Try.results58 rfl ⟨_, _, rfl, rfl, gb, Vbool⟩
           ·have hr := ite_f gu hr; refine gf 103 (rfl : _ = Value.bool (decide (a0 = (Deed.with_Tag (Deed.with_Peer (Deed.with_Req (⟨a0.Kind, 0, 0, 0, false⟩ : Deed) jw) a0.Peer) a0.Tag)))) gu (pf (rfl : _ = Value.bool (decide (a0 = (Deed.with_Tag (Deed.with_Peer (Deed.with_Req (⟨a0.Kind, 0, 0, 0, false⟩ : Deed) jw) a0.Peer) a0.Tag)))) gu (rfl : _ = Value.bool (false)) (mv (rfl : _ = Value.bool (false)) (gf 106 (rfl : _ = Value.bool (false)) rfl (pf (rfl : _ = Value.bool (false)) rfl (rfl : _ = Value.bool (false)) (asg (rfl : _ = Value.bool (false)) (nn (W_ret ?_))))))); obtain rfl := Option.some.inj hr; exact done1 (Or.inl rfl) Try.results58 rfl ⟨_, _, rfl, rfl, gb, Vbool⟩
       ·have hr := ite_f kt hr
        rcases Bool.eq_false_or_eq_true (jm) with ku | ku
        ·have hr := ite_t ku hr
         refine W_draws mixed (by kernel_rfl) [PV.eq (Value.bool (j9)), PV.eq (Value.bool (j9)), PV.ptr (a0.Tag : Int), PV.eq (Value.int .i64 (a0.Tag)), PV.eq (Value.bool (decide (a0.Tag = (-1)))), PV.eq (Value.bool (decide (a0.Tag = (-1)))), PV.eq (Value.bool (jm)), PV.eq (Value.bool (jm)), PV.eq (undef), PV.eq (undef), PV.eq (undef), PV.eq (Value.bool (true)), PV.eq (Value.bool (decide (a0.Tag = (-1)))), PV.eq (Value.bool (true))] (Steps_cons ?_ (Steps_cons ?_ (Steps_cons ?_ (Steps_cons ?_ (Steps_cons ?_ (Steps_cons ?_ (Steps_cons ?_ (Steps_cons ?_ (Steps_cons ?_ (Steps_cons ?_ (Steps_cons ?_ (Steps_cons ?_ (Steps_cons ?_ (Steps_cons ?_ Steps_nil)))))))))))))) ?_
         ·intro kv kw kx ky kz Q g0; have g1 : kv 7 = Value.bool (j9) := (kz 7 (by kernel_rfl)).trans jv; exact mv g1 (fin g0 rfl)
         ·intro kv kw kx ky kz Q g0; have g1 : kv 52 = Value.bool (j9) := ky 0 52 (by kernel_rfl) (by kernel_rfl); exact mv g1 (fin g0 rfl)
         ·intro kv kw kx ky kz Q g0; have g1 : kv 3 = j2 := (kz 3 (by kernel_rfl)).trans ju; have g2 : kv 53 = Value.bool (j9) := ky 1 53 (by kernel_rfl) (by kernel_rfl); exact gt 53 g2 kt (L_fieldAddr fld64_2 Deed.of_Tag g1 (j4.mono (je.trans (jr.trans (k0.le.trans (k9.le.trans (ke.le.trans (kq.le.trans kx.le))))))) (by decide) (fun g3 g4 => fin g0 g4))
         ·intro kv kw kx ky kz Q g0; have g1 : kv 53 = Value.bool (j9) := ky 1 53 (by kernel_rfl) (by kernel_rfl); have g2 : Ptr _ (kv 54) (a0.Tag : Int) := ky 2 54 (by kernel_rfl) (by kernel_rfl); obtain ⟨g3, g4, g5⟩ : ∃ v, _ = v ∧ Ptr _ v _ := ⟨_, rfl, g2⟩; exact gt 53 g1 kt (li ty3 g4 g5 (fin g0 rfl))
         ·intro kv kw kx ky kz Q g0; have g1 : kv 53 = Value.bool (j9) := ky 1 53 (by kernel_rfl) (by kernel_rfl); have g2 : kv 55 = Value.int .i64 (a0.Tag) := ky 3 55 (by kernel_rfl) (by kernel_rfl); exact gt 53 g1 kt (L_eql g2 (rfl : _ = Value.int .i64 (-1)) (by decide) (fin g0 rfl))
         ·intro kv kw kx ky kz Q g0; have g1 : kv 53 = Value.bool (j9) := ky 1 53 (by kernel_rfl) (by kernel_rfl); have g2 : kv 56 = Value.bool (decide (a0.Tag = (-1))) := ky 4 56 (by kernel_rfl) (by kernel_rfl); exact pf g1 kt g2 (fin g0 rfl)
         ·intro kv kw kx ky kz Q g0; have g1 : kv 8 = Value.bool (jm) := (kz 8 (by kernel_rfl)).trans js; exact mv g1 (fin g0 rfl)
         ·intro kv kw kx ky kz Q g0; have g1 : kv 58 = Value.bool (jm) := ky 6 58 (by kernel_rfl) (by kernel_rfl); exact mv g1 (fin g0 rfl)
         ·intro kv kw kx ky kz Q g0; have g1 : kv 59 = Value.bool (jm) := ky 7 59 (by kernel_rfl) (by kernel_rfl); exact gf 59 g1 ku (fin g0 rfl)
         ·intro kv kw kx ky kz Q g0; have g1 : kv 59 = Value.bool (jm) := ky 7 59 (by kernel_rfl) (by kernel_rfl); exact gf 59 g1 ku (fin g0 rfl)
         ·intro kv kw kx ky kz Q g0; have g1 : kv 59 = Value.bool (jm) := ky 7 59 (by kernel_rfl) (by kernel_rfl); exact gf 59 g1 ku (fin g0 rfl)
         ·intro kv kw kx ky kz Q g0; have g1 : kv 59 = Value.bool (jm) := ky 7 59 (by kernel_rfl) (by kernel_rfl); exact pt g1 ku (rfl : _ = Value.bool (true)) (fin g0 rfl)
         ·intro kv kw kx ky kz Q g0; have g1 : kv 57 = Value.bool (decide (a0.Tag = (-1))) := ky 5 57 (by kernel_rfl) (by kernel_rfl); exact asg g1 (fin g0 rfl)
         ·intro kv kw kx ky kz Q g0; have g1 : kv 63 = Value.bool (true) := ky 11 63 (by kernel_rfl) (by kernel_rfl); exact asg g1 (fin g0 rfl)
         ·intro kv kw kx ky kz
          have g0 := Tch.ext ks kx
          have g1 : kv 3 = j2 := (kz 3 (by kernel_rfl)).trans ju
          have g2 : kv 7 = Value.bool (decide (a0.Tag = (-1))) := ky 12 7 (by kernel_rfl)
          have g3 : kv 8 = Value.bool (true) := ky 13 8 (by kernel_rfl)
          have g4 : kv 10 = Value.pointer (some ⟨k8, 0, none⟩) := (kz 10 (by kernel_rfl)).trans rfl
          refine block_n (then_n (W_seq ?_))
          refine W_drawP mixed 8 [PX.ptr (a0.Peer : Int), PX.eq (Value.int .i64 (a0.Peer)), PX.ptr (a0.Tag : Int), PX.eq (Value.int .i64 (a0.Tag)), PX.eq (Value.pointer (some ⟨k8, 1, none⟩)), PX.var s0.w.heap.size 64 ((Deed.with_Peer (Deed.with_Req (⟨a0.Kind, 0, 0, 0, false⟩ : Deed) jw) a0.Peer) : Deed), PX.eq (Value.pointer (some ⟨k8, 2, none⟩)), PX.var s0.w.heap.size 64 ((Deed.with_Tag (Deed.with_Peer (Deed.with_Req (⟨a0.Kind, 0, 0, 0, false⟩ : Deed) jw) a0.Peer) a0.Tag) : Deed), PX.var s0.w.heap.size 64 ((Deed.with_Req (⟨a0.Kind, 0, 0, 0, false⟩ : Deed) jw) : Deed)] [94, 95, 96, 97, 98, 10, 99, 10, 10] [[], [], [], [], [], [8], [], [5]] rfl (by kernel_rfl) (ent1 rfl ⟨k8, g4, (Nat.le_trans k2.size ka), (kr).ext kx⟩) (dis1 rfl) (StepsX_cons ?_ (StepsX_cons ?_ (StepsX_cons ?_ (StepsX_cons ?_ (StepsX_cons ?_ (StepsX_cons ?_ (StepsX_cons ?_ (StepsX_cons ?_ StepsX_nil)))))))) ?_
          ·intro g5 g6 g7 g8 g9 Q ga; have gb : g5 3 = j2 := (g9 3 (by kernel_rfl)).trans g1; exact L_fieldAddr fld64_1 Deed.of_Peer gb (j4.mono (je.trans (jr.trans (k0.le.trans (k9.le.trans (ke.le.trans (kq.le.trans (kx.le.trans g7.le)))))))) (by decide) (fun gc gd => L_nil (ga _ _ No (Ext.refl g6) (fun _ h => h.elim) gd (fun _ h => h.elim)))
          ·intro g5 g6 g7 g8 g9 Q ga; have gb : Ptr _ (g5 94) (a0.Peer : Int) := g8 0 (by kernel_rfl) (by show _ < 9; decide); obtain ⟨gc, gd, gg⟩ : ∃ v, _ = v ∧ Ptr _ v _ := ⟨_, rfl, gb⟩; exact li ty3 gd gg (L_nil (ga _ _ No (Ext.refl g6) (fun _ h => h.elim) rfl (fun _ h => h.elim)))
          ·intro g5 g6 g7 g8 g9 Q ga; have gb : g5 3 = j2 := (g9 3 (by kernel_rfl)).trans g1; exact L_fieldAddr fld64_2 Deed.of_Tag gb (j4.mono (je.trans (jr.trans (k0.le.trans (k9.le.trans (ke.le.trans (kq.le.trans (kx.le.trans g7.le)))))))) (by decide) (fun gc gd => L_nil (ga _ _ No (Ext.refl g6) (fun _ h => h.elim) gd (fun _ h => h.elim)))
          ·intro g5 g6 g7 g8 g9 Q ga; have gb : Ptr _ (g5 96) (a0.Tag : Int) := g8 2 (by kernel_rfl) (by show _ < 9; decide); obtain ⟨gc, gd, gg⟩ : ∃ v, _ = v ∧ Ptr _ v _ := ⟨_, rfl, gb⟩; exact li ty3 gd gg (L_nil (ga _ _ No (Ext.refl g6) (fun _ h => h.elim) rfl (fun _ h => h.elim)))
          ·intro g5 g6 g7 g8 g9 Q ga
           obtain ⟨gb, gc, gd, gg⟩ : ∃ b, g5 10 = Value.pointer (some ⟨b, 0, none⟩) ∧ s0.w.heap.size ≤ b ∧ Var g6 b 64 ((Deed.with_Req (⟨a0.Kind, 0, 0, 0, false⟩ : Deed) jw) : Deed) := g8 8 (by kernel_rfl) (by show _ < 9; decide)
           have gh : g5 10 = Value.pointer (some ⟨k8, 0, none⟩) := (g9 10 (by kernel_rfl)).trans g4
           have gi : gb = k8 := by have gj := gc.symm.trans gh; cases gj; rfl
           rw [gi] at gd gg
           exact L_fieldAddr_var fld64_1 gh (by decide) (L_nil (ga _ _ No (Ext.refl g6) (fun _ h => h.elim) rfl (fun _ h => h.elim)))
          ·intro g5 g6 g7 g8 g9 Q ga
           obtain ⟨gb, gc, gd, gg⟩ : ∃ b, g5 10 = Value.pointer (some ⟨b, 0, none⟩) ∧ s0.w.heap.size ≤ b ∧ Var g6 b 64 ((Deed.with_Req (⟨a0.Kind, 0, 0, 0, false⟩ : Deed) jw) : Deed) := g8 8 (by kernel_rfl) (by show _ < 9; decide)
           have gh : g5 10 = Value.pointer (some ⟨k8, 0, none⟩) := (g9 10 (by kernel_rfl)).trans g4
           have gi : gb = k8 := by have gj := gc.symm.trans gh; cases gj; rfl
           rw [gi] at gd gg
           have gk : g5 95 = Value.int .i64 (a0.Peer) := g8 1 (by kernel_rfl) (by show _ < 9; decide)
           have gl : g5 98 = Value.pointer (some ⟨k8, 1, none⟩) := g8 4 (by kernel_rfl) (by show _ < 9; decide)
           exact L_store_field ty3 Deed.set_Peer gl gk Vint (gg) (fun gm gn go => L_nil (ga undef _ _ gn (fun k h => ⟨8, (List.mem_singleton.2 rfl : (8 : Nat) ∈ [8]), (by show ownP (g5 10) k; rw [gh]; exact congrArg (fun z => Value.pointer (some ⟨z, 0, none⟩)) h.symm)⟩) ⟨_, gh, gd, go⟩ (fun k h => Or.inl ⟨8, (List.mem_singleton.2 rfl : (8 : Nat) ∈ [8]), h⟩)))
          ·intro g5 g6 g7 g8 g9 Q ga
           obtain ⟨gb, gc, gd, gg⟩ : ∃ b, g5 10 = Value.pointer (some ⟨b, 0, none⟩) ∧ s0.w.heap.size ≤ b ∧ Var g6 b 64 ((Deed.with_Peer (Deed.with_Req (⟨a0.Kind, 0, 0, 0, false⟩ : Deed) jw) a0.Peer) : Deed) := g8 5 (by kernel_rfl) (by show _ < 9; decide)
           have gh : g5 10 = Value.pointer (some ⟨k8, 0, none⟩) := (g9 10 (by kernel_rfl)).trans g4
           have gi : gb = k8 := by have gj := gc.symm.trans gh; cases gj; rfl
           rw [gi] at gd gg
           exact L_fieldAddr_var fld64_2 gh (by decide) (L_nil (ga _ _ No (Ext.refl g6) (fun _ h => h.elim) rfl (fun _ h => h.elim)))
          ·intro g5 g6 g7 g8 g9 Q ga
           obtain ⟨gb, gc, gd, gg⟩ : ∃ b, g5 10 = Value.pointer (some ⟨b, 0, none⟩) ∧ s0.w.heap.size ≤ b ∧ Var g6 b 64 ((Deed.with_Peer (Deed.with_Req (⟨a0.Kind, 0, 0, 0, false⟩ : Deed) jw) a0.Peer) : Deed) := g8 5 (by kernel_rfl) (by show _ < 9; decide)
           have gh : g5 10 = Value.pointer (some ⟨k8, 0, none⟩) := (g9 10 (by kernel_rfl)).trans g4
           have gi : gb = k8 := by have gj := gc.symm.trans gh; cases gj; rfl
           rw [gi] at gd gg
           have gk : g5 97 = Value.int .i64 (a0.Tag) := g8 3 (by kernel_rfl) (by show _ < 9; decide)
           have gl : g5 99 = Value.pointer (some ⟨k8, 2, none⟩) := g8 6 (by kernel_rfl) (by show _ < 9; decide)
           exact L_store_field ty3 Deed.set_Tag gl gk Vint (gg) (fun gm gn go => L_nil (ga undef _ _ gn (fun k h => ⟨5, (List.mem_singleton.2 rfl : (5 : Nat) ∈ [5]), (by show ownP (g5 10) k; rw [gh]; exact congrArg (fun z => Value.pointer (some ⟨z, 0, none⟩)) h.symm)⟩) ⟨_, gh, gd, go⟩ (fun k h => Or.inl ⟨5, (List.mem_singleton.2 rfl : (5 : Nat) ∈ [5]), h⟩)))
          ·intro g5 g6 g7 g8 g9 ga
           have gb := Tch.trans g0 g7 (fun k h => Or.inr (by have gc := ent_is (k := 8) rfl rfl h; have gd := Eq.mp (congrArg (fun v => ownP v k) (g4 : _ = Value.pointer (some ⟨k8, 0, none⟩))) gc; cases gd; exact (Nat.le_trans k2.size ka)))
           obtain ⟨gg, gh, gi, gj⟩ : ∃ b, g5 10 = Value.pointer (some ⟨b, 0, none⟩) ∧ s0.w.heap.size ≤ b ∧ Var g6 b 64 ((Deed.with_Tag (Deed.with_Peer (Deed.with_Req (⟨a0.Kind, 0, 0, 0, false⟩ : Deed) jw) a0.Peer) a0.Tag) : Deed) := g8 7 (by show _ < 9; decide) (by kernel_rfl)
           have gk : g5 10 = Value.pointer (some ⟨k8, 0, none⟩) := (ga 10 (by kernel_rfl)).trans g4
           have gl : gg = k8 := by have gd := gh.symm.trans gk; cases gd; rfl
           rw [gl] at gi gj
           have gm : g5 3 = j2 := (ga 3 (by kernel_rfl)).trans g1
           have gn : g5 7 = Value.bool (decide (a0.Tag = (-1))) := (ga 7 (by kernel_rfl)).trans g2
           have go : g5 8 = Value.bool (true) := (ga 8 (by kernel_rfl)).trans g3
           refine then_n (sr (L_load ty64 gm (j4.mono (je.trans (jr.trans (k0.le.trans (k9.le.trans (ke.le.trans (kq.le.trans (kx.le.trans g7.le)))))))) (by decide) (fun gp gq => L_load_var ty64 gk (gj) (by decide) (fun gr gs => L_seq64 (rfl : _ = gp) gq (rfl : _ = gr) gs (by decide) (mv (rfl : _ = Value.bool (decide (a0 = (Deed.with_Tag (Deed.with_Peer (Deed.with_Req (⟨a0.Kind, 0, 0, 0, false⟩ : Deed) jw) a0.Peer) a0.Tag)))) ?_)))))
           rcases Bool.eq_false_or_eq_true (decide (a0 = (Deed.with_Tag (Deed.with_Peer (Deed.with_Req (⟨a0.Kind, 0, 0, 0, false⟩ : Deed) jw) a0.Peer) a0.Tag))) with gu | gu
           ·have hr := ite_t gu hr
            refine gt 103 (rfl : _ = Value.bool (decide (a0 = (Deed.with_Tag (Deed.with_Peer (Deed.with_Req (⟨a0.Kind, 0, 0, 0, false⟩ : Deed) jw) a0.Peer) a0.Tag)))) gu (mv gn (pt (rfl : _ = Value.bool (decide (a0 = (Deed.with_Tag (Deed.with_Peer (Deed.with_Req (⟨a0.Kind, 0, 0, 0, false⟩ : Deed) jw) a0.Peer) a0.Tag)))) gu (rfl : _ = Value.bool (decide (a0.Tag = (-1)))) (mv (rfl : _ = Value.bool (decide (a0.Tag = (-1)))) ?_)))
            rcases Bool.eq_false_or_eq_true (decide (a0.Tag = (-1))) with gv | gv
            ·have hr := ite_t gv hr; refine gt 106 (rfl : _ = Value.bool (decide (a0.Tag = (-1)))) gv (mv go (pt (rfl : _ = Value.bool (decide (a0.Tag = (-1)))) gv (rfl : _ = Value.bool (true)) (asg (rfl : _ = Value.bool (true)) (nn (W_ret ?_))))); obtain rfl := Option.some.inj hr; exact done1 (Or.inl rfl) Try.results58 rfl ⟨_, _, rfl, rfl, gb, Vbool⟩
            ·have hr := ite_f gv hr; refine gf 106 (rfl : _ = Value.bool (decide (a0.Tag = (-1)))) gv (pf (rfl : _ = Value.bool (decide (a0.Tag = (-1)))) gv (rfl : _ = Value.bool (false)) (asg (rfl : _ = Value.bool (false)) (nn (W_ret ?_)))); obtain rfl := Option.some.inj hr; exact done1 (Or.inl rfl) Try.results58 rfl ⟨_, _, rfl, rfl, gb, Vbool⟩
           ·have hr := ite_f gu hr; refine gf 103 (rfl : _ = Value.bool (decide (a0 = (Deed.with_Tag (Deed.with_Peer (Deed.with_Req (⟨a0.Kind, 0, 0, 0, false⟩ : Deed) jw) a0.Peer) a0.Tag)))) gu (pf (rfl : _ = Value.bool (decide (a0 = (Deed.with_Tag (Deed.with_Peer (Deed.with_Req (⟨a0.Kind, 0, 0, 0, false⟩ : Deed) jw) a0.Peer) a0.Tag)))) gu (rfl : _ = Value.bool (false)) (mv (rfl : _ = Value.bool (false)) (gf 106 (rfl : _ = Value.bool (false)) rfl (pf (rfl : _ = Value.bool (false)) rfl (rfl : _ = Value.bool (false)) (asg (rfl : _ = Value.bool (false)) (nn (W_ret ?_))))))); obtain rfl := Option.some.inj hr; exact done1 (Or.inl rfl) Try.results58 rfl ⟨_, _, rfl, rfl, gb, Vbool⟩
        ·have hr := ite_f ku hr
         refine W_draws mixed (by kernel_rfl) [PV.eq (Value.bool (j9)), PV.eq (Value.bool (j9)), PV.ptr (a0.Tag : Int), PV.eq (Value.int .i64 (a0.Tag)), PV.eq (Value.bool (decide (a0.Tag = (-1)))), PV.eq (Value.bool (decide (a0.Tag = (-1)))), PV.eq (Value.bool (jm)), PV.eq (Value.bool (jm)), PV.ptr (a0.Peer : Int), PV.eq (Value.int .i64 (a0.Peer)), PV.eq (Value.bool (decide (a0.Peer = (-1)))), PV.eq (Value.bool (decide (a0.Peer = (-1)))), PV.eq (Value.bool (decide (a0.Tag = (-1)))), PV.eq (Value.bool (decide (a0.Peer = (-1))))] (Steps_cons ?_ (Steps_cons ?_ (Steps_cons ?_ (Steps_cons ?_ (Steps_cons ?_ (Steps_cons ?_ (Steps_cons ?_ (Steps_cons ?_ (Steps_cons ?_ (Steps_cons ?_ (Steps_cons ?_ (Steps_cons ?_ (Steps_cons ?_ (Steps_cons ?_ Steps_nil)))))))))))))) ?_
         ·intro kv kw kx ky kz Q g0; have g1 : kv 7 = Value.bool (j9) := (kz 7 (by kernel_rfl)).trans jv; exact mv g1 (fin g0 rfl)
         ·intro kv kw kx ky kz Q g0; have g1 : kv 52 = Value.bool (j9) := ky 0 52 (by kernel_rfl) (by kernel_rfl); exact mv g1 (fin g0 rfl)
         ·intro kv kw kx ky kz Q g0; have g1 : kv 3 = j2 := (kz 3 (by kernel_rfl)).trans ju; have g2 : kv 53 = Value.bool (j9) := ky 1 53 (by kernel_rfl) (by kernel_rfl); exact gt 53 g2 kt (L_fieldAddr fld64_2 Deed.of_Tag g1 (j4.mono (je.trans (jr.trans (k0.le.trans (k9.le.trans (ke.le.trans (kq.le.trans kx.le))))))) (by decide) (fun g3 g4 => fin g0 g4))
         ·intro kv kw kx ky kz Q g0; have g1 : kv 53 = Value.bool (j9) := ky 1 53 (by kernel_rfl) (by kernel_rfl); have g2 : Ptr _ (kv 54) (a0.Tag : Int) := ky 2 54 (by kernel_rfl) (by kernel_rfl); obtain ⟨g3, g4, g5⟩ : ∃ v, _ = v ∧ Ptr _ v _ := ⟨_, rfl, g2⟩; exact gt 53 g1 kt (li ty3 g4 g5 (fin g0 rfl))
         ·intro kv kw kx ky kz Q g0; have g1 : kv 53 = Value.bool (j9) := ky 1 53 (by kernel_rfl) (by kernel_rfl); have g2 : kv 55 = Value.int .i64 (a0.Tag) := ky 3 55 (by kernel_rfl) (by kernel_rfl); exact gt 53 g1 kt (L_eql g2 (rfl : _ = Value.int .i64 (-1)) (by decide) (fin g0 rfl))
         ·intro kv kw kx ky kz Q g0; have g1 : kv 53 = Value.bool (j9) := ky 1 53 (by kernel_rfl) (by kernel_rfl); have g2 : kv 56 = Value.bool (decide (a0.Tag = (-1))) := ky 4 56 (by kernel_rfl) (by kernel_rfl); exact pf g1 kt g2 (fin g0 rfl)
         ·intro kv kw kx ky kz Q g0; have g1 : kv 8 = Value.bool (jm) := (kz 8 (by kernel_rfl)).trans js; exact mv g1 (fin g0 rfl)
         ·intro kv kw kx ky kz Q g0; have g1 : kv 58 = Value.bool (jm) := ky 6 58 (by kernel_rfl) (by kernel_rfl); exact mv g1 (fin g0 rfl)
         ·intro kv kw kx ky kz Q g0; have g1 : kv 3 = j2 := (kz 3 (by kernel_rfl)).trans ju; have g2 : kv 59 = Value.bool (jm) := ky 7 59 (by kernel_rfl) (by kernel_rfl); exact gt 59 g2 ku (L_fieldAddr fld64_1 Deed.of_Peer g1 (j4.mono (je.trans (jr.trans (k0.le.trans (k9.le.trans (ke.le.trans (kq.le.trans kx.le))))))) (by decide) (fun g3 g4 => fin g0 g4))
         ·intro kv kw kx ky kz Q g0; have g1 : kv 59 = Value.bool (jm) := ky 7 59 (by kernel_rfl) (by kernel_rfl); have g2 : Ptr _ (kv 60) (a0.Peer : Int) := ky 8 60 (by kernel_rfl) (by kernel_rfl); obtain ⟨g3, g4, g5⟩ : ∃ v, _ = v ∧ Ptr _ v _ := ⟨_, rfl, g2⟩; exact gt 59 g1 ku (li ty3 g4 g5 (fin g0 rfl))
         ·intro kv kw kx ky kz Q g0; have g1 : kv 59 = Value.bool (jm) := ky 7 59 (by kernel_rfl) (by kernel_rfl); have g2 : kv 61 = Value.int .i64 (a0.Peer) := ky 9 61 (by kernel_rfl) (by kernel_rfl); exact gt 59 g1 ku (L_eql g2 (rfl : _ = Value.int .i64 (-1)) (by decide) (fin g0 rfl))
         ·intro kv kw kx ky kz Q g0; have g1 : kv 59 = Value.bool (jm) := ky 7 59 (by kernel_rfl) (by kernel_rfl); have g2 : kv 62 = Value.bool (decide (a0.Peer = (-1))) := ky 10 62 (by kernel_rfl) (by kernel_rfl); exact pf g1 ku g2 (fin g0 rfl)
         ·intro kv kw kx ky kz Q g0; have g1 : kv 57 = Value.bool (decide (a0.Tag = (-1))) := ky 5 57 (by kernel_rfl) (by kernel_rfl); exact asg g1 (fin g0 rfl)
         ·intro kv kw kx ky kz Q g0; have g1 : kv 63 = Value.bool (decide (a0.Peer = (-1))) := ky 11 63 (by kernel_rfl) (by kernel_rfl); exact asg g1 (fin g0 rfl)
         ·intro kv kw kx ky kz
          have g0 := Tch.ext ks kx
          have g1 : kv 3 = j2 := (kz 3 (by kernel_rfl)).trans ju
          have g2 : kv 7 = Value.bool (decide (a0.Tag = (-1))) := ky 12 7 (by kernel_rfl)
          have g3 : kv 8 = Value.bool (decide (a0.Peer = (-1))) := ky 13 8 (by kernel_rfl)
          have g4 : kv 10 = Value.pointer (some ⟨k8, 0, none⟩) := (kz 10 (by kernel_rfl)).trans rfl
          refine block_n (then_n (W_seq ?_))
          refine W_drawP mixed 8 [PX.ptr (a0.Peer : Int), PX.eq (Value.int .i64 (a0.Peer)), PX.ptr (a0.Tag : Int), PX.eq (Value.int .i64 (a0.Tag)), PX.eq (Value.pointer (some ⟨k8, 1, none⟩)), PX.var s0.w.heap.size 64 ((Deed.with_Peer (Deed.with_Req (⟨a0.Kind, 0, 0, 0, false⟩ : Deed) jw) a0.Peer) : Deed), PX.eq (Value.pointer (some ⟨k8, 2, none⟩)), PX.var s0.w.heap.size 64 ((Deed.with_Tag (Deed.with_Peer (Deed.with_Req (⟨a0.Kind, 0, 0, 0, false⟩ : Deed) jw) a0.Peer) a0.Tag) : Deed), PX.var s0.w.heap.size 64 ((Deed.with_Req (⟨a0.Kind, 0, 0, 0, false⟩ : Deed) jw) : Deed)] [94, 95, 96, 97, 98, 10, 99, 10, 10] [[], [], [], [], [], [8], [], [5]] rfl (by kernel_rfl) (ent1 rfl ⟨k8, g4, (Nat.le_trans k2.size ka), (kr).ext kx⟩) (dis1 rfl) (StepsX_cons ?_ (StepsX_cons ?_ (StepsX_cons ?_ (StepsX_cons ?_ (StepsX_cons ?_ (StepsX_cons ?_ (StepsX_cons ?_ (StepsX_cons ?_ StepsX_nil)))))))) ?_
          ·intro g5 g6 g7 g8 g9 Q ga; have gb : g5 3 = j2 := (g9 3 (by kernel_rfl)).trans g1; exact L_fieldAddr fld64_1 Deed.of_Peer gb (j4.mono (je.trans (jr.trans (k0.le.trans (k9.le.trans (ke.le.trans (kq.le.trans (kx.le.trans g7.le)))))))) (by decide) (fun gc gd => L_nil (ga _ _ No (Ext.refl g6) (fun _ h => h.elim) gd (fun _ h => h.elim)))
          ·intro g5 g6 g7 g8 g9 Q ga; have gb : Ptr _ (g5 94) (a0.Peer : Int) := g8 0 (by kernel_rfl) (by show _ < 9; decide); obtain ⟨gc, gd, gg⟩ : ∃ v, _ = v ∧ Ptr _ v _ := ⟨_, rfl, gb⟩; exact li ty3 gd gg (L_nil (ga _ _ No (Ext.refl g6) (fun _ h => h.elim) rfl (fun _ h => h.elim)))
          ·intro g5 g6 g7 g8 g9 Q ga; have gb : g5 3 = j2 := (g9 3 (by kernel_rfl)).trans g1; exact L_fieldAddr fld64_2 Deed.of_Tag gb (j4.mono (je.trans (jr.trans (k0.le.trans (k9.le.trans (ke.le.trans (kq.le.trans (kx.le.trans g7.le)))))))) (by decide) (fun gc gd => L_nil (ga _ _ No (Ext.refl g6) (fun _ h => h.elim) gd (fun _ h => h.elim)))
          ·intro g5 g6 g7 g8 g9 Q ga; have gb : Ptr _ (g5 96) (a0.Tag : Int) := g8 2 (by kernel_rfl) (by show _ < 9; decide); obtain ⟨gc, gd, gg⟩ : ∃ v, _ = v ∧ Ptr _ v _ := ⟨_, rfl, gb⟩; exact li ty3 gd gg (L_nil (ga _ _ No (Ext.refl g6) (fun _ h => h.elim) rfl (fun _ h => h.elim)))
          ·intro g5 g6 g7 g8 g9 Q ga
           obtain ⟨gb, gc, gd, gg⟩ : ∃ b, g5 10 = Value.pointer (some ⟨b, 0, none⟩) ∧ s0.w.heap.size ≤ b ∧ Var g6 b 64 ((Deed.with_Req (⟨a0.Kind, 0, 0, 0, false⟩ : Deed) jw) : Deed) := g8 8 (by kernel_rfl) (by show _ < 9; decide)
           have gh : g5 10 = Value.pointer (some ⟨k8, 0, none⟩) := (g9 10 (by kernel_rfl)).trans g4
           have gi : gb = k8 := by have gj := gc.symm.trans gh; cases gj; rfl
           rw [gi] at gd gg
           exact L_fieldAddr_var fld64_1 gh (by decide) (L_nil (ga _ _ No (Ext.refl g6) (fun _ h => h.elim) rfl (fun _ h => h.elim)))
          ·intro g5 g6 g7 g8 g9 Q ga
           obtain ⟨gb, gc, gd, gg⟩ : ∃ b, g5 10 = Value.pointer (some ⟨b, 0, none⟩) ∧ s0.w.heap.size ≤ b ∧ Var g6 b 64 ((Deed.with_Req (⟨a0.Kind, 0, 0, 0, false⟩ : Deed) jw) : Deed) := g8 8 (by kernel_rfl) (by show _ < 9; decide)
           have gh : g5 10 = Value.pointer (some ⟨k8, 0, none⟩) := (g9 10 (by kernel_rfl)).trans g4
           have gi : gb = k8 := by have gj := gc.symm.trans gh; cases gj; rfl
           rw [gi] at gd gg
           have gk : g5 95 = Value.int .i64 (a0.Peer) := g8 1 (by kernel_rfl) (by show _ < 9; decide)
           have gl : g5 98 = Value.pointer (some ⟨k8, 1, none⟩) := g8 4 (by kernel_rfl) (by show _ < 9; decide)
           exact L_store_field ty3 Deed.set_Peer gl gk Vint (gg) (fun gm gn go => L_nil (ga undef _ _ gn (fun k h => ⟨8, (List.mem_singleton.2 rfl : (8 : Nat) ∈ [8]), (by show ownP (g5 10) k; rw [gh]; exact congrArg (fun z => Value.pointer (some ⟨z, 0, none⟩)) h.symm)⟩) ⟨_, gh, gd, go⟩ (fun k h => Or.inl ⟨8, (List.mem_singleton.2 rfl : (8 : Nat) ∈ [8]), h⟩)))
          ·intro g5 g6 g7 g8 g9 Q ga
           obtain ⟨gb, gc, gd, gg⟩ : ∃ b, g5 10 = Value.pointer (some ⟨b, 0, none⟩) ∧ s0.w.heap.size ≤ b ∧ Var g6 b 64 ((Deed.with_Peer (Deed.with_Req (⟨a0.Kind, 0, 0, 0, false⟩ : Deed) jw) a0.Peer) : Deed) := g8 5 (by kernel_rfl) (by show _ < 9; decide)
           have gh : g5 10 = Value.pointer (some ⟨k8, 0, none⟩) := (g9 10 (by kernel_rfl)).trans g4
           have gi : gb = k8 := by have gj := gc.symm.trans gh; cases gj; rfl
           rw [gi] at gd gg
           exact L_fieldAddr_var fld64_2 gh (by decide) (L_nil (ga _ _ No (Ext.refl g6) (fun _ h => h.elim) rfl (fun _ h => h.elim)))
          ·intro g5 g6 g7 g8 g9 Q ga
           obtain ⟨gb, gc, gd, gg⟩ : ∃ b, g5 10 = Value.pointer (some ⟨b, 0, none⟩) ∧ s0.w.heap.size ≤ b ∧ Var g6 b 64 ((Deed.with_Peer (Deed.with_Req (⟨a0.Kind, 0, 0, 0, false⟩ : Deed) jw) a0.Peer) : Deed) := g8 5 (by kernel_rfl) (by show _ < 9; decide)
           have gh : g5 10 = Value.pointer (some ⟨k8, 0, none⟩) := (g9 10 (by kernel_rfl)).trans g4
           have gi : gb = k8 := by have gj := gc.symm.trans gh; cases gj; rfl
           rw [gi] at gd gg
           have gk : g5 97 = Value.int .i64 (a0.Tag) := g8 3 (by kernel_rfl) (by show _ < 9; decide)
           have gl : g5 99 = Value.pointer (some ⟨k8, 2, none⟩) := g8 6 (by kernel_rfl) (by show _ < 9; decide)
           exact L_store_field ty3 Deed.set_Tag gl gk Vint (gg) (fun gm gn go => L_nil (ga undef _ _ gn (fun k h => ⟨5, (List.mem_singleton.2 rfl : (5 : Nat) ∈ [5]), (by show ownP (g5 10) k; rw [gh]; exact congrArg (fun z => Value.pointer (some ⟨z, 0, none⟩)) h.symm)⟩) ⟨_, gh, gd, go⟩ (fun k h => Or.inl ⟨5, (List.mem_singleton.2 rfl : (5 : Nat) ∈ [5]), h⟩)))
          ·intro g5 g6 g7 g8 g9 ga
           have gb := Tch.trans g0 g7 (fun k h => Or.inr (by have gc := ent_is (k := 8) rfl rfl h; have gd := Eq.mp (congrArg (fun v => ownP v k) (g4 : _ = Value.pointer (some ⟨k8, 0, none⟩))) gc; cases gd; exact (Nat.le_trans k2.size ka)))
           obtain ⟨gg, gh, gi, gj⟩ : ∃ b, g5 10 = Value.pointer (some ⟨b, 0, none⟩) ∧ s0.w.heap.size ≤ b ∧ Var g6 b 64 ((Deed.with_Tag (Deed.with_Peer (Deed.with_Req (⟨a0.Kind, 0, 0, 0, false⟩ : Deed) jw) a0.Peer) a0.Tag) : Deed) := g8 7 (by show _ < 9; decide) (by kernel_rfl)
           have gk : g5 10 = Value.pointer (some ⟨k8, 0, none⟩) := (ga 10 (by kernel_rfl)).trans g4
           have gl : gg = k8 := by have gd := gh.symm.trans gk; cases gd; rfl
           rw [gl] at gi gj
           have gm : g5 3 = j2 := (ga 3 (by kernel_rfl)).trans g1
           have gn : g5 7 = Value.bool (decide (a0.Tag = (-1))) := (ga 7 (by kernel_rfl)).trans g2
           have go : g5 8 = Value.bool (decide (a0.Peer = (-1))) := (ga 8 (by kernel_rfl)).trans g3
           refine then_n (sr (L_load ty64 gm (j4.mono (je.trans (jr.trans (k0.le.trans (k9.le.trans (ke.le.trans (kq.le.trans (kx.le.trans g7.le)))))))) (by decide) (fun gp gq => L_load_var ty64 gk (gj) (by decide) (fun gr gs => L_seq64 (rfl : _ = gp) gq (rfl : _ = gr) gs (by decide) (mv (rfl : _ = Value.bool (decide (a0 = (Deed.with_Tag (Deed.with_Peer (Deed.with_Req (⟨a0.Kind, 0, 0, 0, false⟩ : Deed) jw) a0.Peer) a0.Tag)))) ?_)))))
           rcases Bool.eq_false_or_eq_true (decide (a0 = (Deed.with_Tag (Deed.with_Peer (Deed.with_Req (⟨a0.Kind, 0, 0, 0, false⟩ : Deed) jw) a0.Peer) a0.Tag))) with gu | gu
           ·have hr := ite_t gu hr
            refine gt 103 (rfl : _ = Value.bool (decide (a0 = (Deed.with_Tag (Deed.with_Peer (Deed.with_Req (⟨a0.Kind, 0, 0, 0, false⟩ : Deed) jw) a0.Peer) a0.Tag)))) gu (mv gn (pt (rfl : _ = Value.bool (decide (a0 = (Deed.with_Tag (Deed.with_Peer (Deed.with_Req (⟨a0.Kind, 0, 0, 0, false⟩ : Deed) jw) a0.Peer) a0.Tag)))) gu (rfl : _ = Value.bool (decide (a0.Tag = (-1)))) (mv (rfl : _ = Value.bool (decide (a0.Tag = (-1)))) ?_)))
            rcases Bool.eq_false_or_eq_true (decide (a0.Tag = (-1))) with gv | gv
            ·have hr := ite_t gv hr; refine gt 106 (rfl : _ = Value.bool (decide (a0.Tag = (-1)))) gv (mv go (pt (rfl : _ = Value.bool (decide (a0.Tag = (-1)))) gv (rfl : _ = Value.bool (decide (a0.Peer = (-1)))) (asg (rfl : _ = Value.bool (decide (a0.Peer = (-1)))) (nn (W_ret ?_))))); obtain rfl := Option.some.inj hr; exact done1 (Or.inl rfl) Try.results58 rfl ⟨_, _, rfl, rfl, gb, Vbool⟩
            ·have hr := ite_f gv hr; refine gf 106 (rfl : _ = Value.bool (decide (a0.Tag = (-1)))) gv (pf (rfl : _ = Value.bool (decide (a0.Tag = (-1)))) gv (rfl : _ = Value.bool (false)) (asg (rfl : _ = Value.bool (false)) (nn (W_ret ?_)))); obtain rfl := Option.some.inj hr; exact done1 (Or.inl rfl) Try.results58 rfl ⟨_, _, rfl, rfl, gb, Vbool⟩
           ·have hr := ite_f gu hr; refine gf 103 (rfl : _ = Value.bool (decide (a0 = (Deed.with_Tag (Deed.with_Peer (Deed.with_Req (⟨a0.Kind, 0, 0, 0, false⟩ : Deed) jw) a0.Peer) a0.Tag)))) gu (pf (rfl : _ = Value.bool (decide (a0 = (Deed.with_Tag (Deed.with_Peer (Deed.with_Req (⟨a0.Kind, 0, 0, 0, false⟩ : Deed) jw) a0.Peer) a0.Tag)))) gu (rfl : _ = Value.bool (false)) (mv (rfl : _ = Value.bool (false)) (gf 106 (rfl : _ = Value.bool (false)) rfl (pf (rfl : _ = Value.bool (false)) rfl (rfl : _ = Value.bool (false)) (asg (rfl : _ = Value.bool (false)) (nn (W_ret ?_))))))); obtain rfl := Option.some.inj hr; exact done1 (Or.inl rfl) Try.results58 rfl ⟨_, _, rfl, rfl, gb, Vbool⟩
      ·have hr := ite_f ko hr
       refine W_skip (then_n ?_)
       rcases Bool.eq_false_or_eq_true (j9) with kp | kp
       ·have hr := ite_t kp hr
        rcases Bool.eq_false_or_eq_true (jm) with kq | kq
        ·have hr := ite_t kq hr
         refine W_draws mixed (by kernel_rfl) [PV.eq (Value.bool (j9)), PV.eq (Value.bool (j9)), PV.eq (undef), PV.eq (undef), PV.eq (undef), PV.eq (Value.bool (true)), PV.eq (Value.bool (jm)), PV.eq (Value.bool (jm)), PV.eq (undef), PV.eq (undef), PV.eq (undef), PV.eq (Value.bool (true)), PV.eq (Value.bool (true)), PV.eq (Value.bool (true))] (Steps_cons ?_ (Steps_cons ?_ (Steps_cons ?_ (Steps_cons ?_ (Steps_cons ?_ (Steps_cons ?_ (Steps_cons ?_ (Steps_cons ?_ (Steps_cons ?_ (Steps_cons ?_ (Steps_cons ?_ (Steps_cons ?_ (Steps_cons ?_ (Steps_cons ?_ Steps_nil)))))))))))))) ?_
         ·intro kr ks kt ku kv Q kw; have kx : kr 7 = Value.bool (j9) := (kv 7 (by kernel_rfl)).trans jv; exact mv kx (fin kw rfl)
         ·intro kr ks kt ku kv Q kw; have kx : kr 52 = Value.bool (j9) := ku 0 52 (by kernel_rfl) (by kernel_rfl); exact mv kx (fin kw rfl)
         ·intro kr ks kt ku kv Q kw; have kx : kr 53 = Value.bool (j9) := ku 1 53 (by kernel_rfl) (by kernel_rfl); exact gf 53 kx kp (fin kw rfl)
         ·intro kr ks kt ku kv Q kw; have kx : kr 53 = Value.bool (j9) := ku 1 53 (by kernel_rfl) (by kernel_rfl); exact gf 53 kx kp (fin kw rfl)
         ·intro kr ks kt ku kv Q kw; have kx : kr 53 = Value.bool (j9) := ku 1 53 (by kernel_rfl) (by kernel_rfl); exact gf 53 kx kp (fin kw rfl)
         ·intro kr ks kt ku kv Q kw; have kx : kr 53 = Value.bool (j9) := ku 1 53 (by kernel_rfl) (by kernel_rfl); exact pt kx kp (rfl : _ = Value.bool (true)) (fin kw rfl)
         ·intro kr ks kt ku kv Q kw; have kx : kr 8 = Value.bool (jm) := (kv 8 (by kernel_rfl)).trans js; exact mv kx (fin kw rfl)
         ·intro kr ks kt ku kv Q kw; have kx : kr 58 = Value.bool (jm) := ku 6 58 (by kernel_rfl) (by kernel_rfl); exact mv kx (fin kw rfl)
         ·intro kr ks kt ku kv Q kw; have kx : kr 59 = Value.bool (jm) := ku 7 59 (by kernel_rfl) (by kernel_rfl); exact gf 59 kx kq (fin kw rfl)
         ·intro kr ks kt ku kv Q kw; have kx : kr 59 = Value.bool (jm) := ku 7 59 (by kernel_rfl) (by kernel_rfl); exact gf 59 kx kq (fin kw rfl)
         ·intro kr ks kt ku kv Q kw; have kx : kr 59 = Value.bool (jm) := ku 7 59 (by kernel_rfl) (by kernel_rfl); exact gf 59 kx kq (fin kw rfl)
         ·intro kr ks kt ku kv Q kw; have kx : kr 59 = Value.bool (jm) := ku 7 59 (by kernel_rfl) (by kernel_rfl); exact pt kx kq (rfl : _ = Value.bool (true)) (fin kw rfl)
         ·intro kr ks kt ku kv Q kw; have kx : kr 57 = Value.bool (true) := ku 5 57 (by kernel_rfl) (by kernel_rfl); exact asg kx (fin kw rfl)
         ·intro kr ks kt ku kv Q kw; have kx : kr 63 = Value.bool (true) := ku 11 63 (by kernel_rfl) (by kernel_rfl); exact asg kx (fin kw rfl)
         ·intro kr ks kt ku kv
          have kw := Tch.ext kg kt
          have kx : kr 3 = j2 := (kv 3 (by kernel_rfl)).trans ju
          have ky : kr 7 = Value.bool (true) := ku 12 7 (by kernel_rfl)
          have kz : kr 8 = Value.bool (true) := ku 13 8 (by kernel_rfl)
          have g0 : kr 10 = Value.pointer (some ⟨k8, 0, none⟩) := (kv 10 (by kernel_rfl)).trans rfl
          refine block_n (then_n (W_seq ?_))
          refine W_drawP mixed 8 [PX.ptr (a0.Peer : Int), PX.eq (Value.int .i64 (a0.Peer)), PX.ptr (a0.Tag : Int), PX.eq (Value.int .i64 (a0.Tag)), PX.eq (Value.pointer (some ⟨k8, 1, none⟩)), PX.var s0.w.heap.size 64 ((Deed.with_Peer (⟨a0.Kind, 0, 0, 0, false⟩ : Deed) a0.Peer) : Deed), PX.eq (Value.pointer (some ⟨k8, 2, none⟩)), PX.var s0.w.heap.size 64 ((Deed.with_Tag (Deed.with_Peer (⟨a0.Kind, 0, 0, 0, false⟩ : Deed) a0.Peer) a0.Tag) : Deed), PX.var s0.w.heap.size 64 ((⟨a0.Kind, 0, 0, 0, false⟩ : Deed) : Deed)] [94, 95, 96, 97, 98, 10, 99, 10, 10] [[], [], [], [], [], [8], [], [5]] rfl (by kernel_rfl) (ent1 rfl ⟨k8, g0, (Nat.le_trans k2.size ka), (kf).ext kt⟩) (dis1 rfl) (StepsX_cons ?_ (StepsX_cons ?_ (StepsX_cons ?_ (StepsX_cons ?_ (StepsX_cons ?_ (StepsX_cons ?_ (StepsX_cons ?_ (StepsX_cons ?_ StepsX_nil)))))))) ?_
          ·intro g1 g2 g3 g4 g5 Q g6; have g7 : g1 3 = j2 := (g5 3 (by kernel_rfl)).trans kx; exact L_fieldAddr fld64_1 Deed.of_Peer g7 (j4.mono (je.trans (jr.trans (k0.le.trans (k9.le.trans (ke.le.trans (kt.le.trans g3.le))))))) (by decide) (fun g8 g9 => L_nil (g6 _ _ No (Ext.refl g2) (fun _ h => h.elim) g9 (fun _ h => h.elim)))
          ·intro g1 g2 g3 g4 g5 Q g6; have g7 : Ptr _ (g1 94) (a0.Peer : Int) := g4 0 (by kernel_rfl) (by show _ < 9; decide); obtain ⟨g8, g9, ga⟩ : ∃ v, _ = v ∧ Ptr _ v _ := ⟨_, rfl, g7⟩; exact li ty3 g9 ga (L_nil (g6 _ _ No (Ext.refl g2) (fun _ h => h.elim) rfl (fun _ h => h.elim)))
          ·intro g1 g2 g3 g4 g5 Q g6; have g7 : g1 3 = j2 := (g5 3 (by kernel_rfl)).trans kx; exact L_fieldAddr fld64_2 Deed.of_Tag g7 (j4.mono (je.trans (jr.trans (k0.le.trans (k9.le.trans (ke.le.trans (kt.le.trans g3.le))))))) (by decide) (fun g8 g9 => L_nil (g6 _ _ No (Ext.refl g2) (fun _ h => h.elim) g9 (fun _ h => h.elim)))
          ·intro g1 g2 g3 g4 g5 Q g6; have g7 : Ptr _ (g1 96) (a0.Tag : Int) := g4 2 (by kernel_rfl) (by show _ < 9; decide); obtain ⟨g8, g9, ga⟩ : ∃ v, _ = v ∧ Ptr _ v _ := ⟨_, rfl, g7⟩; exact li ty3 g9 ga (L_nil (g6 _ _ No (Ext.refl g2) (fun _ h => h.elim) rfl (fun _ h => h.elim)))
          ·intro g1 g2 g3 g4 g5 Q g6
           obtain ⟨g7, g8, g9, ga⟩ : ∃ b, g1 10 = Value.pointer (some ⟨b, 0, none⟩) ∧ s0.w.heap.size ≤ b ∧ Var g2 b 64 ((⟨a0.Kind, 0, 0, 0, false⟩ : Deed) : Deed) := g4 8 (by kernel_rfl) (by show _ < 9; decide)
           have gb : g1 10 = Value.pointer (some ⟨k8, 0, none⟩) := (g5 10 (by kernel_rfl)).trans g0
           have gc : g7 = k8 := by have gd := g8.symm.trans gb; cases gd; rfl
           rw [gc] at g9 ga
           exact L_fieldAddr_var fld64_1 gb (by decide) (L_nil (g6 _ _ No (Ext.refl g2) (fun _ h => h.elim) rfl (fun _ h => h.elim)))
          ·intro g1 g2 g3 g4 g5 Q g6
           obtain ⟨g7, g8, g9, ga⟩ : ∃ b, g1 10 = Value.pointer (some ⟨b, 0, none⟩) ∧ s0.w.heap.size ≤ b ∧ Var g2 b 64 ((⟨a0.Kind, 0, 0, 0, false⟩ : Deed) : Deed) := g4 8 (by kernel_rfl) (by show _ < 9; decide)
           have gb : g1 10 = Value.pointer (some ⟨k8, 0, none⟩) := (g5 10 (by kernel_rfl)).trans g0
           have gc : g7 = k8 := by have gd := g8.symm.trans gb; cases gd; rfl
           rw [gc] at g9 ga
           have gg : g1 95 = Value.int .i64 (a0.Peer) := g4 1 (by kernel_rfl) (by show _ < 9; decide)
           have gh : g1 98 = Value.pointer (some ⟨k8, 1, none⟩) := g4 4 (by kernel_rfl) (by show _ < 9; decide)
           exact L_store_field ty3 Deed.set_Peer gh gg Vint (ga) (fun gi gj gk => L_nil (g6 undef _ _ gj (fun k h => ⟨8, (List.mem_singleton.2 rfl : (8 : Nat) ∈ [8]), (by show ownP (g1 10) k; rw [gb]; exact congrArg (fun z => Value.pointer (some ⟨z, 0, none⟩)) h.symm)⟩) ⟨_, gb, g9, gk⟩ (fun k h => Or.inl ⟨8, (List.mem_singleton.2 rfl : (8 : Nat) ∈ [8]), h⟩)))
          ·intro g1 g2 g3 g4 g5 Q g6
           obtain ⟨g7, g8, g9, ga⟩ : ∃ b, g1 10 = Value.pointer (some ⟨b, 0, none⟩) ∧ s0.w.heap.size ≤ b ∧ Var g2 b 64 ((Deed.with_Peer (⟨a0.Kind, 0, 0, 0, false⟩ : Deed) a0.Peer) : Deed) := g4 5 (by kernel_rfl) (by show _ < 9; decide)
           have gb : g1 10 = Value.pointer (some ⟨k8, 0, none⟩) := (g5 10 (by kernel_rfl)).trans g0
           have gc : g7 = k8 := by have gd := g8.symm.trans gb; cases gd; rfl
           rw [gc] at g9 ga
           exact L_fieldAddr_var fld64_2 gb (by decide) (L_nil (g6 _ _ No (Ext.refl g2) (fun _ h => h.elim) rfl (fun _ h => h.elim)))
          ·intro g1 g2 g3 g4 g5 Q g6
           obtain ⟨g7, g8, g9, ga⟩ : ∃ b, g1 10 = Value.pointer (some ⟨b, 0, none⟩) ∧ s0.w.heap.size ≤ b ∧ Var g2 b 64 ((Deed.with_Peer (⟨a0.Kind, 0, 0, 0, false⟩ : Deed) a0.Peer) : Deed) := g4 5 (by kernel_rfl) (by show _ < 9; decide)
           have gb : g1 10 = Value.pointer (some ⟨k8, 0, none⟩) := (g5 10 (by kernel_rfl)).trans g0
           have gc : g7 = k8 := by have gd := g8.symm.trans gb; cases gd; rfl
           rw [gc] at g9 ga
           have gg : g1 97 = Value.int .i64 (a0.Tag) := g4 3 (by kernel_rfl) (by show _ < 9; decide)
           have gh : g1 99 = Value.pointer (some ⟨k8, 2, none⟩) := g4 6 (by kernel_rfl) (by show _ < 9; decide)
           exact L_store_field ty3 Deed.set_Tag gh gg Vint (ga) (fun gi gj gk => L_nil (g6 undef _ _ gj (fun k h => ⟨5, (List.mem_singleton.2 rfl : (5 : Nat) ∈ [5]), (by show ownP (g1 10) k; rw [gb]; exact congrArg (fun z => Value.pointer (some ⟨z, 0, none⟩)) h.symm)⟩) ⟨_, gb, g9, gk⟩ (fun k h => Or.inl ⟨5, (List.mem_singleton.2 rfl : (5 : Nat) ∈ [5]), h⟩)))
          ·intro g1 g2 g3 g4 g5 g6
           have g7 := Tch.trans kw g3 (fun k h => Or.inr (by have g8 := ent_is (k := 8) rfl rfl h; have g9 := Eq.mp (congrArg (fun v => ownP v k) (g0 : _ = Value.pointer (some ⟨k8, 0, none⟩))) g8; cases g9; exact (Nat.le_trans k2.size ka)))
           obtain ⟨ga, gb, gc, gd⟩ : ∃ b, g1 10 = Value.pointer (some ⟨b, 0, none⟩) ∧ s0.w.heap.size ≤ b ∧ Var g2 b 64 ((Deed.with_Tag (Deed.with_Peer (⟨a0.Kind, 0, 0, 0, false⟩ : Deed) a0.Peer) a0.Tag) : Deed) := g4 7 (by show _ < 9; decide) (by kernel_rfl)
           have gg : g1 10 = Value.pointer (some ⟨k8, 0, none⟩) := (g6 10 (by kernel_rfl)).trans g0
           have gh : ga = k8 := by have g9 := gb.symm.trans gg; cases g9; rfl
           rw [gh] at gc gd
           have gi : g1 3 = j2 := (g6 3 (by kernel_rfl)).trans kx
           have gj : g1 7 = Value.bool (true) := (g6 7 (by kernel_rfl)).trans ky
           have gk : g1 8 = Value.bool (true) := (g6 8 (by kernel_rfl)).trans kz
           refine then_n (sr (L_load ty64 gi (j4.mono (je.trans (jr.trans (k0.le.trans (k9.le.trans (ke.le.trans (kt.le.trans g3.le))))))) (by decide) (fun gl gm => L_load_var ty64 gg (gd) (by decide) (fun gn go => L_seq64 (rfl : _ = gl) gm (rfl : _ = gn) go (by decide) (mv (rfl : _ = Value.bool (decide (a0 = (Deed.with_Tag (Deed.with_Peer (⟨a0.Kind, 0, 0, 0, false⟩ : Deed) a0.Peer) a0.Tag)))) ?_)))))
           rcases Bool.eq_false_or_eq_true (decide (a0 = (Deed.with_Tag (Deed.with_Peer (⟨a0.Kind, 0, 0, 0, false⟩ : Deed) a0.Peer) a0.Tag))) with gp | gp
           ·have hr := ite_t gp hr; refine gt 103 (rfl : _ = Value.bool (decide (a0 = (Deed.with_Tag (Deed.with_Peer (⟨a0.Kind, 0, 0, 0, false⟩ : Deed) a0.Peer) a0.Tag)))) gp (mv gj (pt (rfl : _ = Value.bool (decide (a0 = (Deed.with_Tag (Deed.with_Peer (⟨a0.Kind, 0, 0, 0, false⟩ : Deed) a0.Peer) a0.Tag)))) gp (rfl : _ = Value.bool (true)) (mv (rfl : _ = Value.bool (true)) (gt 106 (rfl : _ = Value.bool (true)) rfl (mv gk (pt (rfl : _ = Value.bool (true)) rfl (rfl : _ = Value.bool (true)) (asg (rfl : _ = Value.bool (true)) (nn (W_ret ?_))))))))); obtain rfl := Option.some.inj hr; exact done1 (Or.inl rfl) Try.results58 rfl ⟨_, _, rfl, rfl, g7, Vbool⟩
           ·have hr := ite_f gp hr; refine gf 103 (rfl : _ = Value.bool (decide (a0 = (Deed.with_Tag (Deed.with_Peer (⟨a0.Kind, 0, 0, 0, false⟩ : Deed) a0.Peer) a0.Tag)))) gp (pf (rfl : _ = Value.bool (decide (a0 = (Deed.with_Tag (Deed.with_Peer (⟨a0.Kind, 0, 0, 0, false⟩ : Deed) a0.Peer) a0.Tag)))) gp (rfl : _ = Value.bool (false)) (mv (rfl : _ = Value.bool (false)) (gf 106 (rfl : _ = Value.bool (false)) rfl (pf (rfl : _ = Value.bool (false)) rfl (rfl : _ = Value.bool (false)) (asg (rfl : _ = Value.bool (false)) (nn (W_ret ?_))))))); obtain rfl := Option.some.inj hr; exact done1 (Or.inl rfl) Try.results58 rfl ⟨_, _, rfl, rfl, g7, Vbool⟩
        ·have hr := ite_f kq hr
         refine W_draws mixed (by kernel_rfl) [PV.eq (Value.bool (j9)), PV.eq (Value.bool (j9)), PV.eq (undef), PV.eq (undef), PV.eq (undef), PV.eq (Value.bool (true)), PV.eq (Value.bool (jm)), PV.eq (Value.bool (jm)), PV.ptr (a0.Peer : Int), PV.eq (Value.int .i64 (a0.Peer)), PV.eq (Value.bool (decide (a0.Peer = (-1)))), PV.eq (Value.bool (decide (a0.Peer = (-1)))), PV.eq (Value.bool (true)), PV.eq (Value.bool (decide (a0.Peer = (-1))))] (Steps_cons ?_ (Steps_cons ?_ (Steps_cons ?_ (Steps_cons ?_ (Steps_cons ?_ (Steps_cons ?_ (Steps_cons ?_ (Steps_cons ?_ (Steps_cons ?_ (Steps_cons ?_ (Steps_cons ?_ (Steps_cons ?_ (Steps_cons ?_ (Steps_cons ?_ Steps_nil)))))))))))))) ?_
         ·intro kr ks kt ku kv Q kw; have kx : kr 7 = Value.bool (j9) := (kv 7 (by kernel_rfl)).trans jv; exact mv kx (fin kw rfl)
         ·intro kr ks kt ku kv Q kw; have kx : kr 52 = Value.bool (j9) := ku 0 52 (by kernel_rfl) (by kernel_rfl); exact mv kx (fin kw rfl)
         ·intro kr ks kt ku kv Q kw; have kx : kr 53 = Value.bool (j9) := ku 1 53 (by kernel_rfl) (by kernel_rfl); exact gf 53 kx kp (fin kw rfl)
         ·intro kr ks kt ku kv Q kw; have kx : kr 53 = Value.bool (j9) := ku 1 53 (by kernel_rfl) (by kernel_rfl); exact gf 53 kx kp (fin kw rfl)
         ·intro kr ks kt ku kv Q kw; have kx : kr 53 = Value.bool (j9) := ku 1 53 (by kernel_rfl) (by kernel_rfl); exact gf 53 kx kp (fin kw rfl)
         ·intro kr ks kt ku kv Q kw; have kx : kr 53 = Value.bool (j9) := ku 1 53 (by kernel_rfl) (by kernel_rfl); exact pt kx kp (rfl : _ = Value.bool (true)) (fin kw rfl)
         ·intro kr ks kt ku kv Q kw; have kx : kr 8 = Value.bool (jm) := (kv 8 (by kernel_rfl)).trans js; exact mv kx (fin kw rfl)
         ·intro kr ks kt ku kv Q kw; have kx : kr 58 = Value.bool (jm) := ku 6 58 (by kernel_rfl) (by kernel_rfl); exact mv kx (fin kw rfl)
         ·intro kr ks kt ku kv Q kw; have kx : kr 3 = j2 := (kv 3 (by kernel_rfl)).trans ju; have ky : kr 59 = Value.bool (jm) := ku 7 59 (by kernel_rfl) (by kernel_rfl); exact gt 59 ky kq (L_fieldAddr fld64_1 Deed.of_Peer kx (j4.mono (je.trans (jr.trans (k0.le.trans (k9.le.trans (ke.le.trans kt.le)))))) (by decide) (fun kz g0 => fin kw g0))
         ·intro kr ks kt ku kv Q kw; have kx : kr 59 = Value.bool (jm) := ku 7 59 (by kernel_rfl) (by kernel_rfl); have ky : Ptr _ (kr 60) (a0.Peer : Int) := ku 8 60 (by kernel_rfl) (by kernel_rfl); obtain ⟨kz, g0, g1⟩ : ∃ v, _ = v ∧ Ptr _ v _ := ⟨_, rfl, ky⟩; exact gt 59 kx kq (li ty3 g0 g1 (fin kw rfl))
         ·intro kr ks kt ku kv Q kw; have kx : kr 59 = Value.bool (jm) := ku 7 59 (by kernel_rfl) (by kernel_rfl); have ky : kr 61 = Value.int .i64 (a0.Peer) := ku 9 61 (by kernel_rfl) (by kernel_rfl); exact gt 59 kx kq (L_eql ky (rfl : _ = Value.int .i64 (-1)) (by decide) (fin kw rfl))
         ·intro kr ks kt ku kv Q kw; have kx : kr 59 = Value.bool (jm) := ku 7 59 (by kernel_rfl) (by kernel_rfl); have ky : kr 62 = Value.bool (decide (a0.Peer = (-1))) := ku 10 62 (by kernel_rfl) (by kernel_rfl); exact pf kx kq ky (fin kw rfl)
         ·intro kr ks kt ku kv Q kw; have kx : kr 57 = Value.bool (true) := ku 5 57 (by kernel_rfl) (by kernel_rfl); exact asg kx (fin kw rfl)
         ·intro kr ks kt ku kv Q kw; have kx : kr 63 = Value.bool (decide (a0.Peer = (-1))) := ku 11 63 (by kernel_rfl) (by kernel_rfl); exact asg kx (fin kw rfl)
         ·intro kr ks kt ku kv
          have kw := Tch.ext kg kt
          have kx : kr 3 = j2 := (kv 3 (by kernel_rfl)).trans ju
          have ky : kr 7 = Value.bool (true) := ku 12 7 (by kernel_rfl)
          have kz : kr 8 = Value.bool (decide (a0.Peer = (-1))) := ku 13 8 (by kernel_rfl)
          have g0 : kr 10 = Value.pointer (some ⟨k8, 0, none⟩) := (kv 10 (by kernel_rfl)).trans rfl
          refine block_n (then_n (W_seq ?_))
          refine W_drawP mixed 8 [PX.ptr (a0.Peer : Int), PX.eq (Value.int .i64 (a0.Peer)), PX.ptr (a0.Tag : Int), PX.eq (Value.int .i64 (a0.Tag)), PX.eq (Value.pointer (some ⟨k8, 1, none⟩)), PX.var s0.w.heap.size 64 ((Deed.with_Peer (⟨a0.Kind, 0, 0, 0, false⟩ : Deed) a0.Peer) : Deed), PX.eq (Value.pointer (some ⟨k8, 2, none⟩)), PX.var s0.w.heap.size 64 ((Deed.with_Tag (Deed.with_Peer (⟨a0.Kind, 0, 0, 0, false⟩ : Deed) a0.Peer) a0.Tag) : Deed), PX.var s0.w.heap.size 64 ((⟨a0.Kind, 0, 0, 0, false⟩ : Deed) : Deed)] [94, 95, 96, 97, 98, 10, 99, 10, 10] [[], [], [], [], [], [8], [], [5]] rfl (by kernel_rfl) (ent1 rfl ⟨k8, g0, (Nat.le_trans k2.size ka), (kf).ext kt⟩) (dis1 rfl) (StepsX_cons ?_ (StepsX_cons ?_ (StepsX_cons ?_ (StepsX_cons ?_ (StepsX_cons ?_ (StepsX_cons ?_ (StepsX_cons ?_ (StepsX_cons ?_ StepsX_nil)))))))) ?_
          ·intro g1 g2 g3 g4 g5 Q g6; have g7 : g1 3 = j2 := (g5 3 (by kernel_rfl)).trans kx; exact L_fieldAddr fld64_1 Deed.of_Peer g7 (j4.mono (je.trans (jr.trans (k0.le.trans (k9.le.trans (ke.le.trans (kt.le.trans g3.le))))))) (by decide) (fun g8 g9 => L_nil (g6 _ _ No (Ext.refl g2) (fun _ h => h.elim) g9 (fun _ h => h.elim)))
          ·intro g1 g2 g3 g4 g5 Q g6; have g7 : Ptr _ (g1 94) (a0.Peer : Int) := g4 0 (by kernel_rfl) (by show _ < 9; decide); obtain ⟨g8, g9, ga⟩ : ∃ v, _ = v ∧ Ptr _ v _ := ⟨_, rfl, g7⟩; exact li ty3 g9 ga (L_nil (g6 _ _ No (Ext.refl g2) (fun _ h => h.elim) rfl (fun _ h => h.elim)))
          ·intro g1 g2 g3 g4 g5 Q g6; have g7 : g1 3 = j2 := (g5 3 (by kernel_rfl)).trans kx; exact L_fieldAddr fld64_2 Deed.of_Tag g7 (j4.mono (je.trans (jr.trans (k0.le.trans (k9.le.trans (ke.le.trans (kt.le.trans g3.le))))))) (by decide) (fun g8 g9 => L_nil (g6 _ _ No (Ext.refl g2) (fun _ h => h.elim) g9 (fun _ h => h.elim)))
          ·intro g1 g2 g3 g4 g5 Q g6; have g7 : Ptr _ (g1 96) (a0.Tag : Int) := g4 2 (by kernel_rfl) (by show _ < 9; decide); obtain ⟨g8, g9, ga⟩ : ∃ v, _ = v ∧ Ptr _ v _ := ⟨_, rfl, g7⟩; exact li ty3 g9 ga (L_nil (g6 _ _ No (Ext.refl g2) (fun _ h => h.elim) rfl (fun _ h => h.elim)))
          ·intro g1 g2 g3 g4 g5 Q g6
           obtain ⟨g7, g8, g9, ga⟩ : ∃ b, g1 10 = Value.pointer (some ⟨b, 0, none⟩) ∧ s0.w.heap.size ≤ b ∧ Var g2 b 64 ((⟨a0.Kind, 0, 0, 0, false⟩ : Deed) : Deed) := g4 8 (by kernel_rfl) (by show _ < 9; decide)
           have gb : g1 10 = Value.pointer (some ⟨k8, 0, none⟩) := (g5 10 (by kernel_rfl)).trans g0
           have gc : g7 = k8 := by have gd := g8.symm.trans gb; cases gd; rfl
           rw [gc] at g9 ga
           exact L_fieldAddr_var fld64_1 gb (by decide) (L_nil (g6 _ _ No (Ext.refl g2) (fun _ h => h.elim) rfl (fun _ h => h.elim)))
          ·intro g1 g2 g3 g4 g5 Q g6
           obtain ⟨g7, g8, g9, ga⟩ : ∃ b, g1 10 = Value.pointer (some ⟨b, 0, none⟩) ∧ s0.w.heap.size ≤ b ∧ Var g2 b 64 ((⟨a0.Kind, 0, 0, 0, false⟩ : Deed) : Deed) := g4 8 (by kernel_rfl) (by show _ < 9; decide)
           have gb : g1 10 = Value.pointer (some ⟨k8, 0, none⟩) := (g5 10 (by kernel_rfl)).trans g0
           have gc : g7 = k8 := by have gd := g8.symm.trans gb; cases gd; rfl
           rw [gc] at g9 ga
           have gg : g1 95 = Value.int .i64 (a0.Peer) := g4 1 (by kernel_rfl) (by show _ < 9; decide)
           have gh : g1 98 = Value.pointer (some ⟨k8, 1, none⟩) := g4 4 (by kernel_rfl) (by show _ < 9; decide)
           exact L_store_field ty3 Deed.set_Peer gh gg Vint (ga) (fun gi gj gk => L_nil (g6 undef _ _ gj (fun k h => ⟨8, (List.mem_singleton.2 rfl : (8 : Nat) ∈ [8]), (by show ownP (g1 10) k; rw [gb]; exact congrArg (fun z => Value.pointer (some ⟨z, 0, none⟩)) h.symm)⟩) ⟨_, gb, g9, gk⟩ (fun k h => Or.inl ⟨8, (List.mem_singleton.2 rfl : (8 : Nat) ∈ [8]), h⟩)))
          ·intro g1 g2 g3 g4 g5 Q g6
           obtain ⟨g7, g8, g9, ga⟩ : ∃ b, g1 10 = Value.pointer (some ⟨b, 0, none⟩) ∧ s0.w.heap.size ≤ b ∧ Var g2 b 64 ((Deed.with_Peer (⟨a0.Kind, 0, 0, 0, false⟩ : Deed) a0.Peer) : Deed) := g4 5 (by kernel_rfl) (by show _ < 9; decide)
           have gb : g1 10 = Value.pointer (some ⟨k8, 0, none⟩) := (g5 10 (by kernel_rfl)).trans g0
           have gc : g7 = k8 := by have gd := g8.symm.trans gb; cases gd; rfl
           rw [gc] at g9 ga
           exact L_fieldAddr_var fld64_2 gb (by decide) (L_nil (g6 _ _ No (Ext.refl g2) (fun _ h => h.elim) rfl (fun _ h => h.elim)))
          ·intro g1 g2 g3 g4 g5 Q g6
           obtain ⟨g7, g8, g9, ga⟩ : ∃ b, g1 10 = Value.pointer (some ⟨b, 0, none⟩) ∧ s0.w.heap.size ≤ b ∧ Var g2 b 64 ((Deed.with_Peer (⟨a0.Kind, 0, 0, 0, false⟩ : Deed) a0.Peer) : Deed) := g4 5 (by kernel_rfl) (by show _ < 9; decide)
           have gb : g1 10 = Value.pointer (some ⟨k8, 0, none⟩) := (g5 10 (by kernel_rfl)).trans g0
           have gc : g7 = k8 := by have gd := g8.symm.trans gb; cases gd; rfl
           rw [gc] at g9 ga
           have gg : g1 97 = Value.int .i64 (a0.Tag) := g4 3 (by kernel_rfl) (by show _ < 9; decide)
           have gh : g1 99 = Value.pointer (some ⟨k8, 2, none⟩) := g4 6 (by kernel_rfl) (by show _ < 9; decide)
           exact L_store_field ty3 Deed.set_Tag gh gg Vint (ga) (fun gi gj gk => L_nil (g6 undef _ _ gj (fun k h => ⟨5, (List.mem_singleton.2 rfl : (5 : Nat) ∈ [5]), (by show ownP (g1 10) k; rw [gb]; exact congrArg (fun z => Value.pointer (some ⟨z, 0, none⟩)) h.symm)⟩) ⟨_, gb, g9, gk⟩ (fun k h => Or.inl ⟨5, (List.mem_singleton.2 rfl : (5 : Nat) ∈ [5]), h⟩)))
          ·intro g1 g2 g3 g4 g5 g6
           have g7 := Tch.trans kw g3 (fun k h => Or.inr (by have g8 := ent_is (k := 8) rfl rfl h; have g9 := Eq.mp (congrArg (fun v => ownP v k) (g0 : _ = Value.pointer (some ⟨k8, 0, none⟩))) g8; cases g9; exact (Nat.le_trans k2.size ka)))
           obtain ⟨ga, gb, gc, gd⟩ : ∃ b, g1 10 = Value.pointer (some ⟨b, 0, none⟩) ∧ s0.w.heap.size ≤ b ∧ Var g2 b 64 ((Deed.with_Tag (Deed.with_Peer (⟨a0.Kind, 0, 0, 0, false⟩ : Deed) a0.Peer) a0.Tag) : Deed) := g4 7 (by show _ < 9; decide) (by kernel_rfl)
           have gg : g1 10 = Value.pointer (some ⟨k8, 0, none⟩) := (g6 10 (by kernel_rfl)).trans g0
           have gh : ga = k8 := by have g9 := gb.symm.trans gg; cases g9; rfl
           rw [gh] at gc gd
           have gi : g1 3 = j2 := (g6 3 (by kernel_rfl)).trans kx
           have gj : g1 7 = Value.bool (true) := (g6 7 (by kernel_rfl)).trans ky
           have gk : g1 8 = Value.bool (decide (a0.Peer = (-1))) := (g6 8 (by kernel_rfl)).trans kz
           refine then_n (sr (L_load ty64 gi (j4.mono (je.trans (jr.trans (k0.le.trans (k9.le.trans (ke.le.trans (kt.le.trans g3.le))))))) (by decide) (fun gl gm => L_load_var ty64 gg (gd) (by decide) (fun gn go => L_seq64 (rfl : _ = gl) gm (rfl : _ = gn) go (by decide) (mv (rfl : _ = Value.bool (decide (a0 = (Deed.with_Tag (Deed.with_Peer (⟨a0.Kind, 0, 0, 0, false⟩ : Deed) a0.Peer) a0.Tag)))) ?_)))))
           rcases Bool.eq_false_or_eq_true (decide (a0 = (Deed.with_Tag (Deed.with_Peer (⟨a0.Kind, 0, 0, 0, false⟩ : Deed) a0.Peer) a0.Tag))) with gp | gp
           ·have hr := ite_t gp hr; refine gt 103 (rfl : _ = Value.bool (decide (a0 = (Deed.with_Tag (Deed.with_Peer (⟨a0.Kind, 0, 0, 0, false⟩ : Deed) a0.Peer) a0.Tag)))) gp (mv gj (pt (rfl : _ = Value.bool (decide (a0 = (Deed.with_Tag (Deed.with_Peer (⟨a0.Kind, 0, 0, 0, false⟩ : Deed) a0.Peer) a0.Tag)))) gp (rfl : _ = Value.bool (true)) (mv (rfl : _ = Value.bool (true)) (gt 106 (rfl : _ = Value.bool (true)) rfl (mv gk (pt (rfl : _ = Value.bool (true)) rfl (rfl : _ = Value.bool (decide (a0.Peer = (-1)))) (asg (rfl : _ = Value.bool (decide (a0.Peer = (-1)))) (nn (W_ret ?_))))))))); obtain rfl := Option.some.inj hr; exact done1 (Or.inl rfl) Try.results58 rfl ⟨_, _, rfl, rfl, g7, Vbool⟩
           ·have hr := ite_f gp hr; refine gf 103 (rfl : _ = Value.bool (decide (a0 = (Deed.with_Tag (Deed.with_Peer (⟨a0.Kind, 0, 0, 0, false⟩ : Deed) a0.Peer) a0.Tag)))) gp (pf (rfl : _ = Value.bool (decide (a0 = (Deed.with_Tag (Deed.with_Peer (⟨a0.Kind, 0, 0, 0, false⟩ : Deed) a0.Peer) a0.Tag)))) gp (rfl : _ = Value.bool (false)) (mv (rfl : _ = Value.bool (false)) (gf 106 (rfl : _ = Value.bool (false)) rfl (pf (rfl : _ = Value.bool (false)) rfl (rfl : _ = Value.bool (false)) (asg (rfl : _ = Value.bool (false)) (nn (W_ret ?_))))))); obtain rfl := Option.some.inj hr; exact done1 (Or.inl rfl) Try.results58 rfl ⟨_, _, rfl, rfl, g7, Vbool⟩
       ·have hr := ite_f kp hr
        rcases Bool.eq_false_or_eq_true (jm) with kq | kq
        ·have hr := ite_t kq hr
         refine W_draws mixed (by kernel_rfl) [PV.eq (Value.bool (j9)), PV.eq (Value.bool (j9)), PV.ptr (a0.Tag : Int), PV.eq (Value.int .i64 (a0.Tag)), PV.eq (Value.bool (decide (a0.Tag = (-1)))), PV.eq (Value.bool (decide (a0.Tag = (-1)))), PV.eq (Value.bool (jm)), PV.eq (Value.bool (jm)), PV.eq (undef), PV.eq (undef), PV.eq (undef), PV.eq (Value.bool (true)), PV.eq (Value.bool (decide (a0.Tag = (-1)))), PV.eq (Value.bool (true))] (Steps_cons ?_ (Steps_cons ?_ (Steps_cons ?_ (Steps_cons ?_ (Steps_cons ?_ (Steps_cons ?_ (Steps_cons ?_ (Steps_cons ?_ (Steps_cons ?_ (Steps_cons ?_ (Steps_cons ?_ (Steps_cons ?_ (Steps_cons ?_ (Steps_cons ?_ Steps_nil)))))))))))))) ?_
         ·intro kr ks kt ku kv Q kw; have kx : kr 7 = Value.bool (j9) := (kv 7 (by kernel_rfl)).trans jv; exact mv kx (fin kw rfl)
         ·intro kr ks kt ku kv Q kw; have kx : kr 52 = Value.bool (j9) := ku 0 52 (by kernel_rfl) (by kernel_rfl); exact mv kx (fin kw rfl)
         ·intro kr ks kt ku kv Q kw; have kx : kr 3 = j2 := (kv 3 (by kernel_rfl)).trans ju; have ky : kr 53 = Value.bool (j9) := ku 1 53 (by kernel_rfl) (by kernel_rfl); exact gt 53 ky kp (L_fieldAddr fld64_2 Deed.of_Tag kx (j4.mono (je.trans (jr.trans (k0.le.trans (k9.le.trans (ke.le.trans kt.le)))))) (by decide) (fun kz g0 => fin kw g0))
         ·intro kr ks kt ku kv Q kw; have kx : kr 53 = Value.bool (j9) := ku 1 53 (by kernel_rfl) (by kernel_rfl); have ky : Ptr _ (kr 54) (a0.Tag : Int) := ku 2 54 (by kernel_rfl) (by kernel_rfl); obtain ⟨kz, g0, g1⟩ : ∃ v, _ = v ∧ Ptr _ v _ := ⟨_, rfl, ky⟩; exact gt 53 kx kp (li ty3 g0 g1 (fin kw rfl))
         ·intro kr ks kt ku kv Q kw; have kx : kr 53 = Value.bool (j9) := ku 1 53 (by kernel_rfl) (by kernel_rfl); have ky : kr 55 = Value.int .i64 (a0.Tag) := ku 3 55 (by kernel_rfl) (by kernel_rfl); exact gt 53 kx kp (L_eql ky (rfl : _ = Value.int .i64 (-1)) (by decide) (fin kw rfl))
         ·intro kr ks kt ku kv Q kw; have kx : kr 53 = Value.bool (j9) := ku 1 53 (by kernel_rfl) (by kernel_rfl); have ky : kr 56 = Value.bool (decide (a0.Tag = (-1))) := ku 4 56 (by kernel_rfl) (by kernel_rfl); exact pf kx kp ky (fin kw rfl)
         ·intro kr ks kt ku kv Q kw; have kx : kr 8 = Value.bool (jm) := (kv 8 (by kernel_rfl)).trans js; exact mv kx (fin kw rfl)
         ·intro kr ks kt ku kv Q kw; have kx : kr 58 = Value.bool (jm) := ku 6 58 (by kernel_rfl) (by kernel_rfl); exact mv kx (fin kw rfl)
         ·intro kr ks kt ku kv Q kw; have kx : kr 59 = Value.bool (jm) := ku 7 59 (by kernel_rfl) (by kernel_rfl); exact gf 59 kx kq (fin kw rfl)
         ·intro kr ks kt ku kv Q kw; have kx : kr 59 = Value.bool (jm) := ku 7 59 (by kernel_rfl) (by kernel_rfl); exact gf 59 kx kq (fin kw rfl)
         ·intro kr ks kt ku kv Q kw; have kx : kr 59 = Value.bool (jm) := ku 7 59 (by kernel_rfl) (by kernel_rfl); exact gf 59 kx kq (fin kw rfl)
         ·intro kr ks kt ku kv Q kw; have kx : kr 59 = Value.bool (jm) := ku 7 59 (by kernel_rfl) (by kernel_rfl); exact pt kx kq (rfl : _ = Value.bool (true)) (fin kw rfl)
         ·intro kr ks kt ku kv Q kw; have kx : kr 57 = Value.bool (decide (a0.Tag = (-1))) := ku 5 57 (by kernel_rfl) (by kernel_rfl); exact asg kx (fin kw rfl)
         ·intro kr ks kt ku kv Q kw; have kx : kr 63 = Value.bool (true) := ku 11 63 (by kernel_rfl) (by kernel_rfl); exact asg kx (fin kw rfl)
         ·intro kr ks kt ku kv
          have kw := Tch.ext kg kt
          have kx : kr 3 = j2 := (kv 3 (by kernel_rfl)).trans ju
          have ky : kr 7 = Value.bool (decide (a0.Tag = (-1))) := ku 12 7 (by kernel_rfl)
          have kz : kr 8 = Value.bool (true) := ku 13 8 (by kernel_rfl)
          have g0 : kr 10 = Value.pointer (some ⟨k8, 0, none⟩) := (kv 10 (by kernel_rfl)).trans rfl
          refine block_n (then_n (W_seq ?_))
          refine W_drawP mixed 8 [PX.ptr (a0.Peer : Int), PX.eq (Value.int .i64 (a0.Peer)), PX.ptr (a0.Tag : Int), PX.eq (Value.int .i64 (a0.Tag)), PX.eq (Value.pointer (some ⟨k8, 1, none⟩)), PX.var s0.w.heap.size 64 ((Deed.with_Peer (⟨a0.Kind, 0, 0, 0, false⟩ : Deed) a0.Peer) : Deed), PX.eq (Value.pointer (some ⟨k8, 2, none⟩)), PX.var s0.w.heap.size 64 ((Deed.with_Tag (Deed.with_Peer (⟨a0.Kind, 0, 0, 0, false⟩ : Deed) a0.Peer) a0.Tag) : Deed), PX.var s0.w.heap.size 64 ((⟨a0.Kind, 0, 0, 0, false⟩ : Deed) : Deed)] [94, 95, 96, 97, 98, 10, 99, 10, 10] [[], [], [], [], [], [8], [], [5]] rfl (by kernel_rfl) (ent1 rfl ⟨k8, g0, (Nat.le_trans k2.size ka), (kf).ext kt⟩) (dis1 rfl) (StepsX_cons ?_ (StepsX_cons ?_ (StepsX_cons ?_ (StepsX_cons ?_ (StepsX_cons ?_ (StepsX_cons ?_ (StepsX_cons ?_ (StepsX_cons ?_ StepsX_nil)))))))) ?_
          ·intro g1 g2 g3 g4 g5 Q g6; have g7 : g1 3 = j2 := (g5 3 (by kernel_rfl)).trans kx; exact L_fieldAddr fld64_1 Deed.of_Peer g7 (j4.mono (je.trans (jr.trans (k0.le.trans (k9.le.trans (ke.le.trans (kt.le.trans g3.le))))))) (by decide) (fun g8 g9 => L_nil (g6 _ _ No (Ext.refl g2) (fun _ h => h.elim) g9 (fun _ h => h.elim)))
          ·intro g1 g2 g3 g4 g5 Q g6; have g7 : Ptr _ (g1 94) (a0.Peer : Int) := g4 0 (by kernel_rfl) (by show _ < 9; decide); obtain ⟨g8, g9, ga⟩ : ∃ v, _ = v ∧ Ptr _ v _ := ⟨_, rfl, g7⟩; exact li ty3 g9 ga (L_nil (g6 _ _ No (Ext.refl g2) (fun _ h => h.elim) rfl (fun _ h => h.elim)))
          ·intro g1 g2 g3 g4 g5 Q g6; have g7 : g1 3 = j2 := (g5 3 (by kernel_rfl)).trans kx; exact L_fieldAddr fld64_2 Deed.of_Tag g7 (j4.mono (je.trans (jr.trans (k0.le.trans (k9.le.trans (ke.le.trans (kt.le.trans g3.le))))))) (by decide) (fun g8 g9 => L_nil (g6 _ _ No (Ext.refl g2) (fun _ h => h.elim) g9 (fun _ h => h.elim)))
          ·intro g1 g2 g3 g4 g5 Q g6; have g7 : Ptr _ (g1 96) (a0.Tag : Int) := g4 2 (by kernel_rfl) (by show _ < 9; decide); obtain ⟨g8, g9, ga⟩ : ∃ v, _ = v ∧ Ptr _ v _ := ⟨_, rfl, g7⟩; exact li ty3 g9 ga (L_nil (g6 _ _ No (Ext.refl g2) (fun _ h => h.elim) rfl (fun _ h => h.elim)))
          ·intro g1 g2 g3 g4 g5 Q g6
           obtain ⟨g7, g8, g9, ga⟩ : ∃ b, g1 10 = Value.pointer (some ⟨b, 0, none⟩) ∧ s0.w.heap.size ≤ b ∧ Var g2 b 64 ((⟨a0.Kind, 0, 0, 0, false⟩ : Deed) : Deed) := g4 8 (by kernel_rfl) (by show _ < 9; decide)
           have gb : g1 10 = Value.pointer (some ⟨k8, 0, none⟩) := (g5 10 (by kernel_rfl)).trans g0
           have gc : g7 = k8 := by have gd := g8.symm.trans gb; cases gd; rfl
           rw [gc] at g9 ga
           exact L_fieldAddr_var fld64_1 gb (by decide) (L_nil (g6 _ _ No (Ext.refl g2) (fun _ h => h.elim) rfl (fun _ h => h.elim)))
          ·intro g1 g2 g3 g4 g5 Q g6
           obtain ⟨g7, g8, g9, ga⟩ : ∃ b, g1 10 = Value.pointer (some ⟨b, 0, none⟩) ∧ s0.w.heap.size ≤ b ∧ Var g2 b 64 ((⟨a0.Kind, 0, 0, 0, false⟩ : Deed) : Deed) := g4 8 (by kernel_rfl) (by show _ < 9; decide)
           have gb : g1 10 = Value.pointer (some ⟨k8, 0, none⟩) := (g5 10 (by kernel_rfl)).trans g0
           have gc : g7 = k8 := by have gd := g8.symm.trans gb; cases gd; rfl
           rw [gc] at g9 ga
           have gg : g1 95 = Value.int .i64 (a0.Peer) := g4 1 (by kernel_rfl) (by show _ < 9; decide)
           have gh : g1 98 = Value.pointer (some ⟨k8, 1, none⟩) := g4 4 (by kernel_rfl) (by show _ < 9; decide)
           exact L_store_field ty3 Deed.set_Peer gh gg Vint (ga) (fun gi gj gk => L_nil (g6 undef _ _ gj (fun k h => ⟨8, (List.mem_singleton.2 rfl : (8 : Nat) ∈ [8]), (by show ownP (g1 10) k; rw [gb]; exact congrArg (fun z => Value.pointer (some ⟨z, 0, none⟩)) h.symm)⟩) ⟨_, gb, g9, gk⟩ (fun k h => Or.inl ⟨8, (List.mem_singleton.2 rfl : (8 : Nat) ∈ [8]), h⟩)))
          ·intro g1 g2 g3 g4 g5 Q g6
           obtain ⟨g7, g8, g9, ga⟩ : ∃ b, g1 10 = Value.pointer (some ⟨b, 0, none⟩) ∧ s0.w.heap.size ≤ b ∧ Var g2 b 64 ((Deed.with_Peer (⟨a0.Kind, 0, 0, 0, false⟩ : Deed) a0.Peer) : Deed) := g4 5 (by kernel_rfl) (by show _ < 9; decide)
           have gb : g1 10 = Value.pointer (some ⟨k8, 0, none⟩) := (g5 10 (by kernel_rfl)).trans g0
           have gc : g7 = k8 := by have gd := g8.symm.trans gb; cases gd; rfl
           rw [gc] at g9 ga
           exact L_fieldAddr_var fld64_2 gb (by decide) (L_nil (g6 _ _ No (Ext.refl g2) (fun _ h => h.elim) rfl (fun _ h => h.elim)))
          ·intro g1 g2 g3 g4 g5 Q g6
           obtain ⟨g7, g8, g9, ga⟩ : ∃ b, g1 10 = Value.pointer (some ⟨b, 0, none⟩) ∧ s0.w.heap.size ≤ b ∧ Var g2 b 64 ((Deed.with_Peer (⟨a0.Kind, 0, 0, 0, false⟩ : Deed) a0.Peer) : Deed) := g4 5 (by kernel_rfl) (by show _ < 9; decide)
           have gb : g1 10 = Value.pointer (some ⟨k8, 0, none⟩) := (g5 10 (by kernel_rfl)).trans g0
           have gc : g7 = k8 := by have gd := g8.symm.trans gb; cases gd; rfl
           rw [gc] at g9 ga
           have gg : g1 97 = Value.int .i64 (a0.Tag) := g4 3 (by kernel_rfl) (by show _ < 9; decide)
           have gh : g1 99 = Value.pointer (some ⟨k8, 2, none⟩) := g4 6 (by kernel_rfl) (by show _ < 9; decide)
           exact L_store_field ty3 Deed.set_Tag gh gg Vint (ga) (fun gi gj gk => L_nil (g6 undef _ _ gj (fun k h => ⟨5, (List.mem_singleton.2 rfl : (5 : Nat) ∈ [5]), (by show ownP (g1 10) k; rw [gb]; exact congrArg (fun z => Value.pointer (some ⟨z, 0, none⟩)) h.symm)⟩) ⟨_, gb, g9, gk⟩ (fun k h => Or.inl ⟨5, (List.mem_singleton.2 rfl : (5 : Nat) ∈ [5]), h⟩)))
          ·intro g1 g2 g3 g4 g5 g6
           have g7 := Tch.trans kw g3 (fun k h => Or.inr (by have g8 := ent_is (k := 8) rfl rfl h; have g9 := Eq.mp (congrArg (fun v => ownP v k) (g0 : _ = Value.pointer (some ⟨k8, 0, none⟩))) g8; cases g9; exact (Nat.le_trans k2.size ka)))
           obtain ⟨ga, gb, gc, gd⟩ : ∃ b, g1 10 = Value.pointer (some ⟨b, 0, none⟩) ∧ s0.w.heap.size ≤ b ∧ Var g2 b 64 ((Deed.with_Tag (Deed.with_Peer (⟨a0.Kind, 0, 0, 0, false⟩ : Deed) a0.Peer) a0.Tag) : Deed) := g4 7 (by show _ < 9; decide) (by kernel_rfl)
           have gg : g1 10 = Value.pointer (some ⟨k8, 0, none⟩) := (g6 10 (by kernel_rfl)).trans g0
           have gh : ga = k8 := by have g9 := gb.symm.trans gg; cases g9; rfl
           rw [gh] at gc gd
           have gi : g1 3 = j2 := (g6 3 (by kernel_rfl)).trans kx
           have gj : g1 7 = Value.bool (decide (a0.Tag = (-1))) := (g6 7 (by kernel_rfl)).trans ky
           have gk : g1 8 = Value.bool (true) := (g6 8 (by kernel_rfl)).trans kz
           refine then_n (sr (L_load ty64 gi (j4.mono (je.trans (jr.trans (k0.le.trans (k9.le.trans (ke.le.trans (kt.le.trans g3.le))))))) (by decide) (fun gl gm => L_load_var ty64 gg (gd) (by decide) (fun gn go => L_seq64 (rfl : _ = gl) gm (rfl : _ = gn) go (by decide) (mv (rfl : _ = Value.bool (decide (a0 = (Deed.with_Tag (Deed.with_Peer (⟨a0.Kind, 0, 0, 0, false⟩ : Deed) a0.Peer) a0.Tag)))) ?_)))))
           rcases Bool.eq_false_or_eq_true (decide (a0 = (Deed.with_Tag (Deed.with_Peer (⟨a0.Kind, 0, 0, 0, false⟩ : Deed) a0.Peer) a0.Tag))) with gp | gp
           ·have hr := ite_t gp hr
            refine gt 103 (rfl : _ = Value.bool (decide (a0 = (Deed.with_Tag (Deed.with_Peer (⟨a0.Kind, 0, 0, 0, false⟩ : Deed) a0.Peer) a0.Tag)))) gp (mv gj (pt (rfl : _ = Value.bool (decide (a0 = (Deed.with_Tag (Deed.with_Peer (⟨a0.Kind, 0, 0, 0, false⟩ : Deed) a0.Peer) a0.Tag)))) gp (rfl : _ = Value.bool (decide (a0.Tag = (-1)))) (mv (rfl : _ = Value.bool (decide (a0.Tag = (-1)))) ?_)))
            rcases Bool.eq_false_or_eq_true (decide (a0.Tag = (-1))) with gq | gq
            ·have hr := ite_t gq hr; refine gt 106 (rfl : _ = Value.bool (decide (a0.Tag = (-1)))) gq (mv gk (pt (rfl : _ = Value.bool (decide (a0.Tag = (-1)))) gq (rfl : _ = Value.bool (true)) (asg (rfl : _ = Value.bool (true)) (nn (W_ret ?_))))); obtain rfl := Option.some.inj hr; exact done1 (Or.inl rfl) Try.results58 rfl ⟨_, _, rfl, rfl, g7, Vbool⟩
            ·have hr := ite_f gq hr; refine gf 106 (rfl : _ = Value.bool (decide (a0.Tag = (-1)))) gq (pf (rfl : _ = Value.bool (decide (a0.Tag = (-1)))) gq (rfl : _ = Value.bool (false)) (asg (rfl : _ = Value.bool (false)) (nn (W_ret ?_)))); obtain rfl := Option.some.inj hr; exact done1 (Or.inl rfl) Try.results58 rfl ⟨_, _, rfl, rfl, g7, Vbool⟩
           ·have hr := ite_f gp hr; refine gf 103 (rfl : _ = Value.bool (decide (a0 = (Deed.with_Tag (Deed.with_Peer (⟨a0.Kind, 0, 0, 0, false⟩ : Deed) a0.Peer) a0.Tag)))) gp (pf (rfl : _ = Value.bool (decide (a0 = (Deed.with_Tag (Deed.with_Peer (⟨a0.Kind, 0, 0, 0, false⟩ : Deed) a0.Peer) a0.Tag)))) gp (rfl : _ = Value.bool (false)) (mv (rfl : _ = Value.bool (false)) (gf 106 (rfl : _ = Value.bool (false)) rfl (pf (rfl : _ = Value.bool (false)) rfl (rfl : _ = Value.bool (false)) (asg (rfl : _ = Value.bool (false)) (nn (W_ret ?_))))))); obtain rfl := Option.some.inj hr; exact done1 (Or.inl rfl) Try.results58 rfl ⟨_, _, rfl, rfl, g7, Vbool⟩
        ·have hr := ite_f kq hr
         refine W_draws mixed (by kernel_rfl) [PV.eq (Value.bool (j9)), PV.eq (Value.bool (j9)), PV.ptr (a0.Tag : Int), PV.eq (Value.int .i64 (a0.Tag)), PV.eq (Value.bool (decide (a0.Tag = (-1)))), PV.eq (Value.bool (decide (a0.Tag = (-1)))), PV.eq (Value.bool (jm)), PV.eq (Value.bool (jm)), PV.ptr (a0.Peer : Int), PV.eq (Value.int .i64 (a0.Peer)), PV.eq (Value.bool (decide (a0.Peer = (-1)))), PV.eq (Value.bool (decide (a0.Peer = (-1)))), PV.eq (Value.bool (decide (a0.Tag = (-1)))), PV.eq (Value.bool (decide (a0.Peer = (-1))))] (Steps_cons ?_ (Steps_cons ?_ (Steps_cons ?_ (Steps_cons ?_ (Steps_cons ?_ (Steps_cons ?_ (Steps_cons ?_ (Steps_cons ?_ (Steps_cons ?_ (Steps_cons ?_ (Steps_cons ?_ (Steps_cons ?_ (Steps_cons ?_ (Steps_cons ?_ Steps_nil)))))))))))))) ?_
         ·intro kr ks kt ku kv Q kw; have kx : kr 7 = Value.bool (j9) := (kv 7 (by kernel_rfl)).trans jv; exact mv kx (fin kw rfl)
         ·intro kr ks kt ku kv Q kw; have kx : kr 52 = Value.bool (j9) := ku 0 52 (by kernel_rfl) (by kernel_rfl); exact mv kx (fin kw rfl)
         ·intro kr ks kt ku kv Q kw; have kx : kr 3 = j2 := (kv 3 (by kernel_rfl)).trans ju; have ky : kr 53 = Value.bool (j9) := ku 1 53 (by kernel_rfl) (by kernel_rfl); exact gt 53 ky kp (L_fieldAddr fld64_2 Deed.of_Tag kx (j4.mono (je.trans (jr.trans (k0.le.trans (k9.le.trans (ke.le.trans kt.le)))))) (by decide) (fun kz g0 => fin kw g0))
         ·intro kr ks kt ku kv Q kw; have kx : kr 53 = Value.bool (j9) := ku 1 53 (by kernel_rfl) (by kernel_rfl); have ky : Ptr _ (kr 54) (a0.Tag : Int) := ku 2 54 (by kernel_rfl) (by kernel_rfl); obtain ⟨kz, g0, g1⟩ : ∃ v, _ = v ∧ Ptr _ v _ := ⟨_, rfl, ky⟩; exact gt 53 kx kp (li ty3 g0 g1 (fin kw rfl))
         ·intro kr ks kt ku kv Q kw; have kx : kr 53 = Value.bool (j9) := ku 1 53 (by kernel_rfl) (by kernel_rfl); have ky : kr 55 = Value.int .i64 (a0.Tag) := ku 3 55 (by kernel_rfl) (by kernel_rfl); exact gt 53 kx kp (L_eql ky (rfl : _ = Value.int .i64 (-1)) (by decide) (fin kw rfl))
         ·intro kr ks kt ku kv Q kw; have kx : kr 53 = Value.bool (j9) := ku 1 53 (by kernel_rfl) (by kernel_rfl); have ky : kr 56 = Value.bool (decide (a0.Tag = (-1))) := ku 4 56 (by kernel_rfl) (by kernel_rfl); exact pf kx kp ky (fin kw rfl)
         ·intro kr ks kt ku kv Q kw; have kx : kr 8 = Value.bool (jm) := (kv 8 (by kernel_rfl)).trans js; exact mv kx (fin kw rfl)
         ·intro kr ks kt ku kv Q kw; have kx : kr 58 = Value.bool (jm) := ku 6 58 (by kernel_rfl) (by kernel_rfl); exact mv kx (fin kw rfl)
         ·intro kr ks kt ku kv Q kw; have kx : kr 3 = j2 := (kv 3 (by kernel_rfl)).trans ju; have ky : kr 59 = Value.bool (jm) := ku 7 59 (by kernel_rfl) (by kernel_rfl); exact gt 59 ky kq (L_fieldAddr fld64_1 Deed.of_Peer kx (j4.mono (je.trans (jr.trans (k0.le.trans (k9.le.trans (ke.le.trans kt.le)))))) (by decide) (fun kz g0 => fin kw g0))
         ·intro kr ks kt ku kv Q kw; have kx : kr 59 = Value.bool (jm) := ku 7 59 (by kernel_rfl) (by kernel_rfl); have ky : Ptr _ (kr 60) (a0.Peer : Int) := ku 8 60 (by kernel_rfl) (by kernel_rfl); obtain ⟨kz, g0, g1⟩ : ∃ v, _ = v ∧ Ptr _ v _ := ⟨_, rfl, ky⟩; exact gt 59 kx kq (li ty3 g0 g1 (fin kw rfl))
         ·intro kr ks kt ku kv Q kw; have kx : kr 59 = Value.bool (jm) := ku 7 59 (by kernel_rfl) (by kernel_rfl); have ky : kr 61 = Value.int .i64 (a0.Peer) := ku 9 61 (by kernel_rfl) (by kernel_rfl); exact gt 59 kx kq (L_eql ky (rfl : _ = Value.int .i64 (-1)) (by decide) (fin kw rfl))
         ·intro kr ks kt ku kv Q kw; have kx : kr 59 = Value.bool (jm) := ku 7 59 (by kernel_rfl) (by kernel_rfl); have ky : kr 62 = Value.bool (decide (a0.Peer = (-1))) := ku 10 62 (by kernel_rfl) (by kernel_rfl); exact pf kx kq ky (fin kw rfl)
         ·intro kr ks kt ku kv Q kw; have kx : kr 57 = Value.bool (decide (a0.Tag = (-1))) := ku 5 57 (by kernel_rfl) (by kernel_rfl); exact asg kx (fin kw rfl)
         ·intro kr ks kt ku kv Q kw; have kx : kr 63 = Value.bool (decide (a0.Peer = (-1))) := ku 11 63 (by kernel_rfl) (by kernel_rfl); exact asg kx (fin kw rfl)
         ·intro kr ks kt ku kv
          have kw := Tch.ext kg kt
          have kx : kr 3 = j2 := (kv 3 (by kernel_rfl)).trans ju
          have ky : kr 7 = Value.bool (decide (a0.Tag = (-1))) := ku 12 7 (by kernel_rfl)
          have kz : kr 8 = Value.bool (decide (a0.Peer = (-1))) := ku 13 8 (by kernel_rfl)
          have g0 : kr 10 = Value.pointer (some ⟨k8, 0, none⟩) := (kv 10 (by kernel_rfl)).trans rfl
          refine block_n (then_n (W_seq ?_))
          refine W_drawP mixed 8 [PX.ptr (a0.Peer : Int), PX.eq (Value.int .i64 (a0.Peer)), PX.ptr (a0.Tag : Int), PX.eq (Value.int .i64 (a0.Tag)), PX.eq (Value.pointer (some ⟨k8, 1, none⟩)), PX.var s0.w.heap.size 64 ((Deed.with_Peer (⟨a0.Kind, 0, 0, 0, false⟩ : Deed) a0.Peer) : Deed), PX.eq (Value.pointer (some ⟨k8, 2, none⟩)), PX.var s0.w.heap.size 64 ((Deed.with_Tag (Deed.with_Peer (⟨a0.Kind, 0, 0, 0, false⟩ : Deed) a0.Peer) a0.Tag) : Deed), PX.var s0.w.heap.size 64 ((⟨a0.Kind, 0, 0, 0, false⟩ : Deed) : Deed)] [94, 95, 96, 97, 98, 10, 99, 10, 10] [[], [], [], [], [], [8], [], [5]] rfl (by kernel_rfl) (ent1 rfl ⟨k8, g0, (Nat.le_trans k2.size ka), (kf).ext kt⟩) (dis1 rfl) (StepsX_cons ?_ (StepsX_cons ?_ (StepsX_cons ?_ (StepsX_cons ?_ (StepsX_cons ?_ (StepsX_cons ?_ (StepsX_cons ?_ (StepsX_cons ?_ StepsX_nil)))))))) ?_
          ·intro g1 g2 g3 g4 g5 Q g6; have g7 : g1 3 = j2 := (g5 3 (by kernel_rfl)).trans kx; exact L_fieldAddr fld64_1 Deed.of_Peer g7 (j4.mono (je.trans (jr.trans (k0.le.trans (k9.le.trans (ke.le.trans (kt.le.trans g3.le))))))) (by decide) (fun g8 g9 => L_nil (g6 _ _ No (Ext.refl g2) (fun _ h => h.elim) g9 (fun _ h => h.elim)))
          ·intro g1 g2 g3 g4 g5 Q g6; have g7 : Ptr _ (g1 94) (a0.Peer : Int) := g4 0 (by kernel_rfl) (by show _ < 9; decide); obtain ⟨g8, g9, ga⟩ : ∃ v, _ = v ∧ Ptr _ v _ := ⟨_, rfl, g7⟩; exact li ty3 g9 ga (L_nil (g6 _ _ No (Ext.refl g2) (fun _ h => h.elim) rfl (fun _ h => h.elim)))
          ·intro g1 g2 g3 g4 g5 Q g6; have g7 : g1 3 = j2 := (g5 3 (by kernel_rfl)).trans kx; exact L_fieldAddr fld64_2 Deed.of_Tag g7 (j4.mono (je.trans (jr.trans (k0.le.trans (k9.le.trans (ke.le.trans (kt.le.trans g3.le))))))) (by decide) (fun g8 g9 => L_nil (g6 _ _ No (Ext.refl g2) (fun _ h => h.elim) g9 (fun _ h => h.elim)))
          ·intro g1 g2 g3 g4 g5 Q g6; have g7 : Ptr _ (g1 96) (a0.Tag : Int) := g4 2 (by kernel_rfl) (by show _ < 9; decide); obtain ⟨g8, g9, ga⟩ : ∃ v, _ = v ∧ Ptr _ v _ := ⟨_, rfl, g7⟩; exact li ty3 g9 ga (L_nil (g6 _ _ No (Ext.refl g2) (fun _ h => h.elim) rfl (fun _ h => h.elim)))
          ·intro g1 g2 g3 g4 g5 Q g6
           obtain ⟨g7, g8, g9, ga⟩ : ∃ b, g1 10 = Value.pointer (some ⟨b, 0, none⟩) ∧ s0.w.heap.size ≤ b ∧ Var g2 b 64 ((⟨a0.Kind, 0, 0, 0, false⟩ : Deed) : Deed) := g4 8 (by kernel_rfl) (by show _ < 9; decide)
           have gb : g1 10 = Value.pointer (some ⟨k8, 0, none⟩) := (g5 10 (by kernel_rfl)).trans g0
           have gc : g7 = k8 := by have gd := g8.symm.trans gb; cases gd; rfl
           rw [gc] at g9 ga
           exact L_fieldAddr_var fld64_1 gb (by decide) (L_nil (g6 _ _ No (Ext.refl g2) (fun _ h => h.elim) rfl (fun _ h => h.elim)))
          ·intro g1 g2 g3 g4 g5 Q g6
           obtain ⟨g7, g8, g9, ga⟩ : ∃ b, g1 10 = Value.pointer (some ⟨b, 0, none⟩) ∧ s0.w.heap.size ≤ b ∧ Var g2 b 64 ((⟨a0.Kind, 0, 0, 0, false⟩ : Deed) : Deed) := g4 8 (by kernel_rfl) (by show _ < 9; decide)
           have gb : g1 10 = Value.pointer (some ⟨k8, 0, none⟩) := (g5 10 (by kernel_rfl)).trans g0
           have gc : g7 = k8 := by have gd := g8.symm.trans gb; cases gd; rfl
           rw [gc] at g9 ga
           have gg : g1 95 = Value.int .i64 (a0.Peer) := g4 1 (by kernel_rfl) (by show _ < 9; decide)
           have gh : g1 98 = Value.pointer (some ⟨k8, 1, none⟩) := g4 4 (by kernel_rfl) (by show _ < 9; decide)
           exact L_store_field ty3 Deed.set_Peer gh gg Vint (ga) (fun gi gj gk => L_nil (g6 undef _ _ gj (fun k h => ⟨8, (List.mem_singleton.2 rfl : (8 : Nat) ∈ [8]), (by show ownP (g1 10) k; rw [gb]; exact congrArg (fun z => Value.pointer (some ⟨z, 0, none⟩)) h.symm)⟩) ⟨_, gb, g9, gk⟩ (fun k h => Or.inl ⟨8, (List.mem_singleton.2 rfl : (8 : Nat) ∈ [8]), h⟩)))
          ·intro g1 g2 g3 g4 g5 Q g6
           obtain ⟨g7, g8, g9, ga⟩ : ∃ b, g1 10 = Value.pointer (some ⟨b, 0, none⟩) ∧ s0.w.heap.size ≤ b ∧ Var g2 b 64 ((Deed.with_Peer (⟨a0.Kind, 0, 0, 0, false⟩ : Deed) a0.Peer) : Deed) := g4 5 (by kernel_rfl) (by show _ < 9; decide)
           have gb : g1 10 = Value.pointer (some ⟨k8, 0, none⟩) := (g5 10 (by kernel_rfl)).trans g0
           have gc : g7 = k8 := by have gd := g8.symm.trans gb; cases gd; rfl
           rw [gc] at g9 ga
           exact L_fieldAddr_var fld64_2 gb (by decide) (L_nil (g6 _ _ No (Ext.refl g2) (fun _ h => h.elim) rfl (fun _ h => h.elim)))
          ·intro g1 g2 g3 g4 g5 Q g6
           obtain ⟨g7, g8, g9, ga⟩ : ∃ b, g1 10 = Value.pointer (some ⟨b, 0, none⟩) ∧ s0.w.heap.size ≤ b ∧ Var g2 b 64 ((Deed.with_Peer (⟨a0.Kind, 0, 0, 0, false⟩ : Deed) a0.Peer) : Deed) := g4 5 (by kernel_rfl) (by show _ < 9; decide)
           have gb : g1 10 = Value.pointer (some ⟨k8, 0, none⟩) := (g5 10 (by kernel_rfl)).trans g0
           have gc : g7 = k8 := by have gd := g8.symm.trans gb; cases gd; rfl
           rw [gc] at g9 ga
           have gg : g1 97 = Value.int .i64 (a0.Tag) := g4 3 (by kernel_rfl) (by show _ < 9; decide)
           have gh : g1 99 = Value.pointer (some ⟨k8, 2, none⟩) := g4 6 (by kernel_rfl) (by show _ < 9; decide)
           exact L_store_field ty3 Deed.set_Tag gh gg Vint (ga) (fun gi gj gk => L_nil (g6 undef _ _ gj (fun k h => ⟨5, (List.mem_singleton.2 rfl : (5 : Nat) ∈ [5]), (by show ownP (g1 10) k; rw [gb]; exact congrArg (fun z => Value.pointer (some ⟨z, 0, none⟩)) h.symm)⟩) ⟨_, gb, g9, gk⟩ (fun k h => Or.inl ⟨5, (List.mem_singleton.2 rfl : (5 : Nat) ∈ [5]), h⟩)))
          ·intro g1 g2 g3 g4 g5 g6
           have g7 := Tch.trans kw g3 (fun k h => Or.inr (by have g8 := ent_is (k := 8) rfl rfl h; have g9 := Eq.mp (congrArg (fun v => ownP v k) (g0 : _ = Value.pointer (some ⟨k8, 0, none⟩))) g8; cases g9; exact (Nat.le_trans k2.size ka)))
           obtain ⟨ga, gb, gc, gd⟩ : ∃ b, g1 10 = Value.pointer (some ⟨b, 0, none⟩) ∧ s0.w.heap.size ≤ b ∧ Var g2 b 64 ((Deed.with_Tag (Deed.with_Peer (⟨a0.Kind, 0, 0, 0, false⟩ : Deed) a0.Peer) a0.Tag) : Deed) := g4 7 (by show _ < 9; decide) (by kernel_rfl)
           have gg : g1 10 = Value.pointer (some ⟨k8, 0, none⟩) := (g6 10 (by kernel_rfl)).trans g0
           have gh : ga = k8 := by have g9 := gb.symm.trans gg; cases g9; rfl
           rw [gh] at gc gd
           have gi : g1 3 = j2 := (g6 3 (by kernel_rfl)).trans kx
           have gj : g1 7 = Value.bool (decide (a0.Tag = (-1))) := (g6 7 (by kernel_rfl)).trans ky
           have gk : g1 8 = Value.bool (decide (a0.Peer = (-1))) := (g6 8 (by kernel_rfl)).trans kz
           refine then_n (sr (L_load ty64 gi (j4.mono (je.trans (jr.trans (k0.le.trans (k9.le.trans (ke.le.trans (kt.le.trans g3.le))))))) (by decide) (fun gl gm => L_load_var ty64 gg (gd) (by decide) (fun gn go => L_seq64 (rfl : _ = gl) gm (rfl : _ = gn) go (by decide) (mv (rfl : _ = Value.bool (decide (a0 = (Deed.with_Tag (Deed.with_Peer (⟨a0.Kind, 0, 0, 0, false⟩ : Deed) a0.Peer) a0.Tag)))) ?_)))))
           rcases Bool.eq_false_or_eq_true (decide (a0 = (Deed.with_Tag (Deed.with_Peer (⟨a0.Kind, 0, 0, 0, false⟩ : Deed) a0.Peer) a0.Tag))) with gp | gp
           ·have hr := ite_t gp hr
            refine gt 103 (rfl : _ = Value.bool (decide (a0 = (Deed.with_Tag (Deed.with_Peer (⟨a0.Kind, 0, 0, 0, false⟩ : Deed) a0.Peer) a0.Tag)))) gp (mv gj (pt (rfl : _ = Value.bool (decide (a0 = (Deed.with_Tag (Deed.with_Peer (⟨a0.Kind, 0, 0, 0, false⟩ : Deed) a0.Peer) a0.Tag)))) gp (rfl : _ = Value.bool (decide (a0.Tag = (-1)))) (mv (rfl : _ = Value.bool (decide (a0.Tag = (-1)))) ?_)))
            rcases Bool.eq_false_or_eq_true (decide (a0.Tag = (-1))) with gq | gq
            ·have hr := ite_t gq hr; refine gt 106 (rfl : _ = Value.bool (decide (a0.Tag = (-1)))) gq (mv gk (pt (rfl : _ = Value.bool (decide (a0.Tag = (-1)))) gq (rfl : _ = Value.bool (decide (a0.Peer = (-1)))) (asg (rfl : _ = Value.bool (decide (a0.Peer = (-1)))) (nn (W_ret ?_))))); obtain rfl := Option.some.inj hr; exact done1 (Or.inl rfl) Try.results58 rfl ⟨_, _, rfl, rfl, g7, Vbool⟩
            ·have hr := ite_f gq hr; refine gf 106 (rfl : _ = Value.bool (decide (a0.Tag = (-1)))) gq (pf (rfl : _ = Value.bool (decide (a0.Tag = (-1)))) gq (rfl : _ = Value.bool (false)) (asg (rfl : _ = Value.bool (false)) (nn (W_ret ?_)))); obtain rfl := Option.some.inj hr; exact done1 (Or.inl rfl) Try.results58 rfl ⟨_, _, rfl, rfl, g7, Vbool⟩
           ·have hr := ite_f gp hr; refine gf 103 (rfl : _ = Value.bool (decide (a0 = (Deed.with_Tag (Deed.with_Peer (⟨a0.Kind, 0, 0, 0, false⟩ : Deed) a0.Peer) a0.Tag)))) gp (pf (rfl : _ = Value.bool (decide (a0 = (Deed.with_Tag (Deed.with_Peer (⟨a0.Kind, 0, 0, 0, false⟩ : Deed) a0.Peer) a0.Tag)))) gp (rfl : _ = Value.bool (false)) (mv (rfl : _ = Value.bool (false)) (gf 106 (rfl : _ = Value.bool (false)) rfl (pf (rfl : _ = Value.bool (false)) rfl (rfl : _ = Value.bool (false)) (asg (rfl : _ = Value.bool (false)) (nn (W_ret ?_))))))); obtain rfl := Option.some.inj hr; exact done1 (Or.inl rfl) Try.results58 rfl ⟨_, _, rfl, rfl, g7, Vbool⟩
     ·have hr := ite_f kl hr
      refine W_region (L_eql (rfl : _ = Value.int .i64 (a0.Kind)) (rfl : _ = Value.int .i64 (4)) (by decide) (asg (rfl : _ = Value.bool (decide (a0.Kind = 4))) (nn ?_)))
      refine W_cond _ (rfl : _ = Value.bool (decide (a0.Kind = 4))) (fun km => ?_) (fun km => ?_)
      ·have hr := ite_t km hr
       refine W_seq (sr (L_fieldAddr fld64_0 Deed.of_Kind ju (j4.mono (je.trans (jr.trans (k0.le.trans (k9.le.trans ke.le))))) (by decide) (fun kn ko => li ty3 (rfl : _ = kn) ko (L_eql (rfl : _ = Value.int .i64 (a0.Kind)) (rfl : _ = Value.int .i64 (4)) (by decide) (nn ?_)))))
       refine W_cond _ (rfl : _ = Value.bool (decide (a0.Kind = 4))) (fun _ => ?_) (fun h => absurd (h.symm.trans km) (by decide))
       refine W_region (mv (rfl : _ = Value.int .i64 (jw)) (L_fieldAddr_var fld64_3 (rfl : _ = Value.pointer (some ⟨k8, 0, none⟩)) (by decide) (L_store_field ty3 Deed.set_Req (rfl : _ = Value.pointer (some ⟨k8, 3, none⟩)) (rfl : _ = Value.int .i64 (jw)) Vint (kf) (fun kp kq kr => ?_))))
       have ks := Tch.trans kg kq (fun k hk => Or.inr (by subst hk; exact (Nat.le_trans k2.size ka)))
       refine nn ?_
       rcases Bool.eq_false_or_eq_true (j9) with kt | kt
       ·have hr := ite_t kt hr
        rcases Bool.eq_false_or_eq_true (jm) with ku | ku
        ·have hr := ite_t ku hr
         refine W_draws mixed (by kernel_rfl) [PV.eq (Value.bool (j9)), PV.eq (Value.bool (j9)), PV.eq (undef), PV.eq (undef), PV.eq (undef), PV.eq (Value.bool (true)), PV.eq (Value.bool (jm)), PV.eq (Value.bool (jm)), PV.eq (undef), PV.eq (undef), PV.eq (undef), PV.eq (Value.bool (true)), PV.eq (Value.bool (true)), PV.eq (Value.bool (true))] (Steps_cons ?_ (Steps_cons ?_ (Steps_cons ?_ (Steps_cons ?_ (Steps_cons ?_ (Steps_cons ?_ (Steps_cons ?_ (Steps_cons ?_ (Steps_cons ?_ (Steps_cons ?_ (Steps_cons ?_ (Steps_cons ?_ (Steps_cons ?_ (Steps_cons ?_ Steps_nil)))))))))))))) ?_
         ·intro kv kw kx ky kz Q g0; have g1 : kv 7 = Value.bool (j9) := (kz 7 (by kernel_rfl)).trans jv; exact mv g1 (fin g0 rfl)
         ·intro kv kw kx ky kz Q g0; have g1 : kv 52 = Value.bool (j9) := ky 0 52 (by kernel_rfl) (by kernel_rfl); exact mv g1 (fin g0 rfl)
         ·intro kv kw kx ky kz Q g0; have g1 : kv 53 = Value.bool (j9) := ky 1 53 (by kernel_rfl) (by kernel_rfl); exact gf 53 g1 kt (fin g0 rfl)
         ·intro kv kw kx ky kz Q g0; have g1 : kv 53 = Value.bool (j9) := ky 1 53 (by kernel_rfl) (by kernel_rfl); exact gf 53 g1 kt (fin g0 rfl)
         ·intro kv kw kx ky kz Q g0; have g1 : kv 53 = Value.bool (j9) := ky 1 53 (by kernel_rfl) (by kernel_rfl); exact gf 53 g1 kt (fin g0 rfl)
         ·intro kv kw kx ky kz Q g0; have g1 : kv 53 = Value.bool (j9) := ky 1 53 (by kernel_rfl) (by kernel_rfl); exact pt g1 kt (rfl : _ = Value.bool (true)) (fin g0 rfl)
         ·intro kv kw kx ky kz Q g0; have g1 : kv 8 = Value.bool (jm) := (kz 8 (by kernel_rfl)).trans js; exact mv g1 (fin g0 rfl)
         ·intro kv kw kx ky kz Q g0; have g1 : kv 58 = Value.bool (jm) := ky 6 58 (by kernel_rfl) (by kernel_rfl); exact mv g1 (fin g0 rfl)
         ·intro kv kw kx ky kz Q g0; have g1 : kv 59 = Value.bool (jm) := ky 7 59 (by kernel_rfl) (by kernel_rfl); exact gf 59 g1 ku (fin g0 rfl)
         ·intro kv kw kx ky kz Q g0; have g1 : kv 59 = Value.bool (jm) := ky 7 59 (by kernel_rfl) (by kernel_rfl); exact gf 59 g1 ku (fin g0 rfl)
         ·intro kv kw kx ky kz Q g0; have g1 : kv 59 = Value.bool (jm) := ky 7 59 (by kernel_rfl) (by kernel_rfl); exact gf 59 g1 ku (fin g0 rfl)
         ·intro kv kw kx ky kz Q g0; have g1 : kv 59 = Value.bool (jm) := ky 7 59 (by kernel_rfl) (by kernel_rfl); exact pt g1 ku (rfl : _ = Value.bool (true)) (fin g0 rfl)
         ·intro kv kw kx ky kz Q g0; have g1 : kv 57 = Value.bool (true) := ky 5 57 (by kernel_rfl) (by kernel_rfl); exact asg g1 (fin g0 rfl)
         ·intro kv kw kx ky kz Q g0; have g1 : kv 63 = Value.bool (true) := ky 11 63 (by kernel_rfl) (by kernel_rfl); exact asg g1 (fin g0 rfl)
         ·intro kv kw kx ky kz
          have g0 := Tch.ext ks kx
          have g1 : kv 3 = j2 := (kz 3 (by kernel_rfl)).trans ju
          have g2 : kv 7 = Value.bool (true) := ky 12 7 (by kernel_rfl)
          have g3 : kv 8 = Value.bool (true) := ky 13 8 (by kernel_rfl)
          have g4 : kv 10 = Value.pointer (some ⟨k8, 0, none⟩) := (kz 10 (by kernel_rfl)).trans rfl
          refine block_n (then_n (W_seq ?_))
          refine W_drawP mixed 8 [PX.ptr (a0.Peer : Int), PX.eq (Value.int .i64 (a0.Peer)), PX.ptr (a0.Tag : Int), PX.eq (Value.int .i64 (a0.Tag)), PX.eq (Value.pointer (some ⟨k8, 1, none⟩)), PX.var s0.w.heap.size 64 ((Deed.with_Peer (Deed.with_Req (⟨a0.Kind, 0, 0, 0, false⟩ : Deed) jw) a0.Peer) : Deed), PX.eq (Value.pointer (some ⟨k8, 2, none⟩)), PX.var s0.w.heap.size 64 ((Deed.with_Tag (Deed.with_Peer (Deed.with_Req (⟨a0.Kind, 0, 0, 0, false⟩ : Deed) jw) a0.Peer) a0.Tag) : Deed), PX.var s0.w.heap.size 64 ((Deed.with_Req (⟨a0.Kind, 0, 0, 0, false⟩ : Deed) jw) : Deed)] [94, 95, 96, 97, 98, 10, 99, 10, 10] [[], [], [], [], [], [8], [], [5]] rfl (by kernel_rfl) (ent1 rfl ⟨k8, g4, (Nat.le_trans k2.size ka), (kr).ext kx⟩) (dis1 rfl) (StepsX_cons ?_ (StepsX_cons ?_ (StepsX_cons ?_ (StepsX_cons ?_ (StepsX_cons ?_ (StepsX_cons ?_ (StepsX_cons ?_ (StepsX_cons ?_ StepsX_nil)))))))) ?_
          ·intro g5 g6 g7 g8 g9 Q ga; have gb : g5 3 = j2 := (g9 3 (by kernel_rfl)).trans g1; exact L_fieldAddr fld64_1 Deed.of_Peer gb (j4.mono (je.trans (jr.trans (k0.le.trans (k9.le.trans (ke.le.trans (kq.le.trans (kx.le.trans g7.le)))))))) (by decide) (fun gc gd => L_nil (ga _ _ No (Ext.refl g6) (fun _ h => h.elim) gd (fun _ h => h.elim)))
          ·intro g5 g6 g7 g8 g9 Q ga; have gb : Ptr _ (g5 94) (a0.Peer : Int) := g8 0 (by kernel_rfl) (by show _ < 9; decide); obtain ⟨gc, gd, gg⟩ : ∃ v, _ = v ∧ Ptr _ v _ := ⟨_, rfl, gb⟩; exact li ty3 gd gg (L_nil (ga _ _ No (Ext.refl g6) (fun _ h => h.elim) rfl (fun _ h => h.elim)))
          ·intro g5 g6 g7 g8 g9 Q ga; have gb : g5 3 = j2 := (g9 3 (by kernel_rfl)).trans g1; exact L_fieldAddr fld64_2 Deed.of_Tag gb (j4.mono (je.trans (jr.trans (k0.le.trans (k9.le.trans (ke.le.trans (kq.le.trans (kx.le.trans g7.le)))))))) (by decide) (fun gc gd => L_nil (ga _ _ No (Ext.refl g6) (fun _ h => h.elim) gd (fun _ h => h.elim)))
          ·intro g5 g6 g7 g8 g9 Q ga; have gb : Ptr _ (g5 96) (a0.Tag : Int) := g8 2 (by kernel_rfl) (by show _ < 9; decide); obtain ⟨gc, gd, gg⟩ : ∃ v, _ = v ∧ Ptr _ v _ := ⟨_, rfl, gb⟩; exact li ty3 gd gg (L_nil (ga _ _ No (Ext.refl g6) (fun _ h => h.elim) rfl (fun _ h => h.elim)))
          ·intro g5 g6 g7 g8 g9 Q ga
           obtain ⟨gb, gc, gd, gg⟩ : ∃ b, g5 10 = Value.pointer (some ⟨b, 0, none⟩) ∧ s0.w.heap.size ≤ b ∧ Var g6 b 64 ((Deed.with_Req (⟨a0.Kind, 0, 0, 0, false⟩ : Deed) jw) : Deed) := g8 8 (by kernel_rfl) (by show _ < 9; decide)
           have gh : g5 10 = Value.pointer (some ⟨k8, 0, none⟩) := (g9 10 (by kernel_rfl)).trans g4
           have gi : gb = k8 := by have gj := gc.symm.trans gh; cases gj; rfl
           rw [gi] at gd gg
           exact L_fieldAddr_var fld64_1 gh (by decide) (L_nil (ga _ _ No (Ext.refl g6) (fun _ h => h.elim) rfl (fun _ h => h.elim)))
          ·intro g5 g6 g7 g8 g9 Q ga
           obtain ⟨gb, gc, gd, gg⟩ : ∃ b, g5 10 = Value.pointer (some ⟨b, 0, none⟩) ∧ s0.w.heap.size ≤ b ∧ Var g6 b 64 ((Deed.with_Req (⟨a0.Kind, 0, 0, 0, false⟩ : Deed) jw) : Deed) := g8 8 (by kernel_rfl) (by show _ < 9; decide)
           have gh : g5 10 = Value.pointer (some ⟨k8, 0, none⟩) := (g9 10 (by kernel_rfl)).trans g4
           have gi : gb = k8 := by have gj := gc.symm.trans gh; cases gj; rfl
           rw [gi] at gd gg
           have gk : g5 95 = Value.int .i64 (a0.Peer) := g8 1 (by kernel_rfl) (by show _ < 9; decide)
           have gl : g5 98 = Value.pointer (some ⟨k8, 1, none⟩) := g8 4 (by kernel_rfl) (by show _ < 9; decide)
           exact L_store_field ty3 Deed.set_Peer gl gk Vint (gg) (fun gm gn go => L_nil (ga undef _ _ gn (fun k h => ⟨8, (List.mem_singleton.2 rfl : (8 : Nat) ∈ [8]), (by show ownP (g5 10) k; rw [gh]; exact congrArg (fun z => Value.pointer (some ⟨z, 0, none⟩)) h.symm)⟩) ⟨_, gh, gd, go⟩ (fun k h => Or.inl ⟨8, (List.mem_singleton.2 rfl : (8 : Nat) ∈ [8]), h⟩)))
          ·intro g5 g6 g7 g8 g9 Q ga
           obtain ⟨gb, gc, gd, gg⟩ : ∃ b, g5 10 = Value.pointer (some ⟨b, 0, none⟩) ∧ s0.w.heap.size ≤ b ∧ Var g6 b 64 ((Deed.with_Peer (Deed.with_Req (⟨a0.Kind, 0, 0, 0, false⟩ : Deed) jw) a0.Peer) : Deed) := g8 5 (by kernel_rfl) (by show _ < 9; decide)
           have gh : g5 10 = Value.pointer (some ⟨k8, 0, none⟩) := (g9 10 (by kernel_rfl)).trans g4
           have gi : gb = k8 := by have gj := gc.symm.trans gh; cases gj; rfl
           rw [gi] at gd gg
           exact L_fieldAddr_var fld64_2 gh (by decide) (L_nil (ga _ _ No (Ext.refl g6) (fun _ h => h.elim) rfl (fun _ h => h.elim)))
          ·intro g5 g6 g7 g8 g9 Q ga
           obtain ⟨gb, gc, gd, gg⟩ : ∃ b, g5 10 = Value.pointer (some ⟨b, 0, none⟩) ∧ s0.w.heap.size ≤ b ∧ Var g6 b 64 ((Deed.with_Peer (Deed.with_Req (⟨a0.Kind, 0, 0, 0, false⟩ : Deed) jw) a0.Peer) : Deed) := g8 5 (by kernel_rfl) (by show _ < 9; decide)
           have gh : g5 10 = Value.pointer (some ⟨k8, 0, none⟩) := (g9 10 (by kernel_rfl)).trans g4
           have gi : gb = k8 := by have gj := gc.symm.trans gh; cases gj; rfl
           rw [gi] at gd gg
           have gk : g5 97 = Value.int .i64 (a0.Tag) := g8 3 (by kernel_rfl) (by show _ < 9; decide)
           have gl : g5 99 = Value.pointer (some ⟨k8, 2, none⟩) := g8 6 (by kernel_rfl) (by show _ < 9; decide)
           exact L_store_field ty3 Deed.set_Tag gl gk Vint (gg) (fun gm gn go => L_nil (ga undef _ _ gn (fun k h => ⟨5, (List.mem_singleton.2 rfl : (5 : Nat) ∈ [5]), (by show ownP (g5 10) k; rw [gh]; exact congrArg (fun z => Value.pointer (some ⟨z, 0, none⟩)) h.symm)⟩) ⟨_, gh, gd, go⟩ (fun k h => Or.inl ⟨5, (List.mem_singleton.2 rfl : (5 : Nat) ∈ [5]), h⟩)))
          ·intro g5 g6 g7 g8 g9 ga
           have gb := Tch.trans g0 g7 (fun k h => Or.inr (by have gc := ent_is (k := 8) rfl rfl h; have gd := Eq.mp (congrArg (fun v => ownP v k) (g4 : _ = Value.pointer (some ⟨k8, 0, none⟩))) gc; cases gd; exact (Nat.le_trans k2.size ka)))
           obtain ⟨gg, gh, gi, gj⟩ : ∃ b, g5 10 = Value.pointer (some ⟨b, 0, none⟩) ∧ s0.w.heap.size ≤ b ∧ Var g6 b 64 ((Deed.with_Tag (Deed.with_Peer (Deed.with_Req (⟨a0.Kind, 0, 0, 0, false⟩ : Deed) jw) a0.Peer) a0.Tag) : Deed) := g8 7 (by show _ < 9; decide) (by kernel_rfl)
           have gk : g5 10 = Value.pointer (some ⟨k8, 0, none⟩) := (ga 10 (by kernel_rfl)).trans g4
           have gl : gg = k8 := by have gd := gh.symm.trans gk; cases gd; rfl
           rw [gl] at gi gj
           have gm : g5 3 = j2 := (ga 3 (by kernel_rfl)).trans g1
           have gn : g5 7 = Value.bool (true) := (ga 7 (by kernel_rfl)).trans g2
           have go : g5 8 = Value.bool (true) := (ga 8 (by kernel_rfl)).trans g3
           refine then_n (sr (L_load ty64 gm (j4.mono (je.trans (jr.trans (k0.le.trans (k9.le.trans (ke.le.trans (kq.le.trans (kx.le.trans g7.le)))))))) (by decide) (fun gp gq => L_load_var ty64 gk (gj) (by decide) (fun gr gs => L_seq64 (rfl : _ = gp) gq (rfl : _ = gr) gs (by decide) (mv (rfl : _ = Value.bool (decide (a0 = (Deed.with_Tag (Deed.with_Peer (Deed.with_Req (⟨a0.Kind, 0, 0, 0, false⟩ : Deed) jw) a0.Peer) a0.Tag)))) ?_)))))
           rcases Bool.eq_false_or_eq_true (decide (a0 = (Deed.with_Tag (Deed.with_Peer (Deed.with_Req (⟨a0.Kind, 0, 0, 0, false⟩ : Deed) jw) a0.Peer) a0.Tag))) with gu | gu
           ·have hr := ite_t gu hr; refine gt 103 (rfl : _ = Value.bool (decide (a0 = (Deed.with_Tag (Deed.with_Peer (Deed.with_Req (⟨a0.Kind, 0, 0, 0, false⟩ : Deed) jw) a0.Peer) a0.Tag)))) gu (mv gn (pt (rfl : _ = Value.bool (decide (a0 = (Deed.with_Tag (Deed.with_Peer (Deed.with_Req (⟨a0.Kind, 0, 0, 0, false⟩ : Deed) jw) a0.Peer) a0.Tag)))) gu (rfl : _ = Value.bool (true)) (mv (rfl : _ = Value.bool (true)) (gt 106 (rfl : _ = Value.bool (true)) rfl (mv go (pt (rfl : _ = Value.bool (true)) rfl (rfl : _ = Value.bool (true)) (asg (rfl : _ = Value.bool (true)) (nn (W_ret ?_))))))))); obtain rfl := Option.some.inj hr; exact done1 (Or.inl rfl) Try.results58 rfl ⟨_, _, rfl, rfl, gb, Vbool⟩
           ·have hr := ite_f gu hr; refine gf 103 (rfl : _ = Value.bool (decide (a0 = (Deed.with_Tag (Deed.with_Peer (Deed.with_Req (⟨a0.Kind, 0, 0, 0, false⟩ : Deed) jw) a0.Peer) a0.Tag)))) gu (pf (rfl : _ = Value.bool (decide (a0 = (Deed.with_Tag (Deed.with_Peer (Deed.with_Req (⟨a0.Kind, 0, 0, 0, false⟩ : Deed) jw) a0.Peer) a0.Tag)))) gu (rfl : _ = Value.bool (false)) (mv (rfl : _ = Value.bool (false)) (gf 106 (rfl : _ = Value.bool (false)) rfl (pf (rfl : _ = Value.bool (false)) rfl (rfl : _ = Value.bool (false)) (asg (rfl : _ = Value.bool (false)) (nn (W_ret ?_))))))); obtain rfl := Option.some.inj hr; exact done1 (Or.inl rfl) Try.results58 rfl ⟨_, _, rfl, rfl, gb, Vbool⟩
        ·have hr := ite_f ku hr
         refine W_draws mixed (by kernel_rfl) [PV.eq (Value.bool (j9)), PV.eq (Value.bool (j9)), PV.eq (undef), PV.eq (undef), PV.eq (undef), PV.eq (Value.bool (true)), PV.eq (Value.bool (jm)), PV.eq (Value.bool (jm)), PV.ptr (a0.Peer : Int), PV.eq (Value.int .i64 (a0.Peer)), PV.eq (Value.bool (decide (a0.Peer = (-1)))), PV.eq (Value.bool (decide (a0.Peer = (-1)))), PV.eq (Value.bool (true)), PV.eq (Value.bool (decide (a0.Peer = (-1))))] (Steps_cons ?_ (Steps_cons ?_ (Steps_cons ?_ (Steps_cons ?_ (Steps_cons ?_ (Steps_cons ?_ (Steps_cons ?_ (Steps_cons ?_ (Steps_cons ?_ (Steps_cons ?_ (Steps_cons ?_ (Steps_cons ?_ (Steps_cons ?_ (Steps_cons ?_ Steps_nil)))))))))))))) ?_
         ·intro kv kw kx ky kz Q g0; have g1 : kv 7 = Value.bool (j9) := (kz 7 (by kernel_rfl)).trans jv; exact mv g1 (fin g0 rfl)
         ·intro kv kw kx ky kz Q g0; have g1 : kv 52 = Value.bool (j9) := ky 0 52 (by kernel_rfl) (by kernel_rfl); exact mv g1 (fin g0 rfl)
         ·intro kv kw kx ky kz Q g0; have g1 : kv 53 = Value.bool (j9) := ky 1 53 (by kernel_rfl) (by kernel_rfl); exact gf 53 g1 kt (fin g0 rfl)
         ·intro kv kw kx ky kz Q g0; have g1 : kv 53 = Value.bool (j9) := ky 1 53 (by kernel_rfl) (by kernel_rfl); exact gf 53 g1 kt (fin g0 rfl)
         ·intro kv kw kx ky kz Q g0; have g1 : kv 53 = Value.bool (j9) := ky 1 53 (by kernel_rfl) (by kernel_rfl); exact gf 53 g1 kt (fin g0 rfl)
         ·intro kv kw kx ky kz Q g0; have g1 : kv 53 = Value.bool (j9) := ky 1 53 (by kernel_rfl) (by kernel_rfl); exact pt g1 kt (rfl : _ = Value.bool (true)) (fin g0 rfl)
         ·intro kv kw kx ky kz Q g0; have g1 : kv 8 = Value.bool (jm) := (kz 8 (by kernel_rfl)).trans js; exact mv g1 (fin g0 rfl)
         ·intro kv kw kx ky kz Q g0; have g1 : kv 58 = Value.bool (jm) := ky 6 58 (by kernel_rfl) (by kernel_rfl); exact mv g1 (fin g0 rfl)
         ·intro kv kw kx ky kz Q g0; have g1 : kv 3 = j2 := (kz 3 (by kernel_rfl)).trans ju; have g2 : kv 59 = Value.bool (jm) := ky 7 59 (by kernel_rfl) (by kernel_rfl); exact gt 59 g2 ku (L_fieldAddr fld64_1 Deed.of_Peer g1 (j4.mono (je.trans (jr.trans (k0.le.trans (k9.le.trans (ke.le.trans (kq.le.trans kx.le))))))) (by decide) (fun g3 g4 => fin g0 g4))
         ·intro kv kw kx ky kz Q g0; have g1 : kv 59 = Value.bool (jm) := ky 7 59 (by kernel_rfl) (by kernel_rfl); have g2 : Ptr _ (kv 60) (a0.Peer : Int) := ky 8 60 (by kernel_rfl) (by kernel_rfl); obtain ⟨g3, g4, g5⟩ : ∃ v, _ = v ∧ Ptr _ v _ := ⟨_, rfl, g2⟩; exact gt 59 g1 ku (li ty3 g4 g5 (fin g0 rfl))
         ·intro kv kw kx ky kz Q g0; have g1 : kv 59 = Value.bool (jm) := ky 7 59 (by kernel_rfl) (by kernel_rfl); have g2 : kv 61 = Value.int .i64 (a0.Peer) := ky 9 61 (by kernel_rfl) (by kernel_rfl); exact gt 59 g1 ku (L_eql g2 (rfl : _ = Value.int .i64 (-1)) (by decide) (fin g0 rfl))
         ·intro kv kw kx ky kz Q g0; have g1 : kv 59 = Value.bool (jm) := ky 7 59 (by kernel_rfl) (by kernel_rfl); have g2 : kv 62 = Value.bool (decide (a0.Peer = (-1))) := ky 10 62 (by kernel_rfl) (by kernel_rfl); exact pf g1 ku g2 (fin g0 rfl)
         ·intro kv kw kx ky kz Q g0; have g1 : kv 57 = Value.bool (true) := ky 5 57 (by kernel_rfl) (by kernel_rfl); exact asg g1 (fin g0 rfl)
         ·intro kv kw kx ky kz Q g0; have g1 : kv 63 = Value.bool (decide (a0.Peer = (-1))) := ky 11 63 (by kernel_rfl) (by kernel_rfl); exact asg g1 (fin g0 rfl)
         ·intro kv kw kx ky kz
          have g0 := Tch.ext ks kx
          have g1 : kv 3 = j2 := (kz 3 (by kernel_rfl)).trans ju
          have g2 : kv 7 = Value.bool (true) := ky 12 7 (by kernel_rfl)
          have g3 : kv 8 = Value.bool (decide (a0.Peer = (-1))) := ky 13 8 (by kernel_rfl)
          have g4 : kv 10 = Value.pointer (some ⟨k8, 0, none⟩) := (kz 10 (by kernel_rfl)).trans rfl
          refine block_n (then_n (W_seq ?_))
          refine W_drawP mixed 8 [PX.ptr (a0.Peer : Int), PX.eq (Value.int .i64 (a0.Peer)), PX.ptr (a0.Tag : Int), PX.eq (Value.int .i64 (a0.Tag)), PX.eq (Value.pointer (some ⟨k8, 1, none⟩)), PX.var s0.w.heap.size 64 ((Deed.with_Peer (Deed.with_Req (⟨a0.Kind, 0, 0, 0, false⟩ : Deed) jw) a0.Peer) : Deed), PX.eq (Value.pointer (some ⟨k8, 2, none⟩)), PX.var s0.w.heap.size 64 ((Deed.with_Tag (Deed.with_Peer (Deed.with_Req (⟨a0.Kind, 0, 0, 0, false⟩ : Deed) jw) a0.Peer) a0.Tag) : Deed), PX.var s0.w.heap.size 64 ((Deed.with_Req (⟨a0.Kind, 0, 0, 0, false⟩ : Deed) jw) : Deed)] [94, 95, 96, 97, 98, 10, 99, 10, 10] [[], [], [], [], [], [8], [], [5]] rfl (by kernel_rfl) (ent1 rfl ⟨k8, g4, (Nat.le_trans k2.size ka), (kr).ext kx⟩) (dis1 rfl) (StepsX_cons ?_ (StepsX_cons ?_ (StepsX_cons ?_ (StepsX_cons ?_ (StepsX_cons ?_ (StepsX_cons ?_ (StepsX_cons ?_ (StepsX_cons ?_ StepsX_nil)))))))) ?_
          ·intro g5 g6 g7 g8 g9 Q ga; have gb : g5 3 = j2 := (g9 3 (by kernel_rfl)).trans g1; exact L_fieldAddr fld64_1 Deed.of_Peer gb (j4.mono (je.trans (jr.trans (k0.le.trans (k9.le.trans (ke.le.trans (kq.le.trans (kx.le.trans g7.le)))))))) (by decide) (fun gc gd => L_nil (ga _ _ No (Ext.refl g6) (fun _ h => h.elim) gd (fun _ h => h.elim)))
          ·intro g5 g6 g7 g8 g9 Q ga; have gb : Ptr _ (g5 94) (a0.Peer : Int) := g8 0 (by kernel_rfl) (by show _ < 9; decide); obtain ⟨gc, gd, gg⟩ : ∃ v, _ = v ∧ Ptr _ v _ := ⟨_, rfl, gb⟩; exact li ty3 gd gg (L_nil (ga _ _ No (Ext.refl g6) (fun _ h => h.elim) rfl (fun _ h => h.elim)))
          ·intro g5 g6 g7 g8 g9 Q ga; have gb : g5 3 = j2 := (g9 3 (by kernel_rfl)).trans g1; exact L_fieldAddr fld64_2 Deed.of_Tag gb (j4.mono (je.trans (jr.trans (k0.le.trans (k9.le.trans (ke.le.trans (kq.le.trans (kx.le.trans g7.le)))))))) (by decide) (fun gc gd => L_nil (ga _ _ No (Ext.refl g6) (fun _ h => h.elim) gd (fun _ h => h.elim)))
          ·intro g5 g6 g7 g8 g9 Q ga; have gb : Ptr _ (g5 96) (a0.Tag : Int) := g8 2 (by kernel_rfl) (by show _ < 9; decide); obtain ⟨gc, gd, gg⟩ : ∃ v, _ = v ∧ Ptr _ v _ := ⟨_, rfl, gb⟩; exact li ty3 gd gg (L_nil (ga _ _ No (Ext.refl g6) (fun _ h => h.elim) rfl (fun _ h => h.elim)))
          ·intro g5 g6 g7 g8 g9 Q ga
           obtain ⟨gb, gc, gd, gg⟩ : ∃ b, g5 10 = Value.pointer (some ⟨b, 0, none⟩) ∧ s0.w.heap.size ≤ b ∧ Var g6 b 64 ((Deed.with_Req (⟨a0.Kind, 0, 0, 0, false⟩ : Deed) jw) : Deed) := g8 8 (by kernel_rfl) (by show _ < 9; decide)
           have gh : g5 10 = Value.pointer (some ⟨k8, 0, none⟩) := (g9 10 (by kernel_rfl)).trans g4
           have gi : gb = k8 := by have gj := gc.symm.trans gh; cases gj; rfl
           rw [gi] at gd gg
           exact L_fieldAddr_var fld64_1 gh (by decide) (L_nil (ga _ _ No (Ext.refl g6) (fun _ h => h.elim) rfl (fun _ h => h.elim)))
          ·intro g5 g6 g7 g8 g9 Q ga
           obtain ⟨gb, gc, gd, gg⟩ : ∃ b, g5 10 = Value.pointer (some ⟨b, 0, none⟩) ∧ s0.w.heap.size ≤ b ∧ Var g6 b 64 ((Deed.with_Req (⟨a0.Kind, 0, 0, 0, false⟩ : Deed) jw) : Deed) := g8 8 (by kernel_rfl) (by show _ < 9; decide)
           have gh : g5 10 = Value.pointer (some ⟨k8, 0, none⟩) := (g9 10 (by kernel_rfl)).trans g4
           have gi : gb = k8 := by have gj := gc.symm.trans gh; cases gj; rfl
           rw [gi] at gd gg
           have gk : g5 95 = Value.int .i64 (a0.Peer) := g8 1 (by kernel_rfl) (by show _ < 9; decide)
           have gl : g5 98 = Value.pointer (some ⟨k8, 1, none⟩) := g8 4 (by kernel_rfl) (by show _ < 9; decide)
           exact L_store_field ty3 Deed.set_Peer gl gk Vint (gg) (fun gm gn go => L_nil (ga undef _ _ gn (fun k h => ⟨8, (List.mem_singleton.2 rfl : (8 : Nat) ∈ [8]), (by show ownP (g5 10) k; rw [gh]; exact congrArg (fun z => Value.pointer (some ⟨z, 0, none⟩)) h.symm)⟩) ⟨_, gh, gd, go⟩ (fun k h => Or.inl ⟨8, (List.mem_singleton.2 rfl : (8 : Nat) ∈ [8]), h⟩)))
          ·intro g5 g6 g7 g8 g9 Q ga
           obtain ⟨gb, gc, gd, gg⟩ : ∃ b, g5 10 = Value.pointer (some ⟨b, 0, none⟩) ∧ s0.w.heap.size ≤ b ∧ Var g6 b 64 ((Deed.with_Peer (Deed.with_Req (⟨a0.Kind, 0, 0, 0, false⟩ : Deed) jw) a0.Peer) : Deed) := g8 5 (by kernel_rfl) (by show _ < 9; decide)
           have gh : g5 10 = Value.pointer (some ⟨k8, 0, none⟩) := (g9 10 (by kernel_rfl)).trans g4
           have gi : gb = k8 := by have gj := gc.symm.trans gh; cases gj; rfl
           rw [gi] at gd gg
           exact L_fieldAddr_var fld64_2 gh (by decide) (L_nil (ga _ _ No (Ext.refl g6) (fun _ h => h.elim) rfl (fun _ h => h.elim)))
          ·intro g5 g6 g7 g8 g9 Q ga
           obtain ⟨gb, gc, gd, gg⟩ : ∃ b, g5 10 = Value.pointer (some ⟨b, 0, none⟩) ∧ s0.w.heap.size ≤ b ∧ Var g6 b 64 ((Deed.with_Peer (Deed.with_Req (⟨a0.Kind, 0, 0, 0, false⟩ : Deed) jw) a0.Peer) : Deed) := g8 5 (by kernel_rfl) (by show _ < 9; decide)
           have gh : g5 10 = Value.pointer (some ⟨k8, 0, none⟩) := (g9 10 (by kernel_rfl)).trans g4
           have gi : gb = k8 := by have gj := gc.symm.trans gh; cases gj; rfl
           rw [gi] at gd gg
           have gk : g5 97 = Value.int .i64 (a0.Tag) := g8 3 (by kernel_rfl) (by show _ < 9; decide)
           have gl : g5 99 = Value.pointer (some ⟨k8, 2, none⟩) := g8 6 (by kernel_rfl) (by show _ < 9; decide)
           exact L_store_field ty3 Deed.set_Tag gl gk Vint (gg) (fun gm gn go => L_nil (ga undef _ _ gn (fun k h => ⟨5, (List.mem_singleton.2 rfl : (5 : Nat) ∈ [5]), (by show ownP (g5 10) k; rw [gh]; exact congrArg (fun z => Value.pointer (some ⟨z, 0, none⟩)) h.symm)⟩) ⟨_, gh, gd, go⟩ (fun k h => Or.inl ⟨5, (List.mem_singleton.2 rfl : (5 : Nat) ∈ [5]), h⟩)))
          ·intro g5 g6 g7 g8 g9 ga
           have gb := Tch.trans g0 g7 (fun k h => Or.inr (by have gc := ent_is (k := 8) rfl rfl h; have gd := Eq.mp (congrArg (fun v => ownP v k) (g4 : _ = Value.pointer (some ⟨k8, 0, none⟩))) gc; cases gd; exact (Nat.le_trans k2.size ka)))
           obtain ⟨gg, gh, gi, gj⟩ : ∃ b, g5 10 = Value.pointer (some ⟨b, 0, none⟩) ∧ s0.w.heap.size ≤ b ∧ Var g6 b 64 ((Deed.with_Tag (Deed.with_Peer (Deed.with_Req (⟨a0.Kind, 0, 0, 0, false⟩ : Deed) jw) a0.Peer) a0.Tag) : Deed) := g8 7 (by show _ < 9; decide) (by kernel_rfl)
           have gk : g5 10 = Value.pointer (some ⟨k8, 0, none⟩) := (ga 10 (by kernel_rfl)).trans g4
           have gl : gg = k8 := by have gd := gh.symm.trans gk; cases gd; rfl
           rw [gl] at gi gj
           have gm : g5 3 = j2 := (ga 3 (by kernel_rfl)).trans g1
           have gn : g5 7 = Value.bool (true) := (ga 7 (by kernel_rfl)).trans g2
           have go : g5 8 = Value.bool (decide (a0.Peer = (-1))) := (ga 8 (by kernel_rfl)).trans g3
           refine then_n (sr (L_load ty64 gm (j4.mono (je.trans (jr.trans (k0.le.trans (k9.le.trans (ke.le.trans (kq.le.trans (kx.le.trans g7.le)))))))) (by decide) (fun gp gq => L_load_var ty64 gk (gj) (by decide) (fun gr gs => L_seq64 (rfl : _ = gp) gq (rfl : _ = gr) gs (by decide) (mv (rfl : _ = Value.bool (decide (a0 = (Deed.with_Tag (Deed.with_Peer (Deed.with_Req (⟨a0.Kind, 0, 0, 0, false⟩ : Deed) jw) a0.Peer) a0.Tag)))) ?_)))))
           rcases Bool.eq_false_or_eq_true (decide (a0 = (Deed.with_Tag (Deed.with_Peer (Deed.with_Req (⟨a0.Kind, 0, 0, 0, false⟩ : Deed) jw) a0.Peer) a0.Tag))) with gu | gu
           ·have hr := ite_t gu hr; refine gt 103 (rfl : _ = Value.bool (decide (a0 = (Deed.with_Tag (Deed.with_Peer (Deed.with_Req (⟨a0.Kind, 0, 0, 0, false⟩ : Deed) jw) a0.Peer) a0.Tag)))) gu (mv gn (pt (rfl : _ = Value.bool (decide (a0 = (Deed.with_Tag (Deed.with_Peer (Deed.with_Req (⟨a0.Kind, 0, 0, 0, false⟩ : Deed) jw) a0.Peer) a0.Tag)))) gu (rfl : _ = Value.bool (true)) (mv (rfl : _ = Value.bool (true)) (gt 106 (rfl : _ = Value.bool (true)) rfl (mv go (pt (rfl : _ = Value.bool (true)) rfl (rfl : _ = Value.bool (decide (a0.Peer = (-1)))) (asg (rfl : _ = Value.bool (decide (a0.Peer = (-1)))) (nn (W_ret ?_))))))))); obtain rfl := Option.some.inj hr; exact done1 (Or.inl rfl) Try.results58 rfl ⟨_, _, rfl, rfl, gb, Vbool⟩
           ·have hr := ite_f gu hr; refine gf 103 (rfl : _ = Value.bool (decide (a0 = (Deed.with_Tag (Deed.with_Peer (Deed.with_Req (⟨a0.Kind, 0, 0, 0, false⟩ : Deed) jw) a0.Peer) a0.Tag)))) gu (pf (rfl : _ = Value.bool (decide (a0 = (Deed.with_Tag (Deed.with_Peer (Deed.with_Req (⟨a0.Kind, 0, 0, 0, false⟩ : Deed) jw) a0.Peer) a0.Tag)))) gu (rfl : _ = Value.bool (false)) (mv (rfl : _ = Value.bool (false)) (gf 106 (rfl : _ = Value.bool (false)) rfl (pf (rfl : _ = Value.bool (false)) rfl (rfl : _ = Value.bool (false)) (asg (rfl : _ = Value.bool (false)) (nn (W_ret ?_))))))); obtain rfl := Option.some.inj hr; exact done1 (Or.inl rfl) Try.results58 rfl ⟨_, _, rfl, rfl, gb, Vbool⟩
       ·have hr := ite_f kt hr
        rcases Bool.eq_false_or_eq_true (jm) with ku | ku
        ·have hr := ite_t ku hr
         refine W_draws mixed (by kernel_rfl) [PV.eq (Value.bool (j9)), PV.eq (Value.bool (j9)), PV.ptr (a0.Tag : Int), PV.eq (Value.int .i64 (a0.Tag)), PV.eq (Value.bool (decide (a0.Tag = (-1)))), PV.eq (Value.bool (decide (a0.Tag = (-1)))), PV.eq (Value.bool (jm)), PV.eq (Value.bool (jm)), PV.eq (undef), PV.eq (undef), PV.eq (undef), PV.eq (Value.bool (true)), PV.eq (Value.bool (decide (a0.Tag = (-1)))), PV.eq (Value.bool (true))] (Steps_cons ?_ (Steps_cons ?_ (Steps_cons ?_ (Steps_cons ?_ (Steps_cons ?_ (Steps_cons ?_ (Steps_cons ?_ (Steps_cons ?_ (Steps_cons ?_ (Steps_cons ?_ (Steps_cons ?_ (Steps_cons ?_ (Steps_cons ?_ (Steps_cons ?_ Steps_nil)))))))))))))) ?_
         ·intro kv kw kx ky kz Q g0; have g1 : kv 7 = Value.bool (j9) := (kz 7 (by kernel_rfl)).trans jv; exact mv g1 (fin g0 rfl)
         ·intro kv kw kx ky kz Q g0; have g1 : kv 52 = Value.bool (j9) := ky 0 52 (by kernel_rfl) (by kernel_rfl); exact mv g1 (fin g0 rfl)
         ·intro kv kw kx ky kz Q g0; have g1 : kv 3 = j2 := (kz 3 (by kernel_rfl)).trans ju; have g2 : kv 53 = Value.bool (j9) := ky 1 53 (by kernel_rfl) (by kernel_rfl); exact gt 53 g2 kt (L_fieldAddr fld64_2 Deed.of_Tag g1 (j4.mono (je.trans (jr.trans (k0.le.trans (k9.le.trans (ke.le.trans (kq.le.trans kx.le))))))) (by decide) (fun g3 g4 => fin g0 g4))
         ·intro kv kw kx ky kz Q g0; have g1 : kv 53 = Value.bool (j9) := ky 1 53 (by kernel_rfl) (by kernel_rfl); have g2 : Ptr _ (kv 54) (a0.Tag : Int) := ky 2 54 (by kernel_rfl) (by kernel_rfl); obtain ⟨g3, g4, g5⟩ : ∃ v, _ = v ∧ Ptr _ v _ := ⟨_, rfl, g2⟩; exact gt 53 g1 kt (li ty3 g4 g5 (fin g0 rfl))
         ·intro kv kw kx ky kz Q g0; have g1 : kv 53 = Value.bool (j9) := ky 1 53 (by kernel_rfl) (by kernel_rfl); have g2 : kv 55 = Value.int .i64 (a0.Tag) := ky 3 55 (by kernel_rfl) (by kernel_rfl); exact gt 53 g1 kt (L_eql g2 (rfl : _ = Value.int .i64 (-1)) (by decide) (fin g0 rfl))
         ·intro kv kw kx ky kz Q g0; have g1 : kv 53 = Value.bool (j9) := ky 1 53 (by kernel_rfl) (by kernel_rfl); have g2 : kv 56 = Value.bool (decide (a0.Tag = (-1))) := ky 4 56 (by kernel_rfl) (by kernel_rfl); exact pf g1 kt g2 (fin g0 rfl)
         ·intro kv kw kx ky kz Q g0; have g1 : kv 8 = Value.bool (jm) := (kz 8 (by kernel_rfl)).trans js; exact mv g1 (fin g0 rfl)
         ·intro kv kw kx ky kz Q g0; have g1 : kv 58 = Value.bool (jm) := ky 6 58 (by kernel_rfl) (by kernel_rfl); exact mv g1 (fin g0 rfl)
         ·intro kv kw kx ky kz Q g0; have g1 : kv 59 = Value.bool (jm) := ky 7 59 (by kernel_rfl) (by kernel_rfl); exact gf 59 g1 ku (fin g0 rfl)
         ·intro kv kw kx ky kz Q g0; have g1 : kv 59 = Value.bool (jm) := ky 7 59 (by kernel_rfl) (by kernel_rfl); exact gf 59 g1 ku (fin g0 rfl)
         ·intro kv kw kx ky kz Q g0; have g1 : kv 59 = Value.bool (jm) := ky 7 59 (by kernel_rfl) (by kernel_rfl); exact gf 59 g1 ku (fin g0 rfl)
         ·intro kv kw kx ky kz Q g0; have g1 : kv 59 = Value.bool (jm) := ky 7 59 (by kernel_rfl) (by kernel_rfl); exact pt g1 ku (rfl : _ = Value.bool (true)) (fin g0 rfl)
         ·intro kv kw kx ky kz Q g0; have g1 : kv 57 = Value.bool (decide (a0.Tag = (-1))) := ky 5 57 (by kernel_rfl) (by kernel_rfl); exact asg g1 (fin g0 rfl)
         ·intro kv kw kx ky kz Q g0; have g1 : kv 63 = Value.bool (true) := ky 11 63 (by kernel_rfl) (by kernel_rfl); exact asg g1 (fin g0 rfl)
         ·intro kv kw kx ky kz
          have g0 := Tch.ext ks kx
          have g1 : kv 3 = j2 := (kz 3 (by kernel_rfl)).trans ju
          have g2 : kv 7 = Value.bool (decide (a0.Tag = (-1))) := ky 12 7 (by kernel_rfl)
          have g3 : kv 8 = Value.bool (true) := ky 13 8 (by kernel_rfl)
          have g4 : kv 10 = Value.pointer (some ⟨k8, 0, none⟩) := (kz 10 (by kernel_rfl)).trans rfl
          refine block_n (then_n (W_seq ?_))
          refine W_drawP mixed 8 [PX.ptr (a0.Peer : Int), PX.eq (Value.int .i64 (a0.Peer)), PX.ptr (a0.Tag : Int), PX.eq (Value.int .i64 (a0.Tag)), PX.eq (Value.pointer (some ⟨k8, 1, none⟩)), PX.var s0.w.heap.size 64 ((Deed.with_Peer (Deed.with_Req (⟨a0.Kind, 0, 0, 0, false⟩ : Deed) jw) a0.Peer) : Deed), PX.eq (Value.pointer (some ⟨k8, 2, none⟩)), PX.var s0.w.heap.size 64 ((Deed.with_Tag (Deed.with_Peer (Deed.with_Req (⟨a0.Kind, 0, 0, 0, false⟩ : Deed) jw) a0.Peer) a0.Tag) : Deed), PX.var s0.w.heap.size 64 ((Deed.with_Req (⟨a0.Kind, 0, 0, 0, false⟩ : Deed) jw) : Deed)] [94, 95, 96, 97, 98, 10, 99, 10, 10] [[], [], [], [], [], [8], [], [5]] rfl (by kernel_rfl) (ent1 rfl ⟨k8, g4, (Nat.le_trans k2.size ka), (kr).ext kx⟩) (dis1 rfl) (StepsX_cons ?_ (StepsX_cons ?_ (StepsX_cons ?_ (StepsX_cons ?_ (StepsX_cons ?_ (StepsX_cons ?_ (StepsX_cons ?_ (StepsX_cons ?_ StepsX_nil)))))))) ?_
          ·intro g5 g6 g7 g8 g9 Q ga; have gb : g5 3 = j2 := (g9 3 (by kernel_rfl)).trans g1; exact L_fieldAddr fld64_1 Deed.of_Peer gb (j4.mono (je.trans (jr.trans (k0.le.trans (k9.le.trans (ke.le.trans (kq.le.trans (kx.le.trans g7.le)))))))) (by decide) (fun gc gd => L_nil (ga _ _ No (Ext.refl g6) (fun _ h => h.elim) gd (fun _ h => h.elim)))
          ·intro g5 g6 g7 g8 g9 Q ga; have gb : Ptr _ (g5 94) (a0.Peer : Int) := g8 0 (by kernel_rfl) (by show _ < 9; decide); obtain ⟨gc, gd, gg⟩ : ∃ v, _ = v ∧ Ptr _ v _ := ⟨_, rfl, gb⟩; exact li ty3 gd gg (L_nil (ga _ _ No (Ext.refl g6) (fun _ h => h.elim) rfl (fun _ h => h.elim)))
          ·intro g5 g6 g7 g8 g9 Q ga; have gb : g5 3 = j2 := (g9 3 (by kernel_rfl)).trans g1; exact L_fieldAddr fld64_2 Deed.of_Tag gb (j4.mono (je.trans (jr.trans (k0.le.trans (k9.le.trans (ke.le.trans (kq.le.trans (kx.le.trans g7.le)))))))) (by decide) (fun gc gd => L_nil (ga _ _ No (Ext.refl g6) (fun _ h => h.elim) gd (fun _ h => h.elim)))
          ·intro g5 g6 g7 g8 g9 Q ga; have gb : Ptr _ (g5 96) (a0.Tag : Int) := g8 2 (by kernel_rfl) (by show _ < 9; decide); obtain ⟨gc, gd, gg⟩ : ∃ v, _ = v ∧ Ptr _ v _ := ⟨_, rfl, gb⟩; exact li ty3 gd gg (L_nil (ga _ _ No (Ext.refl g6) (fun _ h => h.elim) rfl (fun _ h => h.elim)))
          ·intro g5 g6 g7 g8 g9 Q ga
           obtain ⟨gb, gc, gd, gg⟩ : ∃ b, g5 10 = Value.pointer (some ⟨b, 0, none⟩) ∧ s0.w.heap.size ≤ b ∧ Var g6 b 64 ((Deed.with_Req (⟨a0.Kind, 0, 0, 0, false⟩ : Deed) jw) : Deed) := g8 8 (by kernel_rfl) (by show _ < 9; decide)
           have gh : g5 10 = Value.pointer (some ⟨k8, 0, none⟩) := (g9 10 (by kernel_rfl)).trans g4
           have gi : gb = k8 := by have gj := gc.symm.trans gh; cases gj; rfl
           rw [gi] at gd gg
           exact L_fieldAddr_var fld64_1 gh (by decide) (L_nil (ga _ _ No (Ext.refl g6) (fun _ h => h.elim) rfl (fun _ h => h.elim)))
          ·intro g5 g6 g7 g8 g9 Q ga
           obtain ⟨gb, gc, gd, gg⟩ : ∃ b, g5 10 = Value.pointer (some ⟨b, 0, none⟩) ∧ s0.w.heap.size ≤ b ∧ Var g6 b 64 ((Deed.with_Req (⟨a0.Kind, 0, 0, 0, false⟩ : Deed) jw) : Deed) := g8 8 (by kernel_rfl) (by show _ < 9; decide)
           have gh : g5 10 = Value.pointer (some ⟨k8, 0, none⟩) := (g9 10 (by kernel_rfl)).trans g4
           have gi : gb = k8 := by have gj := gc.symm.trans gh; cases gj; rfl
           rw [gi] at gd gg
           have gk : g5 95 = Value.int .i64 (a0.Peer) := g8 1 (by kernel_rfl) (by show _ < 9; decide)
           have gl : g5 98 = Value.pointer (some ⟨k8, 1, none⟩) := g8 4 (by kernel_rfl) (by show _ < 9; decide)
           exact L_store_field ty3 Deed.set_Peer gl gk Vint (gg) (fun gm gn go => L_nil (ga undef _ _ gn (fun k h => ⟨8, (List.mem_singleton.2 rfl : (8 : Nat) ∈ [8]), (by show ownP (g5 10) k; rw [gh]; exact congrArg (fun z => Value.pointer (some ⟨z, 0, none⟩)) h.symm)⟩) ⟨_, gh, gd, go⟩ (fun k h => Or.inl ⟨8, (List.mem_singleton.2 rfl : (8 : Nat) ∈ [8]), h⟩)))
          ·intro g5 g6 g7 g8 g9 Q ga
           obtain ⟨gb, gc, gd, gg⟩ : ∃ b, g5 10 = Value.pointer (some ⟨b, 0, none⟩) ∧ s0.w.heap.size ≤ b ∧ Var g6 b 64 ((Deed.with_Peer (Deed.with_Req (⟨a0.Kind, 0, 0, 0, false⟩ : Deed) jw) a0.Peer) : Deed) := g8 5 (by kernel_rfl) (by show _ < 9; decide)
           have gh : g5 10 = Value.pointer (some ⟨k8, 0, none⟩) := (g9 10 (by kernel_rfl)).trans g4
           have gi : gb = k8 := by have gj := gc.symm.trans gh; cases gj; rfl
           rw [gi] at gd gg
           exact L_fieldAddr_var fld64_2 gh (by decide) (L_nil (ga _ _ No (Ext.refl g6) (fun _ h => h.elim) rfl (fun _ h => h.elim)))
          ·intro g5 g6 g7 g8 g9 Q ga
           obtain ⟨gb, gc, gd, gg⟩ : ∃ b, g5 10 = Value.pointer (some ⟨b, 0, none⟩) ∧ s0.w.heap.size ≤ b ∧ Var g6 b 64 ((Deed.with_Peer (Deed.with_Req (⟨a0.Kind, 0, 0, 0, false⟩ : Deed) jw) a0.Peer) : Deed) := g8 5 (by kernel_rfl) (by show _ < 9; decide)
           have gh : g5 10 = Value.pointer (some ⟨k8, 0, none⟩) := (g9 10 (by kernel_rfl)).trans g4
           have gi : gb = k8 := by have gj := gc.symm.trans gh; cases gj; rfl
           rw [gi] at gd gg
           have gk : g5 97 = Value.int .i64 (a0.Tag) := g8 3 (by kernel_rfl) (by show _ < 9; decide)
           have gl : g5 99 = Value.pointer (some ⟨k8, 2, none⟩) := g8 6 (by kernel_rfl) (by show _ < 9; decide)
           exact L_store_field ty3 Deed.set_Tag gl gk Vint (gg) (fun gm gn go => L_nil (ga undef _ _ gn (fun k h => ⟨5, (List.mem_singleton.2 rfl : (5 : Nat) ∈ [5]), (by show ownP (g5 10) k; rw [gh]; exact congrArg (fun z => Value.pointer (some ⟨z, 0, none⟩)) h.symm)⟩) ⟨_, gh, gd, go⟩ (fun k h => Or.inl ⟨5, (List.mem_singleton.2 rfl : (5 : Nat) ∈ [5]), h⟩)))
          ·intro g5 g6 g7 g8 g9 ga
           have gb := Tch.trans g0 g7 (fun k h => Or.inr (by have gc := ent_is (k := 8) rfl rfl h; have gd := Eq.mp (congrArg (fun v => ownP v k) (g4 : _ = Value.pointer (some ⟨k8, 0, none⟩))) gc; cases gd; exact (Nat.le_trans k2.size ka)))
           obtain ⟨gg, gh, gi, gj⟩ : ∃ b, g5 10 = Value.pointer (some ⟨b, 0, none⟩) ∧ s0.w.heap.size ≤ b ∧ Var g6 b 64 ((Deed.with_Tag (Deed.with_Peer (Deed.with_Req (⟨a0.Kind, 0, 0, 0, false⟩ : Deed) jw) a0.Peer) a0.Tag) : Deed) := g8 7 (by show _ < 9; decide) (by kernel_rfl)
           have gk : g5 10 = Value.pointer (some ⟨k8, 0, none⟩) := (ga 10 (by kernel_rfl)).trans g4
           have gl : gg = k8 := by have gd := gh.symm.trans gk; cases gd; rfl
           rw [gl] at gi gj
           have gm : g5 3 = j2 := (ga 3 (by kernel_rfl)).trans g1
           have gn : g5 7 = Value.bool (decide (a0.Tag = (-1))) := (ga 7 (by kernel_rfl)).trans g2
           have go : g5 8 = Value.bool (true) := (ga 8 (by kernel_rfl)).trans g3
           refine then_n (sr (L_load ty64 gm (j4.mono (je.trans (jr.trans (k0.le.trans (k9.le.trans (ke.le.trans (kq.le.trans (kx.le.trans g7.le)))))))) (by decide) (fun gp gq => L_load_var ty64 gk (gj) (by decide) (fun gr gs => L_seq64 (rfl : _ = gp) gq (rfl : _ = gr) gs (by decide) (mv (rfl : _ = Value.bool (decide (a0 = (Deed.with_Tag (Deed.with_Peer (Deed.with_Req (⟨a0.Kind, 0, 0, 0, false⟩ : Deed) jw) a0.Peer) a0.Tag)))) ?_)))))
           rcases Bool.eq_false_or_eq_true (decide (a0 = (Deed.with_Tag (Deed.with_Peer (Deed.with_Req (⟨a0.Kind, 0, 0, 0, false⟩ : Deed) jw) a0.Peer) a0.Tag))) with gu | gu
           ·have hr := ite_t gu hr
            refine gt 103 (rfl : _ = Value.bool (decide (a0 = (Deed.with_Tag (Deed.with_Peer (Deed.with_Req (⟨a0.Kind, 0, 0, 0, false⟩ : Deed) jw) a0.Peer) a0.Tag)))) gu (mv gn (pt (rfl : _ = Value.bool (decide (a0 = (Deed.with_Tag (Deed.with_Peer (Deed.with_Req (⟨a0.Kind, 0, 0, 0, false⟩ : Deed) jw) a0.Peer) a0.Tag)))) gu (rfl : _ = Value.bool (decide (a0.Tag = (-1)))) (mv (rfl : _ = Value.bool (decide (a0.Tag = (-1)))) ?_)))
            rcases Bool.eq_false_or_eq_true (decide (a0.Tag = (-1))) with gv | gv
            ·have hr := ite_t gv hr; refine gt 106 (rfl : _ = Value.bool (decide (a0.Tag = (-1)))) gv (mv go (pt (rfl : _ = Value.bool (decide (a0.Tag = (-1)))) gv (rfl : _ = Value.bool (true)) (asg (rfl : _ = Value.bool (true)) (nn (W_ret ?_))))); obtain rfl := Option.some.inj hr; exact done1 (Or.inl rfl) Try.results58 rfl ⟨_, _, rfl, rfl, gb, Vbool⟩
            ·have hr := ite_f gv hr; refine gf 106 (rfl : _ = Value.bool (decide (a0.Tag = (-1)))) gv (pf (rfl : _ = Value.bool (decide (a0.Tag = (-1)))) gv (rfl : _ = Value.bool (false)) (asg (rfl : _ = Value.bool (false)) (nn (W_ret ?_)))); obtain rfl := Option.some.inj hr; exact done1 (Or.inl rfl) Try.results58 rfl ⟨_, _, rfl, rfl, gb, Vbool⟩
           ·have hr := ite_f gu hr; refine gf 103 (rfl : _ = Value.bool (decide (a0 = (Deed.with_Tag (Deed.with_Peer (Deed.with_Req (⟨a0.Kind, 0, 0, 0, false⟩ : Deed) jw) a0.Peer) a0.Tag)))) gu (pf (rfl : _ = Value.bool (decide (a0 = (Deed.with_Tag (Deed.with_Peer (Deed.with_Req (⟨a0.Kind, 0, 0, 0, false⟩ : Deed) jw) a0.Peer) a0.Tag)))) gu (rfl : _ = Value.bool (false)) (mv (rfl : _ = Value.bool (false)) (gf 106 (rfl : _ = Value.bool (false)) rfl (pf (rfl : _ = Value.bool (false)) rfl (rfl : _ = Value.bool (false)) (asg (rfl : _ = Value.bool (false)) (nn (W_ret ?_))))))); obtain rfl := Option.some.inj hr; exact done1 (Or.inl rfl) Try.results58 rfl ⟨_, _, rfl, rfl, gb, Vbool⟩
        ·have hr := ite_f ku hr
         refine W_draws mixed (by kernel_rfl) [PV.eq (Value.bool (j9)), PV.eq (Value.bool (j9)), PV.ptr (a0.Tag : Int), PV.eq (Value.int .i64 (a0.Tag)), PV.eq (Value.bool (decide (a0.Tag = (-1)))), PV.eq (Value.bool (decide (a0.Tag = (-1)))), PV.eq (Value.bool (jm)), PV.eq (Value.bool (jm)), PV.ptr (a0.Peer : Int), PV.eq (Value.int .i64 (a0.Peer)), PV.eq (Value.bool (decide (a0.Peer = (-1)))), PV.eq (Value.bool (decide (a0.Peer = (-1)))), PV.eq (Value.bool (decide (a0.Tag = (-1)))), PV.eq (Value.bool (decide (a0.Peer = (-1))))] (Steps_cons ?_ (Steps_cons ?_ (Steps_cons ?_ (Steps_cons ?_ (Steps_cons ?_ (Steps_cons ?_ (Steps_cons ?_ (Steps_cons ?_ (Steps_cons ?_ (Steps_cons ?_ (Steps_cons ?_ (Steps_cons ?_ (Steps_cons ?_ (Steps_cons ?_ Steps_nil)))))))))))))) ?_
         ·intro kv kw kx ky kz Q g0; have g1 : kv 7 = Value.bool (j9) := (kz 7 (by kernel_rfl)).trans jv; exact mv g1 (fin g0 rfl)
         ·intro kv kw kx ky kz Q g0; have g1 : kv 52 = Value.bool (j9) := ky 0 52 (by kernel_rfl) (by kernel_rfl); exact mv g1 (fin g0 rfl)
         ·intro kv kw kx ky kz Q g0; have g1 : kv 3 = j2 := (kz 3 (by kernel_rfl)).trans ju; have g2 : kv 53 = Value.bool (j9) := ky 1 53 (by kernel_rfl) (by kernel_rfl); exact gt 53 g2 kt (L_fieldAddr fld64_2 Deed.of_Tag g1 (j4.mono (je.trans (jr.trans (k0.le.trans (k9.le.trans (ke.le.trans (kq.le.trans kx.le))))))) (by decide) (fun g3 g4 => fin g0 g4))
         ·intro kv kw kx ky kz Q g0; have g1 : kv 53 = Value.bool (j9) := ky 1 53 (by kernel_rfl) (by kernel_rfl); have g2 : Ptr _ (kv 54) (a0.Tag : Int) := ky 2 54 (by kernel_rfl) (by kernel_rfl); obtain ⟨g3, g4, g5⟩ : ∃ v, _ = v ∧ Ptr _ v _ := ⟨_, rfl, g2⟩; exact gt 53 g1 kt (li ty3 g4 g5 (fin g0 rfl))
         ·intro kv kw kx ky kz Q g0; have g1 : kv 53 = Value.bool (j9) := ky 1 53 (by kernel_rfl) (by kernel_rfl); have g2 : kv 55 = Value.int .i64 (a0.Tag) := ky 3 55 (by kernel_rfl) (by kernel_rfl); exact gt 53 g1 kt (L_eql g2 (rfl : _ = Value.int .i64 (-1)) (by decide) (fin g0 rfl))
         ·intro kv kw kx ky kz Q g0; have g1 : kv 53 = Value.bool (j9) := ky 1 53 (by kernel_rfl) (by kernel_rfl); have g2 : kv 56 = Value.bool (decide (a0.Tag = (-1))) := ky 4 56 (by kernel_rfl) (by kernel_rfl); exact pf g1 kt g2 (fin g0 rfl)
         ·intro kv kw kx ky kz Q g0; have g1 : kv 8 = Value.bool (jm) := (kz 8 (by kernel_rfl)).trans js; exact mv g1 (fin g0 rfl)
         ·intro kv kw kx ky kz Q g0; have g1 : kv 58 = Value.bool (jm) := ky 6 58 (by kernel_rfl) (by kernel_rfl); exact mv g1 (fin g0 rfl)
         ·intro kv kw kx ky kz Q g0; have g1 : kv 3 = j2 := (kz 3 (by kernel_rfl)).trans ju; have g2 : kv 59 = Value.bool (jm) := ky 7 59 (by kernel_rfl) (by kernel_rfl); exact gt 59 g2 ku (L_fieldAddr fld64_1 Deed.of_Peer g1 (j4.mono (je.trans (jr.trans (k0.le.trans (k9.le.trans (ke.le.trans (kq.le.trans kx.le))))))) (by decide) (fun g3 g4 => fin g0 g4))
         ·intro kv kw kx ky kz Q g0; have g1 : kv 59 = Value.bool (jm) := ky 7 59 (by kernel_rfl) (by kernel_rfl); have g2 : Ptr _ (kv 60) (a0.Peer : Int) := ky 8 60 (by kernel_rfl) (by kernel_rfl); obtain ⟨g3, g4, g5⟩ : ∃ v, _ = v ∧ Ptr _ v _ := ⟨_, rfl, g2⟩; exact gt 59 g1 ku (li ty3 g4 g5 (fin g0 rfl))
         ·intro kv kw kx ky kz Q g0; have g1 : kv 59 = Value.bool (jm) := ky 7 59 (by kernel_rfl) (by kernel_rfl); have g2 : kv 61 = Value.int .i64 (a0.Peer) := ky 9 61 (by kernel_rfl) (by kernel_rfl); exact gt 59 g1 ku (L_eql g2 (rfl : _ = Value.int .i64 (-1)) (by decide) (fin g0 rfl))
         ·intro kv kw kx ky kz Q g0; have g1 : kv 59 = Value.bool (jm) := ky 7 59 (by kernel_rfl) (by kernel_rfl); have g2 : kv 62 = Value.bool (decide (a0.Peer = (-1))) := ky 10 62 (by kernel_rfl) (by kernel_rfl); exact pf g1 ku g2 (fin g0 rfl)
         ·intro kv kw kx ky kz Q g0; have g1 : kv 57 = Value.bool (decide (a0.Tag = (-1))) := ky 5 57 (by kernel_rfl) (by kernel_rfl); exact asg g1 (fin g0 rfl)
         ·intro kv kw kx ky kz Q g0; have g1 : kv 63 = Value.bool (decide (a0.Peer = (-1))) := ky 11 63 (by kernel_rfl) (by kernel_rfl); exact asg g1 (fin g0 rfl)
         ·intro kv kw kx ky kz
          have g0 := Tch.ext ks kx
          have g1 : kv 3 = j2 := (kz 3 (by kernel_rfl)).trans ju
          have g2 : kv 7 = Value.bool (decide (a0.Tag = (-1))) := ky 12 7 (by kernel_rfl)
          have g3 : kv 8 = Value.bool (decide (a0.Peer = (-1))) := ky 13 8 (by kernel_rfl)
          have g4 : kv 10 = Value.pointer (some ⟨k8, 0, none⟩) := (kz 10 (by kernel_rfl)).trans rfl
          refine block_n (then_n (W_seq ?_))
          refine W_drawP mixed 8 [PX.ptr (a0.Peer : Int), PX.eq (Value.int .i64 (a0.Peer)), PX.ptr (a0.Tag : Int), PX.eq (Value.int .i64 (a0.Tag)), PX.eq (Value.pointer (some ⟨k8, 1, none⟩)), PX.var s0.w.heap.size 64 ((Deed.with_Peer (Deed.with_Req (⟨a0.Kind, 0, 0, 0, false⟩ : Deed) jw) a0.Peer) : Deed), PX.eq (Value.pointer (some ⟨k8, 2, none⟩)), PX.var s0.w.heap.size 64 ((Deed.with_Tag (Deed.with_Peer (Deed.with_Req (⟨a0.Kind, 0, 0, 0, false⟩ : Deed) jw) a0.Peer) a0.Tag) : Deed), PX.var s0.w.heap.size 64 ((Deed.with_Req (⟨a0.Kind, 0, 0, 0, false⟩ : Deed) jw) : Deed)] [94, 95, 96, 97, 98, 10, 99, 10, 10] [[], [], [], [], [], [8], [], [5]] rfl (by kernel_rfl) (ent1 rfl ⟨k8, g4, (Nat.le_trans k2.size ka), (kr).ext kx⟩) (dis1 rfl) (StepsX_cons ?_ (StepsX_cons ?_ (StepsX_cons ?_ (StepsX_cons ?_ (StepsX_cons ?_ (StepsX_cons ?_ (StepsX_cons ?_ (StepsX_cons ?_ StepsX_nil)))))))) ?_
          ·intro g5 g6 g7 g8 g9 Q ga; have gb : g5 3 = j2 := (g9 3 (by kernel_rfl)).trans g1; exact L_fieldAddr fld64_1 Deed.of_Peer gb (j4.mono (je.trans (jr.trans (k0.le.trans (k9.le.trans (ke.le.trans (kq.le.trans (kx.le.trans g7.le)))))))) (by decide) (fun gc gd => L_nil (ga _ _ No (Ext.refl g6) (fun _ h => h.elim) gd (fun _ h => h.elim)))
          ·intro g5 g6 g7 g8 g9 Q ga; have gb : Ptr _ (g5 94) (a0.Peer : Int) := g8 0 (by kernel_rfl) (by show _ < 9; decide); obtain ⟨gc, gd, gg⟩ : ∃ v, _ = v ∧ Ptr _ v _ := ⟨_, rfl, gb⟩; exact li ty3 gd gg (L_nil (ga _ _ No (Ext.refl g6) (fun _ h => h.elim) rfl (fun _ h => h.elim)))
          ·intro g5 g6 g7 g8 g9 Q ga; have gb : g5 3 = j2 := (g9 3 (by kernel_rfl)).trans g1; exact L_fieldAddr fld64_2 Deed.of_Tag gb (j4.mono (je.trans (jr.trans (k0.le.trans (k9.le.trans (ke.le.trans (kq.le.trans (kx.le.trans g7.le)))))))) (by decide) (fun gc gd => L_nil (ga _ _ No (Ext.refl g6) (fun _ h => h.elim) gd (fun _ h => h.elim)))
          ·intro g5 g6 g7 g8 g9 Q ga; have gb : Ptr _ (g5 96) (a0.Tag : Int) := g8 2 (by kernel_rfl) (by show _ < 9; decide); obtain ⟨gc, gd, gg⟩ : ∃ v, _ = v ∧ Ptr _ v _ := ⟨_, rfl, gb⟩; exact li ty3 gd gg (L_nil (ga _ _ No (Ext.refl g6) (fun _ h => h.elim) rfl (fun _ h => h.elim)))
          ·intro g5 g6 g7 g8 g9 Q ga
           obtain ⟨gb, gc, gd, gg⟩ : ∃ b, g5 10 = Value.pointer (some ⟨b, 0, none⟩) ∧ s0.w.heap.size ≤ b ∧ Var g6 b 64 ((Deed.with_Req (⟨a0.Kind, 0, 0, 0, false⟩ : Deed) jw) : Deed) := g8 8 (by kernel_rfl) (by show _ < 9; decide)
           have gh : g5 10 = Value.pointer (some ⟨k8, 0, none⟩) := (g9 10 (by kernel_rfl)).trans g4
           have gi : gb = k8 := by have gj := gc.symm.trans gh; cases gj; rfl
           rw [gi] at gd gg
           exact L_fieldAddr_var fld64_1 gh (by decide) (L_nil (ga _ _ No (Ext.refl g6) (fun _ h => h.elim) rfl (fun _ h => h.elim)))
          ·intro g5 g6 g7 g8 g9 Q ga
           obtain ⟨gb, gc, gd, gg⟩ : ∃ b, g5 10 = Value.pointer (some ⟨b, 0, none⟩) ∧ s0.w.heap.size ≤ b ∧ Var g6 b 64 ((Deed.with_Req (⟨a0.Kind, 0, 0, 0, false⟩ : Deed) jw) : Deed) := g8 8 (by kernel_rfl) (by show _ < 9; decide)
           have gh : g5 10 = Value.pointer (some ⟨k8, 0, none⟩) := (g9 10 (by kernel_rfl)).trans g4
           have gi : gb = k8 := by have gj := gc.symm.trans gh; cases gj; rfl
           rw [gi] at gd gg
           have gk : g5 95 = Value.int .i64 (a0.Peer) := g8 1 (by kernel_rfl) (by show _ < 9; decide)
           have gl : g5 98 = Value.pointer (some ⟨k8, 1, none⟩) := g8 4 (by kernel_rfl) (by show _ < 9; decide)
           exact L_store_field ty3 Deed.set_Peer gl gk Vint (gg) (fun gm gn go => L_nil (ga undef _ _ gn (fun k h => ⟨8, (List.mem_singleton.2 rfl : (8 : Nat) ∈ [8]), (by show ownP (g5 10) k; rw [gh]; exact congrArg (fun z => Value.pointer (some ⟨z, 0, none⟩)) h.symm)⟩) ⟨_, gh, gd, go⟩ (fun k h => Or.inl ⟨8, (List.mem_singleton.2 rfl : (8 : Nat) ∈ [8]), h⟩)))
          ·intro g5 g6 g7 g8 g9 Q ga
           obtain ⟨gb, gc, gd, gg⟩ : ∃ b, g5 10 = Value.pointer (some ⟨b, 0, none⟩) ∧ s0.w.heap.size ≤ b ∧ Var g6 b 64 ((Deed.with_Peer (Deed.with_Req (⟨a0.Kind, 0, 0, 0, false⟩ : Deed) jw) a0.Peer) : Deed) := g8 5 (by kernel_rfl) (by show _ < 9; decide)
           have gh : g5 10 = Value.pointer (some ⟨k8, 0, none⟩) := (g9 10 (by kernel_rfl)).trans g4
           have gi : gb = k8 := by have gj := gc.symm.trans gh; cases gj; rfl
           rw [gi] at gd gg
           exact L_fieldAddr_var fld64_2 gh (by decide) (L_nil (ga _ _ No (Ext.refl g6) (fun _ h => h.elim) rfl (fun _ h => h.elim)))
          ·intro g5 g6 g7 g8 g9 Q ga
           obtain ⟨gb, gc, gd, gg⟩ : ∃ b, g5 10 = Value.pointer (some ⟨b, 0, none⟩) ∧ s0.w.heap.size ≤ b ∧ Var g6 b 64 ((Deed.with_Peer (Deed.with_Req (⟨a0.Kind, 0, 0, 0, false⟩ : Deed) jw) a0.Peer) : Deed) := g8 5 (by kernel_rfl) (by show _ < 9; decide)
           have gh : g5 10 = Value.pointer (some ⟨k8, 0, none⟩) := (g9 10 (by kernel_rfl)).trans g4
           have gi : gb = k8 := by have gj := gc.symm.trans gh; cases gj; rfl
           rw [gi] at gd gg
           have gk : g5 97 = Value.int .i64 (a0.Tag) := g8 3 (by kernel_rfl) (by show _ < 9; decide)
           have gl : g5 99 = Value.pointer (some ⟨k8, 2, none⟩) := g8 6 (by kernel_rfl) (by show _ < 9; decide)
           exact L_store_field ty3 Deed.set_Tag gl gk Vint (gg) (fun gm gn go => L_nil (ga undef _ _ gn (fun k h => ⟨5, (List.mem_singleton.2 rfl : (5 : Nat) ∈ [5]), (by show ownP (g5 10) k; rw [gh]; exact congrArg (fun z => Value.pointer (some ⟨z, 0, none⟩)) h.symm)⟩) ⟨_, gh, gd, go⟩ (fun k h => Or.inl ⟨5, (List.mem_singleton.2 rfl : (5 : Nat) ∈ [5]), h⟩)))
          ·intro g5 g6 g7 g8 g9 ga
           have gb := Tch.trans g0 g7 (fun k h => Or.inr (by have gc := ent_is (k := 8) rfl rfl h; have gd := Eq.mp (congrArg (fun v => ownP v k) (g4 : _ = Value.pointer (some ⟨k8, 0, none⟩))) gc; cases gd; exact (Nat.le_trans k2.size ka)))
           obtain ⟨gg, gh, gi, gj⟩ : ∃ b, g5 10 = Value.pointer (some ⟨b, 0, none⟩) ∧ s0.w.heap.size ≤ b ∧ Var g6 b 64 ((Deed.with_Tag (Deed.with_Peer (Deed.with_Req (⟨a0.Kind, 0, 0, 0, false⟩ : Deed) jw) a0.Peer) a0.Tag) : Deed) := g8 7 (by show _ < 9; decide) (by kernel_rfl)
           have gk : g5 10 = Value.pointer (some ⟨k8, 0, none⟩) := (ga 10 (by kernel_rfl)).trans g4
           have gl : gg = k8 := by have gd := gh.symm.trans gk; cases gd; rfl
           rw [gl] at gi gj
           have gm : g5 3 = j2 := (ga 3 (by kernel_rfl)).trans g1
           have gn : g5 7 = Value.bool (decide (a0.Tag = (-1))) := (ga 7 (by kernel_rfl)).trans g2
           have go : g5 8 = Value.bool (decide (a0.Peer = (-1))) := (ga 8 (by kernel_rfl)).trans g3
           refine then_n (sr (L_load ty64 gm (j4.mono (je.trans (jr.trans (k0.le.trans (k9.le.trans (ke.le.trans (kq.le.trans (kx.le.trans g7.le)))))))) (by decide) (fun gp gq => L_load_var ty64 gk (gj) (by decide) (fun gr gs => L_seq64 (rfl : _ = gp) gq (rfl : _ = gr) gs (by decide) (mv (rfl : _ = Value.bool (decide (a0 = (Deed.with_Tag (Deed.with_Peer (Deed.with_Req (⟨a0.Kind, 0, 0, 0, false⟩ : Deed) jw) a0.Peer) a0.Tag)))) ?_)))))
           rcases Bool.eq_false_or_eq_true (decide (a0 = (Deed.with_Tag (Deed.with_Peer (Deed.with_Req (⟨a0.Kind, 0, 0, 0, false⟩ : Deed) jw) a0.Peer) a0.Tag))) with gu | gu
           ·have hr := ite_t gu hr
            refine gt 103 (rfl : _ = Value.bool (decide (a0 = (Deed.with_Tag (Deed.with_Peer (Deed.with_Req (⟨a0.Kind, 0, 0, 0, false⟩ : Deed) jw) a0.Peer) a0.Tag)))) gu (mv gn (pt (rfl : _ = Value.bool (decide (a0 = (Deed.with_Tag (Deed.with_Peer (Deed.with_Req (⟨a0.Kind, 0, 0, 0, false⟩ : Deed) jw) a0.Peer) a0.Tag)))) gu (rfl : _ = Value.bool (decide (a0.Tag = (-1)))) (mv (rfl : _ = Value.bool (decide (a0.Tag = (-1)))) ?_)))
            rcases Bool.eq_false_or_eq_true (decide (a0.Tag = (-1))) with gv | gv
            ·have hr := ite_t gv hr; refine gt 106 (rfl : _ = Value.bool (decide (a0.Tag = (-1)))) gv (mv go (pt (rfl : _ = Value.bool (decide (a0.Tag = (-1)))) gv (rfl : _ = Value.bool (decide (a0.Peer = (-1)))) (asg (rfl : _ = Value.bool (decide (a0.Peer = (-1)))) (nn (W_ret ?_))))); obtain rfl := Option.some.inj hr; exact done1 (Or.inl rfl) Try.results58 rfl ⟨_, _, rfl, rfl, gb, Vbool⟩
            ·have hr := ite_f gv hr; refine gf 106 (rfl : _ = Value.bool (decide (a0.Tag = (-1)))) gv (pf (rfl : _ = Value.bool (decide (a0.Tag = (-1)))) gv (rfl : _ = Value.bool (false)) (asg (rfl : _ = Value.bool (false)) (nn (W_ret ?_)))); obtain rfl := Option.some.inj hr; exact done1 (Or.inl rfl) Try.results58 rfl ⟨_, _, rfl, rfl, gb, Vbool⟩
           ·have hr := ite_f gu hr; refine gf 103 (rfl : _ = Value.bool (decide (a0 = (Deed.with_Tag (Deed.with_Peer (Deed.with_Req (⟨a0.Kind, 0, 0, 0, false⟩ : Deed) jw) a0.Peer) a0.Tag)))) gu (pf (rfl : _ = Value.bool (decide (a0 = (Deed.with_Tag (Deed.with_Peer (Deed.with_Req (⟨a0.Kind, 0, 0, 0, false⟩ : Deed) jw) a0.Peer) a0.Tag)))) gu (rfl : _ = Value.bool (false)) (mv (rfl : _ = Value.bool (false)) (gf 106 (rfl : _ = Value.bool (false)) rfl (pf (rfl : _ = Value.bool (false)) rfl (rfl : _ = Value.bool (false)) (asg (rfl : _ = Value.bool (false)) (nn (W_ret ?_))))))); obtain rfl := Option.some.inj hr; exact done1 (Or.inl rfl) Try.results58 rfl ⟨_, _, rfl, rfl, gb, Vbool⟩
      ·have hr := ite_f km hr
       refine sr (L_eql (rfl : _ = Value.int .i64 (a0.Kind)) (rfl : _ = Value.int .i64 (5)) (by decide) (asg (rfl : _ = Value.bool (decide (a0.Kind = 5))) (nn ?_)))
       refine W_cond _ (rfl : _ = Value.bool (decide (a0.Kind = 5))) (fun kn => ?_) (fun kn => ?_)
       ·have hr := ite_t kn hr
        refine sr (L_fieldAddr fld64_3 Deed.of_Req ju (j4.mono (je.trans (jr.trans (k0.le.trans (k9.le.trans ke.le))))) (by decide) (fun ko kp => li ty3 (rfl : _ = ko) kp (L_fieldAddr_var fld64_3 (rfl : _ = Value.pointer (some ⟨k8, 0, none⟩)) (by decide) (L_store_field ty3 Deed.set_Req (rfl : _ = Value.pointer (some ⟨k8, 3, none⟩)) (rfl : _ = Value.int .i64 (a0.Req)) Vint (kf) (fun kq kr ks => ?_)))))
        have kt := Tch.trans kg kr (fun k hk => Or.inr (by subst hk; exact (Nat.le_trans k2.size ka)))
        refine nn ?_
        obtain ⟨ku, kv, kw⟩ := bind_some hr
        refine W_seq_cut (fun f w => ∃ (s : St) (kx : Bool), s.w = w ∧ Ext s0 s ∧ Le kq s ∧ kx = ku ∧ f 6 = Value.bool kx) ?_ ?_
        ·have hr := kv
         refine W_region (L_load ty64 ju (j4.mono (je.trans (jr.trans (k0.le.trans (k9.le.trans (ke.le.trans kr.le)))))) (by decide) (fun ky kz => L_load_var ty64 (rfl : _ = Value.pointer (some ⟨k8, 0, none⟩)) (ks) (by decide) (fun g0 g1 => L_seq64 (rfl : _ = ky) kz (rfl : _ = g0) g1 (by decide) (mv (rfl : _ = Value.bool (decide (a0 = (Deed.with_Req (⟨a0.Kind, 0, 0, 0, false⟩ : Deed) a0.Req)))) ?_))))
         rcases Bool.eq_false_or_eq_true (decide (a0 = (Deed.with_Req (⟨a0.Kind, 0, 0, 0, false⟩ : Deed) a0.Req))) with g2 | g2
         ·have hr := ite_t g2 hr
          refine gt 72 (rfl : _ = Value.bool (decide (a0 = (Deed.with_Req (⟨a0.Kind, 0, 0, 0, false⟩ : Deed) a0.Req)))) g2 (L_fieldAddr fld64_3 Deed.of_Req ju (j4.mono (je.trans (jr.trans (k0.le.trans (k9.le.trans (ke.le.trans kr.le)))))) (by decide) (fun g3 g4 => gt 72 (rfl : _ = Value.bool (decide (a0 = (Deed.with_Req (⟨a0.Kind, 0, 0, 0, false⟩ : Deed) a0.Req)))) g2 (li ty3 (rfl : _ = g3) g4 (gt 72 (rfl : _ = Value.bool (decide (a0 = (Deed.with_Req (⟨a0.Kind, 0, 0, 0, false⟩ : Deed) a0.Req)))) g2 (L_geq (rfl : _ = Value.int .i64 (a0.Req)) (rfl : _ = Value.int .i64 (0)) (by decide) (pt (rfl : _ = Value.bool (decide (a0 = (Deed.with_Req (⟨a0.Kind, 0, 0, 0, false⟩ : Deed) a0.Req)))) g2 (rfl : _ = Value.bool (decide (0 ≤ a0.Req))) (mv (rfl : _ = Value.bool (decide (0 ≤ a0.Req))) ?_)))))))
          rcases Bool.eq_false_or_eq_true (decide (0 ≤ a0.Req)) with g5 | g5
          ·have hr := ite_t g5 hr
           refine gt 77 (rfl : _ = Value.bool (decide (0 ≤ a0.Req))) g5 (L_fieldAddr fld64_3 Deed.of_Req ju (j4.mono (je.trans (jr.trans (k0.le.trans (k9.le.trans (ke.le.trans kr.le)))))) (by decide) (fun g6 g7 => gt 77 (rfl : _ = Value.bool (decide (0 ≤ a0.Req))) g5 (li ty3 (rfl : _ = g6) g7 (gt 77 (rfl : _ = Value.bool (decide (0 ≤ a0.Req))) g5 (mv (rfl : _ = Value.int .i64 (jw)) (gt 77 (rfl : _ = Value.bool (decide (0 ≤ a0.Req))) g5 (L_lss (rfl : _ = Value.int .i64 (a0.Req)) (rfl : _ = Value.int .i64 (jw)) (by decide) (pt (rfl : _ = Value.bool (decide (0 ≤ a0.Req))) g5 (rfl : _ = Value.bool (decide (a0.Req < jw))) (mv (rfl : _ = Value.bool (decide (a0.Req < jw))) ?_)))))))))
           rcases Bool.eq_false_or_eq_true (decide (a0.Req < jw)) with g8 | g8
           ·have hr := ite_t g8 hr; refine gt 83 (rfl : _ = Value.bool (decide (a0.Req < jw))) g8 (mv jt (gt 83 (rfl : _ = Value.bool (decide (a0.Req < jw))) g8 (L_load ty64 ju (j4.mono (je.trans (jr.trans (k0.le.trans (k9.le.trans (ke.le.trans kr.le)))))) (by decide) (fun g9 ga => gt 83 (rfl : _ = Value.bool (decide (a0.Req < jw))) g8 ?_)))); obtain ⟨gb, gc, hr⟩ := bind_some hr; refine L_calls cal80 (args2 (rfl : _ = w1) (rfl : _ = g9)) (slices_Contains_Llang_Deed_lang_Deed_ok N _ _ _ (h1.mono (j3.le.trans (je.trans (jr.trans (k0.le.trans (k9.le.trans (ke.le.trans kr.le))))))) _ _ ga gb gc) (by decide) (fun gd gg gh gi => ?_); have gj := Tch.ext kt gh; obtain rfl := gi.bool; exact gt 83 (rfl : _ = Value.bool (decide (a0.Req < jw))) g8 (L_not (rfl : _ = Value.bool (gb)) (by decide) (pt (rfl : _ = Value.bool (decide (a0.Req < jw))) g8 (rfl : _ = Value.bool (!gb)) (asg (rfl : _ = Value.bool (!gb)) (nn ⟨gg, (!gb), rfl, gj, gh.le, Option.some.inj hr, rfl⟩))))
           ·have hr := ite_f g8 hr; exact gf 83 (rfl : _ = Value.bool (decide (a0.Req < jw))) g8 (gf 83 (rfl : _ = Value.bool (decide (a0.Req < jw))) g8 (gf 83 (rfl : _ = Value.bool (decide (a0.Req < jw))) g8 (gf 83 (rfl : _ = Value.bool (decide (a0.Req < jw))) g8 (pf (rfl : _ = Value.bool (decide (a0.Req < jw))) g8 (rfl : _ = Value.bool (false)) (asg (rfl : _ = Value.bool (false)) (nn ⟨kq, false, rfl, kt, (Le.refl _), Option.some.inj hr, rfl⟩))))))
          ·have hr := ite_f g5 hr; exact gf 77 (rfl : _ = Value.bool (decide (0 ≤ a0.Req))) g5 (gf 77 (rfl : _ = Value.bool (decide (0 ≤ a0.Req))) g5 (gf 77 (rfl : _ = Value.bool (decide (0 ≤ a0.Req))) g5 (gf 77 (rfl : _ = Value.bool (decide (0 ≤ a0.Req))) g5 (pf (rfl : _ = Value.bool (decide (0 ≤ a0.Req))) g5 (rfl : _ = Value.bool (false)) (mv (rfl : _ = Value.bool (false)) (gf 83 (rfl : _ = Value.bool (false)) rfl (gf 83 (rfl : _ = Value.bool (false)) rfl (gf 83 (rfl : _ = Value.bool (false)) rfl (gf 83 (rfl : _ = Value.bool (false)) rfl (pf (rfl : _ = Value.bool (false)) rfl (rfl : _ = Value.bool (false)) (asg (rfl : _ = Value.bool (false)) (nn ⟨kq, false, rfl, kt, (Le.refl _), Option.some.inj hr, rfl⟩))))))))))))
         ·have hr := ite_f g2 hr; refine gf 72 (rfl : _ = Value.bool (decide (a0 = (Deed.with_Req (⟨a0.Kind, 0, 0, 0, false⟩ : Deed) a0.Req)))) g2 (gf 72 (rfl : _ = Value.bool (decide (a0 = (Deed.with_Req (⟨a0.Kind, 0, 0, 0, false⟩ : Deed) a0.Req)))) g2 (gf 72 (rfl : _ = Value.bool (decide (a0 = (Deed.with_Req (⟨a0.Kind, 0, 0, 0, false⟩ : Deed) a0.Req)))) g2 (pf (rfl : _ = Value.bool (decide (a0 = (Deed.with_Req (⟨a0.Kind, 0, 0, 0, false⟩ : Deed) a0.Req)))) g2 (rfl : _ = Value.bool (false)) (mv (rfl : _ = Value.bool (false)) (gf 77 (rfl : _ = Value.bool (false)) rfl (gf 77 (rfl : _ = Value.bool (false)) rfl (gf 77 (rfl : _ = Value.bool (false)) rfl (gf 77 (rfl : _ = Value.bool (false)) rfl (pf (rfl : _ = Value.bool (false)) rfl (rfl : _ = Value.bool (false)) (mv (rfl : _ = Value.bool (false)) (gf 83 (rfl : _ = Value.bool (false)) rfl (gf 83 (rfl : _ = Value.bool (false)) rfl (gf 83 (rfl : _ = Value.bool (false)) rfl ?_))))))))))))); exact gf 83 (rfl : _ = Value.bool (false)) rfl (pf (rfl : _ = Value.bool (false)) rfl (rfl : _ = Value.bool (false)) (asg (rfl : _ = Value.bool (false)) (nn ⟨kq, false, rfl, kt, (Le.refl _), Option.some.inj hr, rfl⟩)))
        ·rintro ky kz ⟨g0, kx, rfl, g1, g2, kv, g3⟩; subst kv; have hr := kw; (try dsimp only at hr); refine W_ret (block_r (then_r ?_)); obtain rfl := Option.some.inj hr; exact done1 (Or.inl rfl) Try.results58 g3 ⟨_, _, rfl, rfl, g1, Vbool⟩
       ·have hr := ite_f kn hr
        refine sr (L_eql (rfl : _ = Value.int .i64 (a0.Kind)) (rfl : _ = Value.int .i64 (6)) (by decide) (asg (rfl : _ = Value.bool (decide (a0.Kind = 6))) (nn ?_)))
        refine W_cond _ (rfl : _ = Value.bool (decide (a0.Kind = 6))) (fun ko => ?_) (fun ko => ?_)
        ·have hr := ite_t ko hr; refine sr (L_load ty64 ju (j4.mono (je.trans (jr.trans (k0.le.trans (k9.le.trans ke.le))))) (by decide) (fun kp kq => L_load_var ty64 (rfl : _ = Value.pointer (some ⟨k8, 0, none⟩)) (kf) (by decide) (fun kr ks => L_seq64 (rfl : _ = kp) kq (rfl : _ = kr) ks (by decide) (asg (rfl : _ = Value.bool (decide (a0 = (⟨a0.Kind, 0, 0, 0, false⟩ : Deed)))) (nn (W_ret (block_r (then_r ?_)))))))); obtain rfl := Option.some.inj hr; exact done1 (Or.inl rfl) Try.results58 rfl ⟨_, _, rfl, rfl, kg, Vbool⟩
        ·have hr := ite_f ko hr; refine sr (asg (rfl : _ = Value.bool (false)) (nn (W_ret (block_r (then_r ?_))))); obtain rfl := Option.some.inj hr; exact done1 (Or.inl rfl) Try.results58 rfl ⟨_, _, rfl, rfl, kg, Vbool⟩

theorem dead_Check_ok (N : Nat) (s0 : St) (w0 : Value) (a0 : List (List Deed)) (h0 : V s0 w0 a0) (r : Int) (hr : dead_Check N a0 = some r) :
    Calls Try.prog 27 #[w0] s0.w (Ret s0 fun v s => V s v r) := by
 unfold dead_Check at hr
 have j0 := Ext.refl s0
 refine Calls_of (n := 50) (args := [w0]) Try.func27 rfl rfl (by simp) (sr (asg (rfl : _ = Value.int .i64 (0)) (nn (W_seq ?_))))
 obtain ⟨j1, j2, j3⟩ := bind_some hr
 refine W_seq_cut (fun f w => ∃ (s : St) (j4 : Bool), s.w = w ∧ Ext s0 s ∧ Le s0 s ∧ j4 = j1 ∧ f 16 = Value.bool j4 ∧ f 0 = w0) ?_ ?_
 ·have hr := j2
  refine W_region (mv (rfl : _ = w0) (L_len Try.underlying29 (rfl : _ = w0) h0 (by decide) (L_lss (rfl : _ = Value.int .i64 ((a0.length : Int))) (rfl : _ = Value.int .i64 (1)) (by decide) (mv (rfl : _ = Value.bool (decide ((a0.length : Int) < 1))) ?_))))
  rcases Bool.eq_false_or_eq_true (decide ((a0.length : Int) < 1)) with j5 | j5
  ·have hr := ite_t j5 hr; exact gf 12 (rfl : _ = Value.bool (decide ((a0.length : Int) < 1))) j5 (gf 12 (rfl : _ = Value.bool (decide ((a0.length : Int) < 1))) j5 (gf 12 (rfl : _ = Value.bool (decide ((a0.length : Int) < 1))) j5 (pt (rfl : _ = Value.bool (decide ((a0.length : Int) < 1))) j5 (rfl : _ = Value.bool (true)) (nn ⟨s0, true, rfl, j0, (Le.refl _), Option.some.inj hr, rfl, rfl⟩))))
  ·have hr := ite_f j5 hr; exact gt 12 (rfl : _ = Value.bool (decide ((a0.length : Int) < 1))) j5 (mv (rfl : _ = w0) (gt 12 (rfl : _ = Value.bool (decide ((a0.length : Int) < 1))) j5 (L_len Try.underlying29 (rfl : _ = w0) h0 (by decide) (gt 12 (rfl : _ = Value.bool (decide ((a0.length : Int) < 1))) j5 (L_gtr (rfl : _ = Value.int .i64 ((a0.length : Int))) (rfl : _ = Value.int .i64 (64)) (by decide) (pf (rfl : _ = Value.bool (decide ((a0.length : Int) < 1))) j5 (rfl : _ = Value.bool (decide (64 < (a0.length : Int)))) (nn ⟨s0, (decide (64 < (a0.length : Int))), rfl, j0, (Le.refl _), Option.some.inj hr, rfl, rfl⟩)))))))
 ·rintro j5 j6 ⟨j7, j4, rfl, j8, j9, j2, ja, jb⟩
  subst j2
  have hr := j3
  try dsimp only at hr
  refine W_cond _ ja (fun jc => ?_) (fun jc => ?_)
  ·have hr := ite_t jc hr; refine sr (asg (rfl : _ = Value.int .i64 (3)) (nn (W_ret (then_r ?_)))); obtain rfl := Option.some.inj hr; exact done1 (Or.inl rfl) Try.results27 rfl ⟨_, _, rfl, rfl, j8, Vint⟩
  ·have hr := ite_f jc hr
   refine W_skip (then_n (W_seq (sr (mv jb (L_len Try.underlying29 (rfl : _ = w0) (h0.mono j9) (by decide) (mv (rfl : _ = Value.int .i64 (0)) (nn ?_)))))))
   obtain ⟨jd, je, jf⟩ := bind_some hr
   refine W_cut (fun f w => ∃ (s : St), s.w = w ∧ Ext s0 s ∧ Le j7 s ∧ Sum.inl () = jd ∧ f 0 = w0) ?_ ?_
   ·refine W_block (W_loop (fun m f w => ∃ (s : St) (jg : Int), s.w = w ∧ Ext s0 s ∧ Le j7 s ∧ dead_Check_l1 N a0 m jg = some jd ∧ f 19 = Value.int .i64 jg ∧ f 0 = w0 ∧ f 17 = w0 ∧ f 18 = Value.int .i64 ((a0.length : Int))) N ⟨j7, 0, rfl, j8, (Le.refl _), je, rfl, jb, rfl, rfl⟩ ?_)
    rintro jh ji jj ⟨jk, jg, rfl, jl, jm, hr, jn, jo, jp, jq⟩
    cases jh with
    | zero => exact absurd hr (by simp [dead_Check_l1])
    | succ jh =>
     rw [dead_Check_l1.eq_2] at hr
     refine sr (L_lss jn jq (by decide) (nn (W_seq ?_)))
     refine W_cond _ (rfl : _ = Value.bool (decide (jg < (a0.length : Int)))) (fun jr => ?_) (fun jr => ?_)
     ·have hr := ite_t jr hr
      refine W_skip (then_n (W_seq (W_block (sr ?_))))
      obtain ⟨js, jt, hr⟩ := bind_some hr
      refine L_index Try.underlying29 ty59.inf jp (h0.mono (j9.trans jm)) jn jt (by decide) (fun ju jv => L_load ty59 (rfl : _ = ju) jv (by decide) (fun jw jx => asg (rfl : _ = jw) (nn (sr (mv (rfl : _ = jw) (L_len Try.underlying59 (rfl : _ = jw) jx (by decide) (L_gtr (rfl : _ = Value.int .i64 ((js.length : Int))) (rfl : _ = Value.int .i64 (200)) (by decide) (nn ?_))))))))
      refine W_cond _ (rfl : _ = Value.bool (decide (200 < (js.length : Int)))) (fun jy => ?_) (fun jy => ?_)
      ·have hr := ite_t jy hr; refine sr (asg (rfl : _ = Value.int .i64 (9)) (nn (W_ret (block_r (then_r (then_r (block_r ?_))))))); obtain rfl := Option.some.inj hr; have hr := jf; (try dsimp only at hr); refine then_r (then_r ?_); obtain rfl := Option.some.inj hr; exact done1 (Or.inl rfl) Try.results27 rfl ⟨_, _, rfl, rfl, jl, Vint⟩
      ·have hr := ite_f jy hr; refine W_skip (block_n (then_n (W_region ?_))); obtain ⟨jz, hr⟩ := chk_some hr; exact L_add jn (rfl : _ = Value.int .i64 (1)) jz (by decide) (mv (rfl : _ = Value.int .i64 (jg + 1)) (nn ⟨jh, Nat.lt_succ_self _, ⟨jk, (jg + 1), rfl, jl, jm, hr, rfl, jo, jp, jq⟩⟩))
     ·have hr := ite_f jr hr; refine W_exit (then_x (then_x (block_here ?_))); exact then_n ⟨jk, rfl, jl, jm, Option.some.inj hr, jo⟩
   ·rintro jg jh ⟨ji, rfl, jj, jk, je, jl⟩
    subst je
    have hr := jf
    try dsimp only at hr
    refine then_n (W_seq (sr (mv jl (L_len Try.underlying29 (rfl : _ = w0) (h0.mono (j9.trans jk)) (by decide) (mv (rfl : _ = Value.int .i64 (0)) (nn ?_))))))
    obtain ⟨jm, jn, jo⟩ := bind_some hr
    refine W_cut (fun f w => ∃ (s : St), s.w = w ∧ Ext s0 s ∧ Le ji s ∧ Sum.inl () = jm) ?_ ?_
    ·refine W_block (W_loop (fun m f w => ∃ (s : St) (jp : Int), s.w = w ∧ Ext s0 s ∧ Le ji s ∧ dead_Check_l2 N a0 m jp = some jm ∧ f 29 = Value.int .i64 jp ∧ f 0 = w0 ∧ f 27 = w0 ∧ f 28 = Value.int .i64 ((a0.length : Int))) N ⟨ji, 0, rfl, jj, (Le.refl _), jn, rfl, jl, rfl, rfl⟩ ?_)
     rintro jq jr js ⟨jt, jp, rfl, ju, jv, hr, jw, jx, jy, jz⟩
     cases jq with
     | zero => exact absurd hr (by simp [dead_Check_l2])
     | succ jq =>
      rw [dead_Check_l2.eq_2] at hr
      refine sr (L_lss jw jz (by decide) (nn (W_seq ?_)))
      refine W_cond _ (rfl : _ = Value.bool (decide (jp < (a0.length : Int)))) (fun k0 => ?_) (fun k0 => ?_)
      ·have hr := ite_t k0 hr
       refine W_skip (then_n (W_seq (W_block (sr ?_))))
       obtain ⟨k1, k2, hr⟩ := bind_some hr
       refine L_index Try.underlying29 ty59.inf jy (h0.mono (j9.trans (jk.trans jv))) jw k2 (by decide) (fun k3 k4 => L_load ty59 (rfl : _ = k3) k4 (by decide) (fun k5 k6 => asg (rfl : _ = k5) (nn (sr (mv (rfl : _ = k5) (L_len Try.underlying59 (rfl : _ = k5) k6 (by decide) (mv (rfl : _ = Value.int .i64 (0)) (nn ?_))))))))
       obtain ⟨k7, k8, k9⟩ := bind_some hr
       refine W_cut (fun f w => ∃ (s : St), s.w = w ∧ Ext s0 s ∧ Le jt s ∧ Sum.inl () = k7 ∧ f 0 = w0 ∧ f 27 = w0 ∧ f 28 = Value.int .i64 ((a0.length : Int)) ∧ f 29 = Value.int .i64 (jp)) ?_ ?_
       ·refine W_block (W_loop (fun m f w => ∃ (s : St) (ka : Int), s.w = w ∧ Ext s0 s ∧ Le jt s ∧ dead_Check_l3 N a0 k1 m ka = some k7 ∧ f 35 = Value.int .i64 ka ∧ f 0 = w0 ∧ f 6 = k5 ∧ f 27 = w0 ∧ f 28 = Value.int .i64 ((a0.length : Int)) ∧ f 29 = Value.int .i64 (jp) ∧ f 33 = k5 ∧ f 34 = Value.int .i64 ((k1.length : Int))) N ⟨jt, 0, rfl, ju, (Le.refl _), k8, rfl, jx, rfl, jy, jz, jw, rfl, rfl⟩ ?_)
        rintro kb kc kd ⟨ke, ka, rfl, kf, kg, hr, kh, ki, kj, kk, kl, km, kn, ko⟩
        cases kb with
        | zero => exact absurd hr (by simp [dead_Check_l3])
        | succ kb =>
         rw [dead_Check_l3.eq_2] at hr
         refine sr (L_lss kh ko (by decide) (nn (W_seq ?_)))
         refine W_cond _ (rfl : _ = Value.bool (decide (ka < (k1.length : Int)))) (fun kp => ?_) (fun kp => ?_)
         ·have hr := ite_t kp hr
          refine W_skip (then_n (W_seq (W_block (sr (mv kh ?_)))))
          obtain ⟨kq, kr, hr⟩ := bind_some hr
          refine L_index Try.underlying59 ty64.inf kn (k6.mono kg) kh kr (by decide) (fun ks kt => L_load ty64 (rfl : _ = ks) kt (by decide) (fun ku kv => L_alloc (α := Deed) (x := ⟨0, 0, 0, 0, false⟩) zero64 Deed.zero_rel (by decide) (fun kw kx ky kz g0 => ?_)))
          have g1 := Tch.ext kf ky
          refine asg (rfl : _ = Value.int .i64 (ka)) (L_store_ro ty64 (rfl : _ = Value.pointer (some ⟨kx, 0, none⟩)) (rfl : _ = ku) (kv.mono ky.le) (g0) (fun g2 g3 g4 => ?_))
          have g5 := Tch.trans g1 g3 (fun k hk => Or.inr (by subst hk; exact (Nat.le_trans kf.size kz)))
          refine nn (W_seq ?_)
          obtain ⟨g6, g7, hr⟩ := bind_some hr
          obtain ⟨g8, g9, hr⟩ := bind_some hr
          refine W_draws mixed (by kernel_rfl) [PV.data (kq : Deed), PV.data (k1 : List Deed), PV.eq (Value.int .i64 (ka)), PV.data (g6 : List Deed), PV.data (a0 : List (List Deed)), PV.eq (Value.int .i64 ((a0.length : Int))), PV.eq (Value.bool (g8)), PV.eq (Value.bool (!g8))] (Steps_cons ?_ (Steps_cons ?_ (Steps_cons ?_ (Steps_cons ?_ (Steps_cons ?_ (Steps_cons ?_ (Steps_cons ?_ (Steps_cons ?_ Steps_nil)))))))) ?_
          ·intro ga gb gc gd gg Q gh; have gi : ga 8 = Value.pointer (some ⟨kx, 0, none⟩) := (gg 8 (by kernel_rfl)).trans rfl; exact L_load ty64 gi (g4.mono gc.le) (by decide) (fun gj gk => fin gh gk)
          ·intro ga gb gc gd gg Q gh; have gi : ga 6 = k5 := (gg 6 (by kernel_rfl)).trans kj; exact mv gi (fin gh (k6.mono (kg.trans (ky.le.trans (g3.le.trans gc.le)))))
          ·intro ga gb gc gd gg Q gh; have gi : ga 7 = Value.int .i64 (ka) := (gg 7 (by kernel_rfl)).trans rfl; exact mv gi (fin gh rfl)
          ·intro ga gb gc gd gg Q gh; have gi : V _ (ga 41) (k1 : List Deed) := gd 1 41 (by kernel_rfl) (by kernel_rfl); obtain ⟨gj, gk, gl⟩ : ∃ v, _ = v ∧ V _ v _ := ⟨_, rfl, gi⟩; have gm : ga 42 = Value.int .i64 (ka) := gd 2 42 (by kernel_rfl) (by kernel_rfl); exact L_slice_h Try.underlying59 ty64.inf gk gl gm g7 (by decide) (fun gn go => fin gh go)
          ·intro ga gb gc gd gg Q gh; have gi : ga 0 = w0 := (gg 0 (by kernel_rfl)).trans ki; exact mv gi (fin gh (h0.mono (j9.trans (jk.trans (jv.trans (kg.trans (ky.le.trans (g3.le.trans gc.le))))))))
          ·intro ga gb gc gd gg Q gh; have gi : V _ (ga 44) (a0 : List (List Deed)) := gd 4 44 (by kernel_rfl) (by kernel_rfl); obtain ⟨gj, gk, gl⟩ : ∃ v, _ = v ∧ V _ v _ := ⟨_, rfl, gi⟩; exact L_len Try.underlying29 gk gl (by decide) (fin gh rfl)
          ·intro ga gb gc gd gg Q gh; have gi : V _ (ga 40) (kq : Deed) := gd 0 40 (by kernel_rfl) (by kernel_rfl); obtain ⟨gj, gk, gl⟩ : ∃ v, _ = v ∧ V _ v _ := ⟨_, rfl, gi⟩; have gm : V _ (ga 43) (g6 : List Deed) := gd 3 43 (by kernel_rfl) (by kernel_rfl); obtain ⟨gn, go, gp⟩ : ∃ v, _ = v ∧ V _ v _ := ⟨_, rfl, gm⟩; have gq : ga 45 = Value.int .i64 ((a0.length : Int)) := gd 5 45 (by kernel_rfl) (by kernel_rfl); refine L_calls cal58 (args3 gk go gq) (dead_formed_ok N _ _ _ gl _ _ gp (a0.length : Int) g8 g9) (by decide) (fun gr gs gu gv => ?_); have gw := Tch.ext (Ext.refl gb) gu; obtain rfl := gv.bool; exact L_nil (gh _ _ gw rfl)
          ·intro ga gb gc gd gg Q gh; have gi : ga 46 = Value.bool (g8) := gd 6 46 (by kernel_rfl) (by kernel_rfl); exact L_not gi (by decide) (fin gh rfl)
          ·intro ga gb gc gd gg
           have gh := Tch.ext g5 gc
           have gi : ga 0 = w0 := (gg 0 (by kernel_rfl)).trans ki
           have gj : ga 6 = k5 := (gg 6 (by kernel_rfl)).trans kj
           have gk : ga 27 = w0 := (gg 27 (by kernel_rfl)).trans kk
           have gl : ga 28 = Value.int .i64 ((a0.length : Int)) := (gg 28 (by kernel_rfl)).trans kl
           have gm : ga 29 = Value.int .i64 (jp) := (gg 29 (by kernel_rfl)).trans km
           have gn : ga 33 = k5 := (gg 33 (by kernel_rfl)).trans kn
           have go : ga 34 = Value.int .i64 ((k1.length : Int)) := (gg 34 (by kernel_rfl)).trans ko
           have gp : ga 35 = Value.int .i64 (ka) := (gg 35 (by kernel_rfl)).trans kh
           have gq : ga 47 = Value.bool (!g8) := gd 7 47 (by kernel_rfl)
           refine then_n ?_
           refine W_cond _ gq (fun gr => ?_) (fun gr => ?_)
           ·have hr := ite_t gr hr; refine sr (asg (rfl : _ = Value.int .i64 (2)) (nn (W_ret (block_r (then_r (then_r (block_r ?_))))))); obtain rfl := Option.some.inj hr; have hr := k9; (try dsimp only at hr); refine then_r (block_r (then_r (then_r (block_r ?_)))); obtain rfl := Option.some.inj hr; have hr := jo; (try dsimp only at hr); refine then_r (then_r ?_); obtain rfl := Option.some.inj hr; exact done1 (Or.inl rfl) Try.results27 rfl ⟨_, _, rfl, rfl, gh, Vint⟩
           ·have hr := ite_f gr hr; refine W_skip (block_n (then_n (W_region ?_))); obtain ⟨gs, hr⟩ := chk_some hr; exact L_add gp (rfl : _ = Value.int .i64 (1)) gs (by decide) (mv (rfl : _ = Value.int .i64 (ka + 1)) (nn ⟨kb, Nat.lt_succ_self _, ⟨gb, (ka + 1), rfl, gh, (kg.trans (ky.le.trans (g3.le.trans gc.le))), hr, rfl, gi, gj, gk, gl, gm, gn, go⟩⟩))
         ·have hr := ite_f kp hr; refine W_exit (then_x (then_x (block_here ?_))); exact then_n ⟨ke, rfl, kf, kg, Option.some.inj hr, ki, kk, kl, km⟩
       ·rintro ka kb ⟨kc, rfl, kd, ke, k8, kf, kg, kh, ki⟩; subst k8; have hr := k9; (try dsimp only at hr); refine block_n (then_n (W_region ?_)); obtain ⟨kj, hr⟩ := chk_some hr; exact L_add ki (rfl : _ = Value.int .i64 (1)) kj (by decide) (mv (rfl : _ = Value.int .i64 (jp + 1)) (nn ⟨jq, Nat.lt_succ_self _, ⟨kc, (jp + 1), rfl, kd, (jv.trans ke), hr, rfl, kf, kg, kh⟩⟩))
      ·have hr := ite_f k0 hr; refine W_exit (then_x (then_x (block_here ?_))); exact then_n ⟨jt, rfl, ju, jv, Option.some.inj hr⟩
    ·rintro jp jq ⟨jr, rfl, js, jt, jn⟩; subst jn; have hr := jo; (try dsimp only at hr); refine then_n (sr (asg (rfl : _ = Value.int .i64 (0)) (nn (W_ret ?_)))); obtain rfl := Option.some.inj hr; exact done1 (Or.inl rfl) Try.results27 rfl ⟨_, _, rfl, rfl, js, Vint⟩

theorem dead_receives_ok (N : Nat) (s0 : St) (w0 : Value) (a0 : Deed) (h0 : V s0 w0 a0) (r : Bool) (hr : dead_receives N a0 = some r) :
    Calls Try.prog 70 #[w0] s0.w (Ret s0 fun v s => V s v r) := by
 unfold dead_receives at hr
 have j0 := Ext.refl s0
 refine Calls_of (n := 11) (args := [w0]) Try.func70 rfl rfl (by simp) (sr (L_box (rfl : _ = w0) h0 (by decide) (fun j1 j2 j3 j4 => ?_)))
 have j5 := Tch.ext j0 j3
 refine asg (rfl : _ = Value.bool (false)) (nn (sr (L_fieldAddr fld64_0 Deed.of_Kind (rfl : _ = j2) j4 (by decide) (fun j6 j7 => li ty3 (rfl : _ = j6) j7 (L_eql (rfl : _ = Value.int .i64 (a0.Kind)) (rfl : _ = Value.int .i64 (2)) (by decide) (mv (rfl : _ = Value.bool (decide (a0.Kind = 2))) ?_))))))
 rcases Bool.eq_false_or_eq_true (decide (a0.Kind = 2)) with j8 | j8
 ·have hr := ite_t j8 hr; refine gf 6 (rfl : _ = Value.bool (decide (a0.Kind = 2))) j8 (gf 6 (rfl : _ = Value.bool (decide (a0.Kind = 2))) j8 (gf 6 (rfl : _ = Value.bool (decide (a0.Kind = 2))) j8 (pt (rfl : _ = Value.bool (decide (a0.Kind = 2))) j8 (rfl : _ = Value.bool (true)) (asg (rfl : _ = Value.bool (true)) (nn (W_ret ?_)))))); obtain rfl := Option.some.inj hr; exact done1 (Or.inl rfl) Try.results70 rfl ⟨_, _, rfl, rfl, j5, Vbool⟩
 ·have hr := ite_f j8 hr; refine gt 6 (rfl : _ = Value.bool (decide (a0.Kind = 2))) j8 (L_fieldAddr fld64_0 Deed.of_Kind (rfl : _ = j2) j4 (by decide) (fun j9 ja => gt 6 (rfl : _ = Value.bool (decide (a0.Kind = 2))) j8 (li ty3 (rfl : _ = j9) ja (gt 6 (rfl : _ = Value.bool (decide (a0.Kind = 2))) j8 (L_eql (rfl : _ = Value.int .i64 (a0.Kind)) (rfl : _ = Value.int .i64 (4)) (by decide) (pf (rfl : _ = Value.bool (decide (a0.Kind = 2))) j8 (rfl : _ = Value.bool (decide (a0.Kind = 4))) (asg (rfl : _ = Value.bool (decide (a0.Kind = 4))) (nn (W_ret ?_))))))))); obtain rfl := Option.some.inj hr; exact done1 (Or.inl rfl) Try.results70 rfl ⟨_, _, rfl, rfl, j5, Vbool⟩

theorem dead_open_ok (N : Nat) (s0 : St) (w0 : Value) (a0 : Deed) (h0 : V s0 w0 a0) (r : Bool) (hr : dead_open N a0 = some r) :
    Calls Try.prog 37 #[w0] s0.w (Ret s0 fun v s => V s v r) := by
 unfold dead_open at hr
 have j0 := Ext.refl s0
 refine Calls_of (n := 10) (args := [w0]) Try.func37 rfl rfl (by simp) (sr (L_box (rfl : _ = w0) h0 (by decide) (fun j1 j2 j3 j4 => ?_)))
 have j5 := Tch.ext j0 j3
 refine asg (rfl : _ = Value.bool (false)) (nn (sr (L_load ty64 (rfl : _ = j2) j4 (by decide) (fun j6 j7 => ?_))))
 obtain ⟨j8, j9, hr⟩ := bind_some hr
 refine L_calls cal70 (args1 (rfl : _ = j6)) (dead_receives_ok N _ _ _ j7 j8 j9) (by decide) (fun ja jb jc jd => ?_)
 have je := Tch.ext j5 jc
 obtain rfl := jd.bool
 refine mv (rfl : _ = Value.bool (j8)) ?_
 rcases Bool.eq_false_or_eq_true (j8) with jf | jf
 ·have hr := ite_t jf hr; refine gt 5 (rfl : _ = Value.bool (j8)) jf (L_fieldAddr fld64_1 Deed.of_Peer (rfl : _ = j2) (j4.mono jc.le) (by decide) (fun jg jh => gt 5 (rfl : _ = Value.bool (j8)) jf (li ty3 (rfl : _ = jg) jh (gt 5 (rfl : _ = Value.bool (j8)) jf (L_eql (rfl : _ = Value.int .i64 (a0.Peer)) (rfl : _ = Value.int .i64 (-1)) (by decide) (pt (rfl : _ = Value.bool (j8)) jf (rfl : _ = Value.bool (decide (a0.Peer = (-1)))) (asg (rfl : _ = Value.bool (decide (a0.Peer = (-1)))) (nn (W_ret ?_))))))))); obtain rfl := Option.some.inj hr; exact done1 (Or.inl rfl) Try.results37 rfl ⟨_, _, rfl, rfl, je, Vbool⟩
 ·have hr := ite_f jf hr; refine gf 5 (rfl : _ = Value.bool (j8)) jf (gf 5 (rfl : _ = Value.bool (j8)) jf (gf 5 (rfl : _ = Value.bool (j8)) jf (pf (rfl : _ = Value.bool (j8)) jf (rfl : _ = Value.bool (false)) (asg (rfl : _ = Value.bool (false)) (nn (W_ret ?_)))))); obtain rfl := Option.some.inj hr; exact done1 (Or.inl rfl) Try.results37 rfl ⟨_, _, rfl, rfl, je, Vbool⟩

theorem slices_IndexFunc_Llang_Deed_lang_Deed_ok (N : Nat) (s0 : St) (w0 : Value) (a0 : List Deed) (h0 : V s0 w0 a0) (w1 : Value) (a1 : Deed → Option Bool) (h1 : Fn1 Try.prog s0 w1 a1) (r : Int) (hr : slices_IndexFunc_Llang_Deed_lang_Deed N a0 a1 = some r) :
    Calls Try.prog 71 #[w0, w1] s0.w (Ret s0 fun v s => V s v r) := by
 unfold slices_IndexFunc_Llang_Deed_lang_Deed at hr
 have j0 := Ext.refl s0
 refine Calls_of (n := 19) (args := [w0, w1]) Try.func71 rfl rfl (by simp) (sr (asg (rfl : _ = Value.int .i64 (0)) (nn (W_seq (sr (mv (rfl : _ = w0) (L_len Try.underlying59 (rfl : _ = w0) h0 (by decide) (mv (rfl : _ = Value.int .i64 (0)) (nn ?_)))))))))
 obtain ⟨j1, j2, j3⟩ := bind_some hr
 refine W_cut (fun f w => ∃ (s : St), s.w = w ∧ Ext s0 s ∧ Le s0 s ∧ Sum.inl () = j1) ?_ ?_
 ·refine W_block (W_loop (fun m f w => ∃ (s : St) (j4 : Int), s.w = w ∧ Ext s0 s ∧ Le s0 s ∧ slices_IndexFunc_Llang_Deed_lang_Deed_l1 N a0 a1 m j4 = some j1 ∧ f 8 = Value.int .i64 j4 ∧ f 0 = w0 ∧ f 1 = w1 ∧ f 7 = Value.int .i64 ((a0.length : Int))) N ⟨s0, 0, rfl, j0, (Le.refl _), j2, rfl, rfl, rfl, rfl⟩ ?_)
  rintro j5 j6 j7 ⟨j8, j4, rfl, j9, ja, hr, jb, jc, jd, je⟩
  cases j5 with
  | zero => exact absurd hr (by simp [slices_IndexFunc_Llang_Deed_lang_Deed_l1])
  | succ j5 =>
   rw [slices_IndexFunc_Llang_Deed_lang_Deed_l1.eq_2] at hr
   refine sr (L_lss jb je (by decide) (nn (W_seq ?_)))
   refine W_cond _ (rfl : _ = Value.bool (decide (j4 < (a0.length : Int)))) (fun jf => ?_) (fun jf => ?_)
   ·have hr := ite_t jf hr
    refine W_skip (then_n (W_seq (W_block (sr (mv jb (asg (rfl : _ = Value.int .i64 (j4)) (nn (sr (mv jd (mv jc (mv (rfl : _ = Value.int .i64 (j4)) ?_)))))))))))
    obtain ⟨jg, jh, hr⟩ := bind_some hr
    refine L_index Try.underlying59 ty64.inf (rfl : _ = w0) (h0.mono ja) (rfl : _ = Value.int .i64 (j4)) jh (by decide) (fun ji jj => L_load ty64 (rfl : _ = ji) jj (by decide) (fun jk jl => ?_))
    obtain ⟨jm, jn, hr⟩ := bind_some hr
    refine L_call1 (rfl : _ = w1) (h1.mono ja) (rfl : _ = jk) jl jn (by decide) (fun jo jp jq jr => ?_)
    have js := Tch.ext j9 jq
    obtain rfl := jr.bool
    refine nn ?_
    refine W_cond _ (rfl : _ = Value.bool (jm)) (fun jt => ?_) (fun jt => ?_)
    ·have hr := ite_t jt hr; refine sr (mv (rfl : _ = Value.int .i64 (j4)) (asg (rfl : _ = Value.int .i64 (j4)) (nn (W_ret (block_r (then_r (then_r (block_r ?_)))))))); obtain rfl := Option.some.inj hr; have hr := j3; (try dsimp only at hr); refine then_r (then_r ?_); obtain rfl := Option.some.inj hr; exact done1 (Or.inl rfl) Try.results71 rfl ⟨_, _, rfl, rfl, js, Vint⟩
    ·have hr := ite_f jt hr; refine W_skip (block_n (then_n (W_region ?_))); obtain ⟨ju, hr⟩ := chk_some hr; exact L_add jb (rfl : _ = Value.int .i64 (1)) ju (by decide) (mv (rfl : _ = Value.int .i64 (j4 + 1)) (nn ⟨j5, Nat.lt_succ_self _, ⟨jp, (j4 + 1), rfl, js, (ja.trans jq.le), hr, rfl, jc, jd, je⟩⟩))
   ·have hr := ite_f jf hr; refine W_exit (then_x (then_x (block_here ?_))); exact then_n ⟨j8, rfl, j9, ja, Option.some.inj hr⟩
 ·rintro j4 j5 ⟨j6, rfl, j7, j8, j2⟩; subst j2; have hr := j3; (try dsimp only at hr); refine then_n (sr (asg (rfl : _ = Value.int .i64 (-1)) (nn (W_ret ?_)))); obtain rfl := Option.some.inj hr; exact done1 (Or.inl rfl) Try.results71 rfl ⟨_, _, rfl, rfl, j7, Vint⟩

theorem slices_ContainsFunc_Llang_Deed_lang_Deed_ok (N : Nat) (s0 : St) (w0 : Value) (a0 : List Deed) (h0 : V s0 w0 a0) (w1 : Value) (a1 : Deed → Option Bool) (h1 : Fn1 Try.prog s0 w1 a1) (r : Bool) (hr : slices_ContainsFunc_Llang_Deed_lang_Deed N a0 a1 = some r) :
    Calls Try.prog 38 #[w0, w1] s0.w (Ret s0 fun v s => V s v r) := by
 unfold slices_ContainsFunc_Llang_Deed_lang_Deed at hr
 have j0 := Ext.refl s0
 refine Calls_of (n := 9) (args := [w0, w1]) Try.func38 rfl rfl (by simp) (sr (asg (rfl : _ = Value.bool (false)) (nn (sr (mv (rfl : _ = w0) (mv (rfl : _ = w1) ?_))))))
 obtain ⟨j1, j2, hr⟩ := bind_some hr
 refine L_calls cal71 (args2 (rfl : _ = w0) (rfl : _ = w1)) (slices_IndexFunc_Llang_Deed_lang_Deed_ok N _ _ _ h0 _ a1 h1 j1 j2) (by decide) (fun j3 j4 j5 j6 => ?_)
 have j7 := Tch.ext j0 j5
 obtain rfl := j6.int
 refine L_geq (rfl : _ = Value.int .i64 (j1)) (rfl : _ = Value.int .i64 (0)) (by decide) (asg (rfl : _ = Value.bool (decide (0 ≤ j1))) (nn (W_ret ?_)))
 obtain rfl := Option.some.inj hr
 exact done1 (Or.inl rfl) Try.results38 rfl ⟨_, _, rfl, rfl, j7, Vbool⟩

theorem dead_newRun_ok (N : Nat) (s0 : St) (w0 : Value) (a0 : List (List Deed)) (h0 : V s0 w0 a0) (a1 : Int) (r : (Option Run) × Int) (hr : dead_newRun N a0 a1 = some r) :
    Calls Try.prog 31 #[w0, .int .i64 a1] s0.w (Ret s0 fun v s => ∃ a b, v = .tuple #[a, b] ∧ ObjO Run.with_at_ 2 Run.at_ 3 s0.w.heap.size s a r.1 ∧ V s b r.2) := by
 unfold dead_newRun at hr
 have j0 := Ext.refl s0
 refine Calls_of (n := 32) (args := [w0, .int .i64 a1]) Try.func31 rfl rfl (by simp) (sr (asg (rfl : _ = Value.pointer none) (asg (rfl : _ = Value.int .i64 (0)) (nn (W_seq (sr (mv (rfl : _ = w0) ?_)))))))
 obtain ⟨j1, j2, hr⟩ := bind_some hr
 refine L_calls cal27 (args1 (rfl : _ = w0)) (dead_Check_ok N _ _ _ h0 j1 j2) (by decide) (fun j3 j4 j5 j6 => ?_)
 have j7 := Tch.ext j0 j5
 obtain rfl := j6.int
 refine asg (rfl : _ = Value.int .i64 (j1)) (nn (sr (mv (rfl : _ = Value.int .i64 (j1)) (L_neq (rfl : _ = Value.int .i64 (j1)) (rfl : _ = Value.int .i64 (0)) (by decide) (nn ?_)))))
 refine W_cond _ (rfl : _ = Value.bool (!decide (j1 = 0))) (fun j8 => ?_) (fun j8 => ?_)
 ·have hr := ite_t j8 hr; refine sr (mv (rfl : _ = Value.int .i64 (j1)) (asg (rfl : _ = Value.pointer none) (asg (rfl : _ = Value.int .i64 (j1)) (nn (W_ret (then_r ?_)))))); obtain rfl := Option.some.inj hr; exact done2 (Or.inl rfl) Try.results31 rfl rfl ⟨_, _, rfl, rfl, j7, _, _, rfl, Or.inl ⟨rfl, rfl⟩, Vint⟩
 ·have hr := ite_f j8 hr
  refine W_skip (then_n (W_seq (sr (mv (rfl : _ = w0) (L_len Try.underlying29 (rfl : _ = w0) (h0.mono j5.le) (by decide) (mv (rfl : _ = Value.int .i64 (0)) (nn ?_)))))))
  obtain ⟨j9, ja, jb⟩ := bind_some hr
  refine W_cut (fun f w => ∃ (s : St), s.w = w ∧ Ext s0 s ∧ Le j4 s ∧ Sum.inl () = j9 ∧ f 0 = w0 ∧ f 1 = Value.int .i64 (a1)) ?_ ?_
  ·refine W_block (W_loop (fun m f w => ∃ (s : St) (jc : Int), s.w = w ∧ Ext s0 s ∧ Le j4 s ∧ dead_newRun_l1 N a0 m jc = some j9 ∧ f 16 = Value.int .i64 jc ∧ f 0 = w0 ∧ f 1 = Value.int .i64 (a1) ∧ f 14 = w0 ∧ f 15 = Value.int .i64 ((a0.length : Int))) N ⟨j4, 0, rfl, j7, (Le.refl _), ja, rfl, rfl, rfl, rfl, rfl⟩ ?_)
   rintro jd je jf ⟨jg, jc, rfl, jh, ji, hr, jj, jk, jl, jm, jn⟩
   cases jd with
   | zero => exact absurd hr (by simp [dead_newRun_l1])
   | succ jd =>
    rw [dead_newRun_l1.eq_2] at hr
    refine sr (L_lss jj jn (by decide) (nn (W_seq ?_)))
    refine W_cond _ (rfl : _ = Value.bool (decide (jc < (a0.length : Int)))) (fun jo => ?_) (fun jo => ?_)
    ·have hr := ite_t jo hr
     refine W_skip (then_n (W_seq (W_block (sr ?_))))
     obtain ⟨jp, jq, hr⟩ := bind_some hr
     refine L_index Try.underlying29 ty59.inf jm (h0.mono (j5.le.trans ji)) jj jq (by decide) (fun jr js => L_load ty59 (rfl : _ = jr) js (by decide) (fun jt ju => asg (rfl : _ = jt) (nn (sr (mv (rfl : _ = jt) ?_)))))
     obtain ⟨jv, jw, hr⟩ := bind_some hr
     refine L_calls cal38 (args2 (rfl : _ = jt) (rfl : _ = Value.func (.func 37) #[] #[])) (slices_ContainsFunc_Llang_Deed_lang_Deed_ok N _ _ _ ju _ (fun x => dead_open N x ) (Fn1.mk0 cal37 fun t vx x r hl hv hr => dead_open_ok N t vx x hv  r hr) jv jw) (by decide) (fun jx jy jz k0 => ?_)
     have k1 := Tch.ext jh jz
     obtain rfl := k0.bool
     refine nn ?_
     refine W_cond _ (rfl : _ = Value.bool (jv)) (fun k2 => ?_) (fun k2 => ?_)
     ·have hr := ite_t k2 hr; refine sr (asg (rfl : _ = Value.pointer none) (asg (rfl : _ = Value.int .i64 (6)) (nn (W_ret (block_r (then_r (then_r (block_r ?_)))))))); obtain rfl := Option.some.inj hr; have hr := jb; (try dsimp only at hr); refine then_r (then_r ?_); obtain rfl := Option.some.inj hr; exact done2 (Or.inl rfl) Try.results31 rfl rfl ⟨_, _, rfl, rfl, k1, _, _, rfl, Or.inl ⟨rfl, rfl⟩, Vint⟩
     ·have hr := ite_f k2 hr; refine W_skip (block_n (then_n (W_region ?_))); obtain ⟨k3, hr⟩ := chk_some hr; exact L_add jj (rfl : _ = Value.int .i64 (1)) k3 (by decide) (mv (rfl : _ = Value.int .i64 (jc + 1)) (nn ⟨jd, Nat.lt_succ_self _, ⟨jy, (jc + 1), rfl, k1, (ji.trans jz.le), hr, rfl, jk, jl, jm, jn⟩⟩))
    ·have hr := ite_f jo hr; refine W_exit (then_x (then_x (block_here ?_))); exact then_n ⟨jg, rfl, jh, ji, Option.some.inj hr, jk, jl⟩
  ·rintro jc jd ⟨je, rfl, jf, jg, ja, jh, ji⟩
   subst ja
   have hr := jb
   try dsimp only at hr
   refine then_n (W_seq (sr (mv ji (L_lss (rfl : _ = Value.int .i64 (a1)) (rfl : _ = Value.int .i64 (0)) (by decide) (nn ?_)))))
   refine W_cond _ (rfl : _ = Value.bool (decide (a1 < 0))) (fun jj => ?_) (fun jj => ?_)
   ·have hr := ite_t jj hr; refine sr (asg (rfl : _ = Value.pointer none) (asg (rfl : _ = Value.int .i64 (3)) (nn (W_ret (then_r ?_))))); obtain rfl := Option.some.inj hr; exact done2 (Or.inl rfl) Try.results31 rfl rfl ⟨_, _, rfl, rfl, jf, _, _, rfl, Or.inl ⟨rfl, rfl⟩, Vint⟩
   ·have hr := ite_f jj hr; refine W_skip (then_n (sr (mv jh (mv ji (mv jh (L_len Try.underlying29 (rfl : _ = w0) (h0.mono (j5.le.trans jg)) (by decide) ?_)))))); obtain ⟨jk, hr⟩ := chk_some hr; refine L_makeArr (x0 := (0 : Int)) Try.underlying23 tyz3 (rfl : _ = Value.int .i64 ((a0.length : Int))) jk.1 jk.2.1 jk.2.2 (fun _ => rfl) (by decide) (fun jl jm jn jo jp => ?_); have jq := Tch.ext jf jn; refine L_raw72 (rfl : _ = w0) (rfl : _ = Value.int .i64 (a1)) (rfl : _ = Value.slice (some ⟨jm, 0, none⟩) ((a0.length : Int)).toNat ((a0.length : Int)).toNat) ((h0.mono (j5.le.trans (jg.trans jn.le))) : V jl _ (a0 : List (List Deed))) (Vint : V jl _ (a1 : Int)) (by decide) (L_box_raw (cs := [w0, Value.int .i64 (a1), Value.slice (some ⟨jm, 0, none⟩) ((a0.length : Int)).toNat ((a0.length : Int)).toNat]) (rfl : _ = Value.agg #[w0, Value.int .i64 (a1), Value.slice (some ⟨jm, 0, none⟩) ((a0.length : Int)).toNat ((a0.length : Int)).toNat]) (by decide) (fun jr js jt ju => ?_)); have jv := Tch.ext jq jt; have jw := Run.shell (x := (⟨a0, a1, (List.replicate ((a0.length : Int)).toNat (0 : Int))⟩ : Run)) ju (((h0.mono (j5.le.trans (jg.trans jn.le))) : V jl _ (a0 : List (List Deed))).mono jt.le) ((Vint : V jl _ (a1 : Int)).mono jt.le); refine asg (rfl : _ = (Value.pointer (some ⟨js, 0, none⟩))) (asg (rfl : _ = Value.int .i64 (0)) (nn (W_ret ?_))); obtain rfl := Option.some.inj hr; exact done2 (Or.inl rfl) Try.results31 rfl rfl ⟨_, _, rfl, rfl, jv, _, _, rfl, Or.inr ⟨_, _, rfl, (Nat.le_trans jf.size jo), jw.at (fun _ => rfl) ((jp).ext jt), ((jp).ext jt).self⟩, Vint⟩

theorem dead_sends_ok (N : Nat) (s0 : St) (w0 : Value) (a0 : Deed) (h0 : V s0 w0 a0) (r : Bool) (hr : dead_sends N a0 = some r) :
    Calls Try.prog 40 #[w0] s0.w (Ret s0 fun v s => V s v r) := by
 unfold dead_sends at hr
 have j0 := Ext.refl s0
 refine Calls_of (n := 11) (args := [w0]) Try.func40 rfl rfl (by simp) (sr (L_box (rfl : _ = w0) h0 (by decide) (fun j1 j2 j3 j4 => ?_)))
 have j5 := Tch.ext j0 j3
 refine asg (rfl : _ = Value.bool (false)) (nn (sr (L_fieldAddr fld64_0 Deed.of_Kind (rfl : _ = j2) j4 (by decide) (fun j6 j7 => li ty3 (rfl : _ = j6) j7 (L_eql (rfl : _ = Value.int .i64 (a0.Kind)) (rfl : _ = Value.int .i64 (1)) (by decide) (mv (rfl : _ = Value.bool (decide (a0.Kind = 1))) ?_))))))
 rcases Bool.eq_false_or_eq_true (decide (a0.Kind = 1)) with j8 | j8
 ·have hr := ite_t j8 hr; refine gf 6 (rfl : _ = Value.bool (decide (a0.Kind = 1))) j8 (gf 6 (rfl : _ = Value.bool (decide (a0.Kind = 1))) j8 (gf 6 (rfl : _ = Value.bool (decide (a0.Kind = 1))) j8 (pt (rfl : _ = Value.bool (decide (a0.Kind = 1))) j8 (rfl : _ = Value.bool (true)) (asg (rfl : _ = Value.bool (true)) (nn (W_ret ?_)))))); obtain rfl := Option.some.inj hr; exact done1 (Or.inl rfl) Try.results40 rfl ⟨_, _, rfl, rfl, j5, Vbool⟩
 ·have hr := ite_f j8 hr; refine gt 6 (rfl : _ = Value.bool (decide (a0.Kind = 1))) j8 (L_fieldAddr fld64_0 Deed.of_Kind (rfl : _ = j2) j4 (by decide) (fun j9 ja => gt 6 (rfl : _ = Value.bool (decide (a0.Kind = 1))) j8 (li ty3 (rfl : _ = j9) ja (gt 6 (rfl : _ = Value.bool (decide (a0.Kind = 1))) j8 (L_eql (rfl : _ = Value.int .i64 (a0.Kind)) (rfl : _ = Value.int .i64 (3)) (by decide) (pf (rfl : _ = Value.bool (decide (a0.Kind = 1))) j8 (rfl : _ = Value.bool (decide (a0.Kind = 3))) (asg (rfl : _ = Value.bool (decide (a0.Kind = 3))) (nn (W_ret ?_))))))))); obtain rfl := Option.some.inj hr; exact done1 (Or.inl rfl) Try.results40 rfl ⟨_, _, rfl, rfl, j5, Vbool⟩

theorem dead_fits_ok (N : Nat) (s0 : St) (w0 : Value) (a0 : Deed) (h0 : V s0 w0 a0) (w1 : Value) (a1 : Deed) (h1 : V s0 w1 a1) (r : Bool) (hr : dead_fits N a0 a1 = some r) :
    Calls Try.prog 41 #[w0, w1] s0.w (Ret s0 fun v s => V s v r) := by
 unfold dead_fits at hr
 have j0 := Ext.refl s0
 refine Calls_of (n := 15) (args := [w0, w1]) Try.func41 rfl rfl (by simp) (sr (L_box (rfl : _ = w0) h0 (by decide) (fun j1 j2 j3 j4 => ?_)))
 have j5 := Tch.ext j0 j3
 refine L_box (rfl : _ = w1) (h1.mono j3.le) (by decide) (fun j6 j7 j8 j9 => ?_)
 have ja := Tch.ext j5 j8
 refine asg (rfl : _ = Value.bool (false)) (nn (sr (L_fieldAddr fld64_2 Deed.of_Tag (rfl : _ = j7) j9 (by decide) (fun jb jc => li ty3 (rfl : _ = jb) jc (L_eql (rfl : _ = Value.int .i64 (a1.Tag)) (rfl : _ = Value.int .i64 (-1)) (by decide) (mv (rfl : _ = Value.bool (decide (a1.Tag = (-1)))) ?_))))))
 rcases Bool.eq_false_or_eq_true (decide (a1.Tag = (-1))) with jd | jd
 ·have hr := ite_t jd hr; refine gf 8 (rfl : _ = Value.bool (decide (a1.Tag = (-1)))) jd (gf 8 (rfl : _ = Value.bool (decide (a1.Tag = (-1)))) jd (gf 8 (rfl : _ = Value.bool (decide (a1.Tag = (-1)))) jd (gf 8 (rfl : _ = Value.bool (decide (a1.Tag = (-1)))) jd (gf 8 (rfl : _ = Value.bool (decide (a1.Tag = (-1)))) jd (pt (rfl : _ = Value.bool (decide (a1.Tag = (-1)))) jd (rfl : _ = Value.bool (true)) (asg (rfl : _ = Value.bool (true)) (nn (W_ret ?_)))))))); obtain rfl := Option.some.inj hr; exact done1 (Or.inl rfl) Try.results41 rfl ⟨_, _, rfl, rfl, ja, Vbool⟩
 ·have hr := ite_f jd hr; refine gt 8 (rfl : _ = Value.bool (decide (a1.Tag = (-1)))) jd (L_fieldAddr fld64_2 Deed.of_Tag (rfl : _ = j7) j9 (by decide) (fun je jf => gt 8 (rfl : _ = Value.bool (decide (a1.Tag = (-1)))) jd (li ty3 (rfl : _ = je) jf (gt 8 (rfl : _ = Value.bool (decide (a1.Tag = (-1)))) jd (L_fieldAddr fld64_2 Deed.of_Tag (rfl : _ = j2) (j4.mono j8.le) (by decide) (fun jg jh => gt 8 (rfl : _ = Value.bool (decide (a1.Tag = (-1)))) jd (li ty3 (rfl : _ = jg) jh (gt 8 (rfl : _ = Value.bool (decide (a1.Tag = (-1)))) jd (L_eql (rfl : _ = Value.int .i64 (a1.Tag)) (rfl : _ = Value.int .i64 (a0.Tag)) (by decide) (pf (rfl : _ = Value.bool (decide (a1.Tag = (-1)))) jd (rfl : _ = Value.bool (decide (a1.Tag = a0.Tag))) (asg (rfl : _ = Value.bool (decide (a1.Tag = a0.Tag))) (nn (W_ret ?_))))))))))))); obtain rfl := Option.some.inj hr; exact done1 (Or.inl rfl) Try.results41 rfl ⟨_, _, rfl, rfl, ja, Vbool⟩

theorem dead_run_begun_ok (N : Nat) (s0 : St) (w0 : Value) (a0 : Run) (h0 : Ptr s0 w0 a0) (a1 : Int) (r : (List Deed)) (hr : dead_run_begun N a0 a1 = some r) :
    Calls Try.prog 86 #[w0, .int .i64 a1] s0.w (Ret s0 fun v s => V s v r) := by
 unfold dead_run_begun at hr
 have j0 := Ext.refl s0
 refine Calls_of (n := 30) (args := [w0, .int .i64 a1]) Try.func86 rfl rfl (by simp) (sr (asg (rfl : _ = Value.slice none 0 0) (nn (W_seq ?_))))
 obtain ⟨j1, j2, hr⟩ := bind_some hr
 obtain ⟨j3, j4, hr⟩ := bind_some hr
 obtain ⟨j5, j6, hr⟩ := bind_some hr
 obtain ⟨j7, hr⟩ := chk_some hr
 obtain ⟨j8, j9, hr⟩ := bind_some hr
 refine W_draws mixed (by kernel_rfl) [PV.ptr (a0 : Run), PV.ptr (a0 : Run), PV.ptr (a0.c : List (List Deed)), PV.data (a0.c : List (List Deed)), PV.eq (Value.int .i64 (a1)), PV.ptr (j1 : List Deed), PV.data (j1 : List Deed), PV.ptr (a0 : Run), PV.ptr (a0 : Run), PV.ptr (a0.c : List (List Deed)), PV.data (a0.c : List (List Deed)), PV.eq (Value.int .i64 (a1)), PV.ptr (j3 : List Deed), PV.data (j3 : List Deed), PV.eq (Value.int .i64 ((j3.length : Int))), PV.ptr (a0 : Run), PV.ptr (a0 : Run), PV.ptr (a0.at_ : List Int), PV.data (a0.at_ : List Int), PV.eq (Value.int .i64 (a1)), PV.ptr (j5 : Int), PV.eq (Value.int .i64 (j5)), PV.eq (Value.int .i64 (j5 + 1)), PV.eq (Value.int .i64 (min (j3.length : Int) (j5 + 1))), PV.data (j8 : List Deed), PV.data (j8 : List Deed)] (Steps_cons ?_ (Steps_cons ?_ (Steps_cons ?_ (Steps_cons ?_ (Steps_cons ?_ (Steps_cons ?_ (Steps_cons ?_ (Steps_cons ?_ (Steps_cons ?_ (Steps_cons ?_ (Steps_cons ?_ (Steps_cons ?_ (Steps_cons ?_ (Steps_cons ?_ (Steps_cons ?_ (Steps_cons ?_ (Steps_cons ?_ (Steps_cons ?_ (Steps_cons ?_ (Steps_cons ?_ (Steps_cons ?_ (Steps_cons ?_ (Steps_cons ?_ (Steps_cons ?_ (Steps_cons ?_ (Steps_cons ?_ Steps_nil)))))))))))))))))))))))))) ?_
 ·intro ja jb jc jd je Q jf; have jg : ja 0 = w0 := (je 0 (by kernel_rfl)).trans rfl; exact mv jg (fin jf (h0.mono jc.le))
 ·intro ja jb jc jd je Q jf; have jg : Ptr _ (ja 5) (a0 : Run) := jd 0 5 (by kernel_rfl) (by kernel_rfl); obtain ⟨jh, ji, jj⟩ : ∃ v, _ = v ∧ Ptr _ v _ := ⟨_, rfl, jg⟩; exact L_nilCheck_ptr ji jj (by decide) (fin jf jj)
 ·intro ja jb jc jd je Q jf; have jg : Ptr _ (ja 6) (a0 : Run) := jd 1 6 (by kernel_rfl) (by kernel_rfl); obtain ⟨jh, ji, jj⟩ : ∃ v, _ = v ∧ Ptr _ v _ := ⟨_, rfl, jg⟩; exact L_fieldAddr fld72_0 Run.of_c ji jj (by decide) (fun jk jl => fin jf jl)
 ·intro ja jb jc jd je Q jf; have jg : Ptr _ (ja 7) (a0.c : List (List Deed)) := jd 2 7 (by kernel_rfl) (by kernel_rfl); obtain ⟨jh, ji, jj⟩ : ∃ v, _ = v ∧ Ptr _ v _ := ⟨_, rfl, jg⟩; exact L_load ty29 ji jj (by decide) (fun jk jl => fin jf jl)
 ·intro ja jb jc jd je Q jf; have jg : ja 1 = Value.int .i64 (a1) := (je 1 (by kernel_rfl)).trans rfl; exact mv jg (fin jf rfl)
 ·intro ja jb jc jd je Q jf; have jg : V _ (ja 8) (a0.c : List (List Deed)) := jd 3 8 (by kernel_rfl) (by kernel_rfl); obtain ⟨jh, ji, jj⟩ : ∃ v, _ = v ∧ V _ v _ := ⟨_, rfl, jg⟩; have jk : ja 9 = Value.int .i64 (a1) := jd 4 9 (by kernel_rfl) (by kernel_rfl); exact L_index Try.underlying29 ty59.inf ji jj jk j2 (by decide) (fun jl jm => fin jf jm)
 ·intro ja jb jc jd je Q jf; have jg : Ptr _ (ja 10) (j1 : List Deed) := jd 5 10 (by kernel_rfl) (by kernel_rfl); obtain ⟨jh, ji, jj⟩ : ∃ v, _ = v ∧ Ptr _ v _ := ⟨_, rfl, jg⟩; exact L_load ty59 ji jj (by decide) (fun jk jl => fin jf jl)
 ·intro ja jb jc jd je Q jf; have jg : ja 0 = w0 := (je 0 (by kernel_rfl)).trans rfl; exact mv jg (fin jf (h0.mono jc.le))
 ·intro ja jb jc jd je Q jf; have jg : Ptr _ (ja 12) (a0 : Run) := jd 7 12 (by kernel_rfl) (by kernel_rfl); obtain ⟨jh, ji, jj⟩ : ∃ v, _ = v ∧ Ptr _ v _ := ⟨_, rfl, jg⟩; exact L_nilCheck_ptr ji jj (by decide) (fin jf jj)
 ·intro ja jb jc jd je Q jf; have jg : Ptr _ (ja 13) (a0 : Run) := jd 8 13 (by kernel_rfl) (by kernel_rfl); obtain ⟨jh, ji, jj⟩ : ∃ v, _ = v ∧ Ptr _ v _ := ⟨_, rfl, jg⟩; exact L_fieldAddr fld72_0 Run.of_c ji jj (by decide) (fun jk jl => fin jf jl)
 ·intro ja jb jc jd je Q jf; have jg : Ptr _ (ja 14) (a0.c : List (List Deed)) := jd 9 14 (by kernel_rfl) (by kernel_rfl); obtain ⟨jh, ji, jj⟩ : ∃ v, _ = v ∧ Ptr _ v _ := ⟨_, rfl, jg⟩; exact L_load ty29 ji jj (by decide) (fun jk jl => fin jf jl)
 ·intro ja jb jc jd je Q jf; have jg : ja 1 = Value.int .i64 (a1) := (je 1 (by kernel_rfl)).trans rfl; exact mv jg (fin jf rfl)
 ·intro ja jb jc jd je Q jf; have jg : V _ (ja 15) (a0.c : List (List Deed)) := jd 10 15 (by kernel_rfl) (by kernel_rfl); obtain ⟨jh, ji, jj⟩ : ∃ v, _ = v ∧ V _ v _ := ⟨_, rfl, jg⟩; have jk : ja 16 = Value.int .i64 (a1) := jd 11 16 (by kernel_rfl) (by kernel_rfl); exact L_index Try.underlying29 ty59.inf ji jj jk j4 (by decide) (fun jl jm => fin jf jm)
 ·intro ja jb jc jd je Q jf; have jg : Ptr _ (ja 17) (j3 : List Deed) := jd 12 17 (by kernel_rfl) (by kernel_rfl); obtain ⟨jh, ji, jj⟩ : ∃ v, _ = v ∧ Ptr _ v _ := ⟨_, rfl, jg⟩; exact L_load ty59 ji jj (by decide) (fun jk jl => fin jf jl)
 ·intro ja jb jc jd je Q jf; have jg : V _ (ja 18) (j3 : List Deed) := jd 13 18 (by kernel_rfl) (by kernel_rfl); obtain ⟨jh, ji, jj⟩ : ∃ v, _ = v ∧ V _ v _ := ⟨_, rfl, jg⟩; exact L_len Try.underlying59 ji jj (by decide) (fin jf rfl)
 ·intro ja jb jc jd je Q jf; have jg : ja 0 = w0 := (je 0 (by kernel_rfl)).trans rfl; exact mv jg (fin jf (h0.mono jc.le))
 ·intro ja jb jc jd je Q jf; have jg : Ptr _ (ja 20) (a0 : Run) := jd 15 20 (by kernel_rfl) (by kernel_rfl); obtain ⟨jh, ji, jj⟩ : ∃ v, _ = v ∧ Ptr _ v _ := ⟨_, rfl, jg⟩; exact L_nilCheck_ptr ji jj (by decide) (fin jf jj)
 ·intro ja jb jc jd je Q jf; have jg : Ptr _ (ja 21) (a0 : Run) := jd 16 21 (by kernel_rfl) (by kernel_rfl); obtain ⟨jh, ji, jj⟩ : ∃ v, _ = v ∧ Ptr _ v _ := ⟨_, rfl, jg⟩; exact L_fieldAddr fld72_2 Run.of_at_ ji jj (by decide) (fun jk jl => fin jf jl)
 ·intro ja jb jc jd je Q jf; have jg : Ptr _ (ja 22) (a0.at_ : List Int) := jd 17 22 (by kernel_rfl) (by kernel_rfl); obtain ⟨jh, ji, jj⟩ : ∃ v, _ = v ∧ Ptr _ v _ := ⟨_, rfl, jg⟩; exact L_load ty23 ji jj (by decide) (fun jk jl => fin jf jl)
 ·intro ja jb jc jd je Q jf; have jg : ja 1 = Value.int .i64 (a1) := (je 1 (by kernel_rfl)).trans rfl; exact mv jg (fin jf rfl)
 ·intro ja jb jc jd je Q jf; have jg : V _ (ja 23) (a0.at_ : List Int) := jd 18 23 (by kernel_rfl) (by kernel_rfl); obtain ⟨jh, ji, jj⟩ : ∃ v, _ = v ∧ V _ v _ := ⟨_, rfl, jg⟩; have jk : ja 24 = Value.int .i64 (a1) := jd 19 24 (by kernel_rfl) (by kernel_rfl); exact L_index Try.underlying23 ty3.inf ji jj jk j6 (by decide) (fun jl jm => fin jf jm)
 ·intro ja jb jc jd je Q jf; have jg : Ptr _ (ja 25) (j5 : Int) := jd 20 25 (by kernel_rfl) (by kernel_rfl); obtain ⟨jh, ji, jj⟩ : ∃ v, _ = v ∧ Ptr _ v _ := ⟨_, rfl, jg⟩; exact li ty3 ji jj (fin jf rfl)
 ·intro ja jb jc jd je Q jf; have jg : ja 26 = Value.int .i64 (j5) := jd 21 26 (by kernel_rfl) (by kernel_rfl); exact L_add jg (rfl : _ = Value.int .i64 (1)) j7 (by decide) (fin jf rfl)
 ·intro ja jb jc jd je Q jf; have jg : ja 19 = Value.int .i64 ((j3.length : Int)) := jd 14 19 (by kernel_rfl) (by kernel_rfl); have jh : ja 27 = Value.int .i64 (j5 + 1) := jd 22 27 (by kernel_rfl) (by kernel_rfl); exact L_min jg jh (by decide) (fin jf rfl)
 ·intro ja jb jc jd je Q jf; have jg : V _ (ja 11) (j1 : List Deed) := jd 6 11 (by kernel_rfl) (by kernel_rfl); obtain ⟨jh, ji, jj⟩ : ∃ v, _ = v ∧ V _ v _ := ⟨_, rfl, jg⟩; have jk : ja 28 = Value.int .i64 (min (j3.length : Int) (j5 + 1)) := jd 23 28 (by kernel_rfl) (by kernel_rfl); exact L_slice_h Try.underlying59 ty64.inf ji jj jk j9 (by decide) (fun jl jm => fin jf jm)
 ·intro ja jb jc jd je Q jf; have jg : V _ (ja 29) (j8 : List Deed) := jd 24 29 (by kernel_rfl) (by kernel_rfl); obtain ⟨jh, ji, jj⟩ : ∃ v, _ = v ∧ V _ v _ := ⟨_, rfl, jg⟩; exact asg ji (fin jf jj)
 ·intro ja jb jc jd je; have jf := Tch.ext j0 jc; have jg : V _ (ja 4) (j8 : List Deed) := jd 25 4 (by kernel_rfl); obtain ⟨jh, ji, jj⟩ : ∃ v, _ = v ∧ V _ v _ := ⟨_, rfl, jg⟩; refine then_n (W_ret ?_); obtain rfl := Option.some.inj hr; exact done1 (Or.inl rfl) Try.results86 ji ⟨_, _, rfl, rfl, jf, jj⟩

theorem dead_run_pairs_ok (N : Nat) (s0 : St) (w0 : Value) (a0 : Run) (h0 : Ptr s0 w0 a0) (a1 : Int) (a2 : Int) (r : (GMap Int)) (hr : dead_run_pairs N a0 a1 a2 = some r) :
    Calls Try.prog 81 #[w0, .int .i64 a1, .int .i64 a2] s0.w (Ret s0 fun v s => V s v r) := by
 unfold dead_run_pairs at hr
 have j0 := Ext.refl s0
 refine Calls_of (n := 77) (args := [w0, .int .i64 a1, .int .i64 a2]) Try.func81 rfl rfl (by simp) (sr (asg (rfl : _ = Value.map none) (nn (sr (L_makeMap (β := Int) (by decide) (fun j1 j2 j3 j4 j5 => ?_))))))
 have j6 := Tch.ext j0 j3
 refine asg (rfl : _ = Value.map (some j2)) (nn (sr (mv (rfl : _ = w0) (mv (rfl : _ = Value.int .i64 (a2)) ?_))))
 obtain ⟨j7, j8, hr⟩ := bind_some hr
 refine L_calls cal86 (args2 (rfl : _ = w0) (rfl : _ = Value.int .i64 (a2))) (dead_run_begun_ok N _ _ _ (h0.mono j3.le) a2 j7 j8) (by decide) (fun j9 ja jb jc => ?_)
 have jd := Tch.ext j6 jb
 refine asg (rfl : _ = j9) (nn (sr (mv (rfl : _ = j9) (L_len Try.underlying59 (rfl : _ = j9) jc (by decide) ?_))))
 obtain ⟨je, hr⟩ := chk_some hr
 refine L_makeArr (x0 := (false : Bool)) Try.underlying116 tyz4 (rfl : _ = Value.int .i64 ((j7.length : Int))) je.1 je.2.1 je.2.2 (fun _ => rfl) (by decide) (fun jf jg jh ji jj => ?_)
 have jk := Tch.ext jd jh
 have jl : ∀ k, (fun k => k = j2) k → ¬ (fun k => k = jg) k := fun k jm jn => by have jo := (fun k (hk : k = j2) => lt_at hk ((j5).ext jb).lt) k jm; have jp := ji; subst jn; omega
 refine asg (rfl : _ = Value.slice (some ⟨jg, 0, none⟩) ((j7.length : Int)).toNat ((j7.length : Int)).toNat) (nn (W_seq (sr (mv (rfl : _ = w0) (mv (rfl : _ = Value.int .i64 (a1)) ?_)))))
 obtain ⟨jq, jr, hr⟩ := bind_some hr
 refine L_calls cal86 (args2 (rfl : _ = w0) (rfl : _ = Value.int .i64 (a1))) (dead_run_begun_ok N _ _ _ (h0.mono (j3.le.trans (jb.le.trans jh.le))) a1 jq jr) (by decide) (fun js jt ju jv => ?_)
 have jw := Tch.ext jk ju
 refine L_len Try.underlying59 (rfl : _ = js) jv (by decide) (mv (rfl : _ = Value.int .i64 (0)) (nn ?_))
 obtain ⟨jx, jy, jz⟩ := bind_some hr
 refine W_cut (fun f w => ∃ (s : St) (k0 : List (Int × Int)), s.w = w ∧ Ext s0 s ∧ Le jt s ∧ k0 = jx ∧ f 7 = Value.map (some j2) ∧ MapX s j2 k0) ?_ ?_
 ·refine W_block (W_loop (fun m f w => ∃ (s : St) (k1 : Int) (k2 : List (Int × Int)) (k3 : List Bool), s.w = w ∧ Ext s0 s ∧ Le jt s ∧ dead_run_pairs_l1 N a1 a2 j7 jq m k1 k2 k3 = some jx ∧ f 25 = Value.int .i64 k1 ∧ f 1 = Value.int .i64 (a1) ∧ f 2 = Value.int .i64 (a2) ∧ f 7 = Value.map (some j2) ∧ f 8 = j9 ∧ f 9 = Value.slice (some ⟨jg, 0, none⟩) ((j7.length : Int)).toNat ((j7.length : Int)).toNat ∧ f 23 = js ∧ f 24 = Value.int .i64 ((jq.length : Int)) ∧ MapX s j2 k2 ∧ Arr s jg 4 ((j7.length : Int)).toNat k3) N ⟨jt, 0, ([] : List (Int × Int)), (List.replicate ((j7.length : Int)).toNat (false : Bool)), rfl, jw, (Le.refl _), jy, rfl, rfl, rfl, rfl, rfl, rfl, rfl, rfl, (((j5).ext jb).ext jh).ext ju, (jj).ext ju⟩ ?_)
  rintro k4 k5 k6 ⟨k7, k1, k2, k3, rfl, k8, k9, hr, ka, kb, kc, kd, ke, kf, kg, kh, ki, kj⟩
  cases k4 with
  | zero => exact absurd hr (by simp [dead_run_pairs_l1])
  | succ k4 =>
   rw [dead_run_pairs_l1.eq_2] at hr
   refine sr (L_lss ka kh (by decide) (nn (W_seq ?_)))
   refine W_cond _ (rfl : _ = Value.bool (decide (k1 < (jq.length : Int)))) (fun kk => ?_) (fun kk => ?_)
   ·have hr := ite_t kk hr
    refine W_skip (then_n (W_seq (W_block (sr (mv ka ?_)))))
    obtain ⟨kl, km, hr⟩ := bind_some hr
    refine L_index Try.underlying59 ty64.inf kg (jv.mono k9) ka km (by decide) (fun kn ko => L_load ty64 (rfl : _ = kn) ko (by decide) (fun kp kq => L_alloc (α := Deed) (x := ⟨0, 0, 0, 0, false⟩) zero64 Deed.zero_rel (by decide) (fun kr ks kt ku kv => ?_)))
    have kw := Tch.ext k8 kt
    have kx : ∀ k, (fun k => k = j2) k → ¬ (fun k => k = ks) k := fun k jm jn => by have jo := (fun k (hk : k = j2) => lt_at hk (ki).lt) k jm; have jp := ku; subst jn; omega
    have ky : ∀ k, (fun k => k = jg) k → ¬ (fun k => k = ks) k := fun k jm jn => by have jo := (fun k (hk : k = jg) => lt_at hk (kj).lt) k jm; have jp := ku; subst jn; omega
    refine asg (rfl : _ = Value.int .i64 (k1)) (L_store_ro ty64 (rfl : _ = Value.pointer (some ⟨ks, 0, none⟩)) (rfl : _ = kp) (kq.mono kt.le) (kv) (fun kz g0 g1 => ?_))
    have g2 := Tch.trans kw g0 (fun k hk => Or.inr (by subst hk; exact (Nat.le_trans k8.size ku)))
    refine nn (W_seq ?_)
    obtain ⟨g3, g4, g5⟩ := bind_some hr
    refine W_seq_cut (fun f w => ∃ (s : St) (g6 : Bool), s.w = w ∧ Ext s0 s ∧ Le kz s ∧ g6 = g3 ∧ f 38 = Value.bool g6 ∧ f 1 = Value.int .i64 (a1) ∧ f 2 = Value.int .i64 (a2) ∧ f 7 = Value.map (some j2) ∧ f 8 = j9 ∧ f 9 = Value.slice (some ⟨jg, 0, none⟩) ((j7.length : Int)).toNat ((j7.length : Int)).toNat ∧ f 10 = Value.int .i64 (k1) ∧ f 11 = Value.pointer (some ⟨ks, 0, none⟩) ∧ f 23 = js ∧ f 24 = Value.int .i64 ((jq.length : Int)) ∧ f 25 = Value.int .i64 (k1) ∧ MapX s j2 k2 ∧ Arr s jg 4 ((j7.length : Int)).toNat k3) ?_ ?_
    ·have hr := g4
     refine W_region (L_load ty64 (rfl : _ = Value.pointer (some ⟨ks, 0, none⟩)) g1 (by decide) (fun g7 g8 => ?_))
     obtain ⟨g9, ga, hr⟩ := bind_some hr
     refine L_calls cal40 (args1 (rfl : _ = g7)) (dead_sends_ok N _ _ _ g8 g9 ga) (by decide) (fun gb gc gd gg => ?_)
     have gh := Tch.ext g2 gd
     obtain rfl := gg.bool
     refine L_not (rfl : _ = Value.bool (g9)) (by decide) (mv (rfl : _ = Value.bool (!g9)) ?_)
     rcases Bool.eq_false_or_eq_true (!g9) with gi | gi
     ·have hr := ite_t gi hr; exact gf 33 (rfl : _ = Value.bool (!g9)) gi (gf 33 (rfl : _ = Value.bool (!g9)) gi (gf 33 (rfl : _ = Value.bool (!g9)) gi (gf 33 (rfl : _ = Value.bool (!g9)) gi (pt (rfl : _ = Value.bool (!g9)) gi (rfl : _ = Value.bool (true)) (nn ⟨gc, true, rfl, gh, gd.le, Option.some.inj hr, rfl, kb, kc, kd, ke, kf, rfl, rfl, kg, kh, ka, (((ki).ext kt).tch g0 ((fun k hk => kx k hk) j2 rfl)).ext gd, (((kj).ext kt).tch g0 ((fun k hk => ky k hk) jg rfl)).ext gd⟩)))))
     ·have hr := ite_f gi hr; exact gt 33 (rfl : _ = Value.bool (!g9)) gi (L_fieldAddr fld64_1 Deed.of_Peer (rfl : _ = Value.pointer (some ⟨ks, 0, none⟩)) (g1.mono gd.le) (by decide) (fun gj gk => gt 33 (rfl : _ = Value.bool (!g9)) gi (li ty3 (rfl : _ = gj) gk (gt 33 (rfl : _ = Value.bool (!g9)) gi (mv kc (gt 33 (rfl : _ = Value.bool (!g9)) gi (L_neq (rfl : _ = Value.int .i64 (kl.Peer)) (rfl : _ = Value.int .i64 (a2)) (by decide) (pf (rfl : _ = Value.bool (!g9)) gi (rfl : _ = Value.bool (!decide (kl.Peer = a2))) (nn ⟨gc, (!decide (kl.Peer = a2)), rfl, gh, gd.le, Option.some.inj hr, rfl, kb, kc, kd, ke, kf, rfl, rfl, kg, kh, ka, (((ki).ext kt).tch g0 ((fun k hk => kx k hk) j2 rfl)).ext gd, (((kj).ext kt).tch g0 ((fun k hk => ky k hk) jg rfl)).ext gd⟩)))))))))
    ·rintro g7 g8 ⟨g9, g6, rfl, ga, gb, g4, gc, gd, gg, gh, gi, gj, gk, gl, gm, gn, go, gp, gq⟩
     subst g4
     have hr := g5
     try dsimp only at hr
     refine W_cond _ gc (fun gr => ?_) (fun gr => ?_)
     ·have hr := ite_t gr hr; refine W_exit (then_x (block_here (then_n (W_region ?_)))); obtain ⟨gs, hr⟩ := chk_some hr; exact L_add go (rfl : _ = Value.int .i64 (1)) gs (by decide) (mv (rfl : _ = Value.int .i64 (k1 + 1)) (nn ⟨k4, Nat.lt_succ_self _, ⟨g9, (k1 + 1), k2, k3, rfl, ga, (k9.trans (kt.le.trans (g0.le.trans gb))), hr, rfl, gd, gg, gh, gi, gj, gm, gn, gp, gq⟩⟩))
     ·have hr := ite_f gr hr
      refine W_skip (then_n (sr (mv gh (mv gk (L_mapUpdate (m := k2) Try.underlying92 Try.underlying3 (rfl : _ = Value.map (some j2)) (rfl : _ = Value.int .i64 (k1)) (rfl : _ = Value.int .i64 (-1)) (gp) (Vint : V _ _ (-1 : Int)) (fun gs gu gv => ?_))))))
      have gw := Tch.trans ga gu (fun k hk => Or.inr (by subst hk; exact (Nat.le_trans j0.size j4)))
      refine nn (sr (mv gi (L_len Try.underlying59 (rfl : _ = j9) (jc.mono (jh.le.trans (ju.le.trans (k9.trans (kt.le.trans (g0.le.trans (gb.trans gu.le))))))) (by decide) (mv (rfl : _ = Value.int .i64 (0)) (nn ?_)))))
      obtain ⟨gx, gy, gz⟩ := bind_some hr
      refine W_cut (fun f w => ∃ (s : St) (u0 : List (Int × Int)) (u1 : List Bool), s.w = w ∧ Ext s0 s ∧ Le gs s ∧ (u0, u1) = gx ∧ f 1 = Value.int .i64 (a1) ∧ f 2 = Value.int .i64 (a2) ∧ f 7 = Value.map (some j2) ∧ f 8 = j9 ∧ f 9 = Value.slice (some ⟨jg, 0, none⟩) ((j7.length : Int)).toNat ((j7.length : Int)).toNat ∧ f 23 = js ∧ f 24 = Value.int .i64 ((jq.length : Int)) ∧ f 25 = Value.int .i64 (k1) ∧ MapX s j2 u0 ∧ Arr s jg 4 ((j7.length : Int)).toNat u1) ?_ ?_
      ·refine W_block (W_loop (fun m f w => ∃ (s : St) (u2 : Int) (u3 : List (Int × Int)) (u4 : List Bool), s.w = w ∧ Ext s0 s ∧ Le gs s ∧ dead_run_pairs_l2 N a1 j7 k1 kl m u2 u3 u4 = some gx ∧ f 43 = Value.int .i64 u2 ∧ f 1 = Value.int .i64 (a1) ∧ f 2 = Value.int .i64 (a2) ∧ f 7 = Value.map (some j2) ∧ f 8 = j9 ∧ f 9 = Value.slice (some ⟨jg, 0, none⟩) ((j7.length : Int)).toNat ((j7.length : Int)).toNat ∧ f 10 = Value.int .i64 (k1) ∧ f 11 = Value.pointer (some ⟨ks, 0, none⟩) ∧ f 23 = js ∧ f 24 = Value.int .i64 ((jq.length : Int)) ∧ f 25 = Value.int .i64 (k1) ∧ f 41 = j9 ∧ f 42 = Value.int .i64 ((j7.length : Int)) ∧ MapX s j2 u3 ∧ Arr s jg 4 ((j7.length : Int)).toNat u4) N ⟨gs, 0, (mset k2 k1 (-1)), k3, rfl, gw, (Le.refl _), gy, rfl, gd, gg, gh, gi, gj, gk, gl, gm, gn, go, rfl, rfl, gv, (gq).tch gu ((fun k hk hm => jl k hm hk) jg rfl)⟩ ?_)
       rintro u5 u6 u7 ⟨u9, u2, u3, u4, rfl, ua, ub, hr, uc, ud, ue, uf, ug, uh, ui, uj, uk, ul, um, un, uo, up, uq⟩
       cases u5 with
       | zero => exact absurd hr (by simp [dead_run_pairs_l2])
       | succ u5 =>
        rw [dead_run_pairs_l2.eq_2] at hr
        refine sr (L_lss uc uo (by decide) (nn (W_seq ?_)))
        refine W_cond _ (rfl : _ = Value.bool (decide (u2 < (j7.length : Int)))) (fun ur => ?_) (fun ur => ?_)
        ·have hr := ite_t ur hr
         refine W_skip (then_n (W_seq (W_block (sr (mv uc ?_)))))
         obtain ⟨us, ut, hr⟩ := bind_some hr
         refine L_index Try.underlying59 ty64.inf un (jc.mono (jh.le.trans (ju.le.trans (k9.trans (kt.le.trans (g0.le.trans (gb.trans (gu.le.trans ub)))))))) uc ut (by decide) (fun uu uv => L_load ty64 (rfl : _ = uu) uv (by decide) (fun uw ux => L_alloc (α := Deed) (x := ⟨0, 0, 0, 0, false⟩) zero64 Deed.zero_rel (by decide) (fun uy uz t0 t1 t2 => ?_)))
         have t3 := Tch.ext ua t0
         have t4 : ∀ k, (fun k => k = j2) k → ¬ (fun k => k = uz) k := fun k jm jn => by have jo := (fun k (hk : k = j2) => lt_at hk (up).lt) k jm; have jp := t1; subst jn; omega
         have t5 : ∀ k, (fun k => k = jg) k → ¬ (fun k => k = uz) k := fun k jm jn => by have jo := (fun k (hk : k = jg) => lt_at hk (uq).lt) k jm; have jp := t1; subst jn; omega
         refine asg (rfl : _ = Value.int .i64 (u2)) (L_store_ro ty64 (rfl : _ = Value.pointer (some ⟨uz, 0, none⟩)) (rfl : _ = uw) (ux.mono t0.le) (t2) (fun t6 t7 t8 => ?_))
         have t9 := Tch.trans t3 t7 (fun k hk => Or.inr (by subst hk; exact (Nat.le_trans ua.size t1)))
         refine nn ?_
         obtain ⟨ta, tb, tc⟩ := bind_some hr
         refine W_seq_cut (fun f w => ∃ (s : St) (td : Bool), s.w = w ∧ Ext s0 s ∧ Le t6 s ∧ td = ta ∧ f 67 = Value.bool td ∧ f 1 = Value.int .i64 (a1) ∧ f 2 = Value.int .i64 (a2) ∧ f 7 = Value.map (some j2) ∧ f 8 = j9 ∧ f 9 = Value.slice (some ⟨jg, 0, none⟩) ((j7.length : Int)).toNat ((j7.length : Int)).toNat ∧ f 10 = Value.int .i64 (k1) ∧ f 11 = Value.pointer (some ⟨ks, 0, none⟩) ∧ f 12 = Value.int .i64 (u2) ∧ f 23 = js ∧ f 24 = Value.int .i64 ((jq.length : Int)) ∧ f 25 = Value.int .i64 (k1) ∧ f 41 = j9 ∧ f 42 = Value.int .i64 ((j7.length : Int)) ∧ f 43 = Value.int .i64 (u2) ∧ MapX s j2 u3 ∧ Arr s jg 4 ((j7.length : Int)).toNat u4) ?_ ?_
         ·have hr := tb
          refine W_region (L_load ty64 (rfl : _ = Value.pointer (some ⟨uz, 0, none⟩)) t8 (by decide) (fun te tf => ?_))
          obtain ⟨tg, th, hr⟩ := bind_some hr
          refine L_calls cal70 (args1 (rfl : _ = te)) (dead_receives_ok N _ _ _ tf tg th) (by decide) (fun ti tj tk tl => ?_)
          have tm := Tch.ext t9 tk
          obtain rfl := tl.bool
          refine mv (rfl : _ = Value.bool (tg)) ?_
          rcases Bool.eq_false_or_eq_true (tg) with tn | tn
          ·have hr := ite_t tn hr
           refine gt 50 (rfl : _ = Value.bool (tg)) tn (L_fieldAddr fld64_1 Deed.of_Peer (rfl : _ = Value.pointer (some ⟨uz, 0, none⟩)) (t8.mono tk.le) (by decide) (fun tp tq => gt 50 (rfl : _ = Value.bool (tg)) tn (li ty3 (rfl : _ = tp) tq (gt 50 (rfl : _ = Value.bool (tg)) tn (mv ud (gt 50 (rfl : _ = Value.bool (tg)) tn (L_eql (rfl : _ = Value.int .i64 (us.Peer)) (rfl : _ = Value.int .i64 (a1)) (by decide) (pt (rfl : _ = Value.bool (tg)) tn (rfl : _ = Value.bool (decide (us.Peer = a1))) (mv (rfl : _ = Value.bool (decide (us.Peer = a1))) ?_)))))))))
           rcases Bool.eq_false_or_eq_true (decide (us.Peer = a1)) with tr | tr
           ·have hr := ite_t tr hr
            refine gt 56 (rfl : _ = Value.bool (decide (us.Peer = a1))) tr (mv uh (gt 56 (rfl : _ = Value.bool (decide (us.Peer = a1))) tr (mv (rfl : _ = Value.int .i64 (u2)) (gt 56 (rfl : _ = Value.bool (decide (us.Peer = a1))) tr ?_))))
            obtain ⟨ts, tt, hr⟩ := bind_some hr
            refine L_indexA (sz := 1) Try.underlying116 ty4.inf (rfl : _ = Value.slice (some ⟨jg, 0, none⟩) ((j7.length : Int)).toNat ((j7.length : Int)).toNat) (rfl : _ = Value.int .i64 (u2)) (idx_some tt).1 (by have := (idx_some tt).2.1; have := ((((uq).ext t0).tch t7 ((fun k hk => t5 k hk) jg rfl)).ext tk).1; omega) (by decide) (gt 56 (rfl : _ = Value.bool (decide (us.Peer = a1))) tr (L_loadA (xs := u4) ty4 (rfl : _ = Value.pointer (some ⟨jg, (u2).toNat * 1, none⟩)) ((((uq).ext t0).tch t7 ((fun k hk => t5 k hk) jg rfl)).ext tk) tt (by decide) (fun tu tv => ?_)))
            obtain rfl := tv.bool
            refine gt 56 (rfl : _ = Value.bool (decide (us.Peer = a1))) tr (L_not (rfl : _ = Value.bool (ts)) (by decide) (pt (rfl : _ = Value.bool (decide (us.Peer = a1))) tr (rfl : _ = Value.bool (!ts)) (mv (rfl : _ = Value.bool (!ts)) ?_)))
            rcases Bool.eq_false_or_eq_true (!ts) with tw | tw
            ·have hr := ite_t tw hr; refine gt 63 (rfl : _ = Value.bool (!ts)) tw (L_load ty64 uj (g1.mono (gb.trans (gu.le.trans (ub.trans (t0.le.trans (t7.le.trans tk.le)))))) (by decide) (fun tx ty => gt 63 (rfl : _ = Value.bool (!ts)) tw (L_load ty64 (rfl : _ = Value.pointer (some ⟨uz, 0, none⟩)) (t8.mono tk.le) (by decide) (fun tz c0 => gt 63 (rfl : _ = Value.bool (!ts)) tw ?_)))); obtain ⟨c1, c2, hr⟩ := bind_some hr; refine L_calls cal41 (args2 (rfl : _ = tx) (rfl : _ = tz)) (dead_fits_ok N _ _ _ ty _ _ c0 c1 c2) (by decide) (fun c3 c4 c5 c6 => ?_); have c7 := Tch.ext tm c5; obtain rfl := c6.bool; exact pt (rfl : _ = Value.bool (!ts)) tw (rfl : _ = Value.bool (c1)) (nn ⟨c4, c1, rfl, c7, (tk.le.trans c5.le), Option.some.inj hr, rfl, ud, ue, uf, ug, uh, ui, uj, rfl, uk, ul, um, un, uo, uc, ((((up).ext t0).tch t7 ((fun k hk => t4 k hk) j2 rfl)).ext tk).ext c5, ((((uq).ext t0).tch t7 ((fun k hk => t5 k hk) jg rfl)).ext tk).ext c5⟩)
            ·have hr := ite_f tw hr; exact gf 63 (rfl : _ = Value.bool (!ts)) tw (gf 63 (rfl : _ = Value.bool (!ts)) tw (gf 63 (rfl : _ = Value.bool (!ts)) tw (pf (rfl : _ = Value.bool (!ts)) tw (rfl : _ = Value.bool (false)) (nn ⟨tj, false, rfl, tm, tk.le, Option.some.inj hr, rfl, ud, ue, uf, ug, uh, ui, uj, rfl, uk, ul, um, un, uo, uc, (((up).ext t0).tch t7 ((fun k hk => t4 k hk) j2 rfl)).ext tk, (((uq).ext t0).tch t7 ((fun k hk => t5 k hk) jg rfl)).ext tk⟩))))
           ·have hr := ite_f tr hr; exact gf 56 (rfl : _ = Value.bool (decide (us.Peer = a1))) tr (gf 56 (rfl : _ = Value.bool (decide (us.Peer = a1))) tr (gf 56 (rfl : _ = Value.bool (decide (us.Peer = a1))) tr (gf 56 (rfl : _ = Value.bool (decide (us.Peer = a1))) tr (gf 56 (rfl : _ = Value.bool (decide (us.Peer = a1))) tr (pf (rfl : _ = Value.bool (decide (us.Peer = a1))) tr (rfl : _ = Value.bool (false)) (mv (rfl : _ = Value.bool (false)) (gf 63 (rfl : _ = Value.bool (false)) rfl (gf 63 (rfl : _ = Value.bool (false)) rfl (gf 63 (rfl : _ = Value.bool (false)) rfl (pf (rfl : _ = Value.bool (false)) rfl (rfl : _ = Value.bool (false)) (nn ⟨tj, false, rfl, tm, tk.le, Option.some.inj hr, rfl, ud, ue, uf, ug, uh, ui, uj, rfl, uk, ul, um, un, uo, uc, (((up).ext t0).tch t7 ((fun k hk => t4 k hk) j2 rfl)).ext tk, (((uq).ext t0).tch t7 ((fun k hk => t5 k hk) jg rfl)).ext tk⟩)))))))))))
          ·have hr := ite_f tn hr; refine gf 50 (rfl : _ = Value.bool (tg)) tn (gf 50 (rfl : _ = Value.bool (tg)) tn (gf 50 (rfl : _ = Value.bool (tg)) tn (gf 50 (rfl : _ = Value.bool (tg)) tn (pf (rfl : _ = Value.bool (tg)) tn (rfl : _ = Value.bool (false)) (mv (rfl : _ = Value.bool (false)) (gf 56 (rfl : _ = Value.bool (false)) rfl (gf 56 (rfl : _ = Value.bool (false)) rfl (gf 56 (rfl : _ = Value.bool (false)) rfl (gf 56 (rfl : _ = Value.bool (false)) rfl (gf 56 (rfl : _ = Value.bool (false)) rfl (pf (rfl : _ = Value.bool (false)) rfl (rfl : _ = Value.bool (false)) (mv (rfl : _ = Value.bool (false)) (gf 63 (rfl : _ = Value.bool (false)) rfl ?_))))))))))))); exact gf 63 (rfl : _ = Value.bool (false)) rfl (gf 63 (rfl : _ = Value.bool (false)) rfl (pf (rfl : _ = Value.bool (false)) rfl (rfl : _ = Value.bool (false)) (nn ⟨tj, false, rfl, tm, tk.le, Option.some.inj hr, rfl, ud, ue, uf, ug, uh, ui, uj, rfl, uk, ul, um, un, uo, uc, (((up).ext t0).tch t7 ((fun k hk => t4 k hk) j2 rfl)).ext tk, (((uq).ext t0).tch t7 ((fun k hk => t5 k hk) jg rfl)).ext tk⟩)))
         ·rintro te tf ⟨tg, td, rfl, th, ti, tb, tj, tk, tl, tm, tn, tp, tq, tr, ts, tt, tu, tv, tw, tx, ty, tz, c0⟩
          subst tb
          have hr := tc
          try dsimp only at hr
          refine W_cond _ tj (fun c1 => ?_) (fun c1 => ?_)
          ·have hr := ite_t c1 hr; refine sr (mv tm (mv tq (mv tp (mv ts (mv ts (L_mapUpdate (m := u3) Try.underlying92 Try.underlying3 (rfl : _ = Value.map (some j2)) (rfl : _ = Value.int .i64 (k1)) (rfl : _ = Value.int .i64 (u2)) (tz) (Vint : V _ _ (u2 : Int)) (fun c2 c3 c4 => ?_))))))); have c5 := Tch.trans th c3 (fun k hk => Or.inr (by subst hk; exact (Nat.le_trans j0.size j4))); obtain ⟨c6, c7, hr⟩ := bind_some hr; refine L_indexA (sz := 1) Try.underlying116 ty4.inf (rfl : _ = Value.slice (some ⟨jg, 0, none⟩) ((j7.length : Int)).toNat ((j7.length : Int)).toNat) (rfl : _ = Value.int .i64 (u2)) (idx_some c7).1 (by have := (idx_some c7).2.1; have := ((c0).tch c3 ((fun k hk hm => jl k hm hk) jg rfl)).1; omega) (by decide) (L_storeA (xs := u4) ty4 (rfl : _ = Value.pointer (some ⟨jg, (u2).toNat * 1, none⟩)) (rfl : _ = Value.bool (true)) Vbool ((c0).tch c3 ((fun k hk hm => jl k hm hk) jg rfl)) c7 (fun c8 c9 ca => ?_)); have cb := Tch.trans c5 c9 (fun k hk => Or.inr (by subst hk; exact (Nat.le_trans jd.size ji))); refine nn (W_exit (block_x (by decide) (then_x (then_x (block_here ?_))))); exact then_n ⟨c8, (mset u3 k1 u2), (u4.set (u2).toNat true), rfl, cb, (ub.trans (t0.le.trans (t7.le.trans (ti.trans (c3.le.trans c9.le))))), Option.some.inj hr, tk, tl, tm, tn, tp, tt, tu, tv, (c4).tch c9 ((fun k hk => jl k hk) j2 rfl), ca⟩
          ·have hr := ite_f c1 hr; refine W_skip (block_n (then_n (W_region ?_))); obtain ⟨c2, hr⟩ := chk_some hr; exact L_add ty (rfl : _ = Value.int .i64 (1)) c2 (by decide) (mv (rfl : _ = Value.int .i64 (u2 + 1)) (nn ⟨u5, Nat.lt_succ_self _, ⟨tg, (u2 + 1), u3, u4, rfl, th, (ub.trans (t0.le.trans (t7.le.trans ti))), hr, rfl, tk, tl, tm, tn, tp, tq, tr, tt, tu, tv, tw, tx, tz, c0⟩⟩))
        ·have hr := ite_f ur hr; refine W_exit (then_x (then_x (block_here ?_))); exact then_n ⟨u9, u3, u4, rfl, ua, ub, Option.some.inj hr, ud, ue, uf, ug, uh, uk, ul, um, up, uq⟩
      ·rintro u2 u3 ⟨u4, u0, u1, rfl, u5, u6, gy, u7, u9, ua, ub, uc, ud, ue, uf, ug, uh⟩; subst gy; have hr := gz; (try dsimp only at hr); refine block_n (then_n (W_region ?_)); obtain ⟨ui, hr⟩ := chk_some hr; exact L_add uf (rfl : _ = Value.int .i64 (1)) ui (by decide) (mv (rfl : _ = Value.int .i64 (k1 + 1)) (nn ⟨k4, Nat.lt_succ_self _, ⟨u4, (k1 + 1), u0, u1, rfl, u5, (k9.trans (kt.le.trans (g0.le.trans (gb.trans (gu.le.trans u6))))), hr, rfl, u7, u9, ua, ub, uc, ud, ue, ug, uh⟩⟩))
   ·have hr := ite_f kk hr; refine W_exit (then_x (then_x (block_here ?_))); exact then_n ⟨k7, k2, rfl, k8, k9, Option.some.inj hr, kd, ki⟩
 ·rintro k1 k2 ⟨k3, k0, rfl, k4, k5, jy, k6, k7⟩; subst jy; have hr := jz; (try dsimp only at hr); refine then_n (sr (mv k6 (asg (rfl : _ = Value.map (some j2)) (nn (W_ret ?_))))); obtain rfl := Option.some.inj hr; obtain ⟨k8, k9, ka, kb⟩ := (k7).freeze; have kc := Tch.trans k4 ka (fun k hk => Or.inr (by subst hk; exact (Nat.le_trans j0.size j4))); exact done1 (Or.inl rfl) Try.results81 rfl ⟨_, _, rfl, k9, kc, kb.toV⟩

end Go.Arm
