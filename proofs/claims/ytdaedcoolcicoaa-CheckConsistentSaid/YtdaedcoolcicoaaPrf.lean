/- A part of the proof. -/
import Derived.Test.YtdaedcoolcicoaaPure
namespace Go.Arm
open Go Go.RowKit Go.Proofs
variable {σ : Type}
theorem slices_Clone_Lint_int_ok (N : Nat) (s0 : St) (w0 : Value) (a0 : List Int) (h0 : V s0 w0 a0) (r : (List Int)) (hr : slices_Clone_Lint_int N a0 = some r) :
    Calls Try.prog 53 #[w0] s0.w (Ret s0 fun v s => Bld s s0.w.heap.size 3 v r) := by
 unfold slices_Clone_Lint_int at hr
 have j0 := Ext.refl s0
 refine Calls_of (n := 8) (args := [w0]) Try.func53 rfl rfl (by simp) (sr (asg (rv (Value.slice none 0 0)) (nn (W_seq (sr (mv (rv w0) (L_eqNil Try.underlying40 (rv w0) h0 (by decide) (fun j1 j2 => nn ?_))))))))
 refine W_cond _ (rv (vb j1)) (fun j3 => ?_) (fun _ => ?_)
 ·obtain rfl := j2 j3; obtain ⟨_, hr⟩ := chk_some hr; refine sr (asg (rv (Value.slice none 0 0)) (nn (W_ret (then_r ?_)))); obtain rfl := Option.some.inj hr; exact done1 (Or.inl rfl) Try.results53 rfl ⟨_, _, rfl, rfl, j0, Bld.nil⟩
 ·refine W_skip (then_n (sr (L_buildSlice (xs := ([] : List Int)) Try.underlying40 tyz3 Parts_nil Vs.nil rfl (by decide) (by decide) (fun j4 j5 j6 j7 j8 => ?_)))); have j9 := Tch.ext j0 j6; refine mv (rv w0) ?_; obtain ⟨ja, hr⟩ := chk_some hr; refine L_append (xs := ([] : List Int)) (B := s0.w.heap.size) Try.underlying40 tyz3 (rv j5) (rv w0) ((j7.base j0.size)) (j9.size) (h0.mono j6.le) ja.1 ja.2 (by decide) (fun jb jc jd => ?_); have je := jd.tchM ((j7.base j0.size)) j9 (Nat.le_refl _); refine asg (rv jb) (nn (W_ret ?_)); obtain rfl := Option.some.inj hr; exact done1 (Or.inl rfl) Try.results53 rfl ⟨_, _, rfl, rfl, je, jd.bld⟩

theorem law14_past_ok (N : Nat) (s0 : St) (w0 : Value) (a0 : List Item) (h0 : V s0 w0 a0) (a1 : Int) (a2 : Int) (r : Bool) (hr : law14_past N a0 a1 a2 = some r) :
    Calls Try.prog 21 #[w0, .int .i64 a1, .int .i64 a2] s0.w (Ret s0 fun v s => V s v r) := by
 unfold law14_past at hr
 have j0 := Ext.refl s0
 refine Calls_of (n := 25) (args := [w0, .int .i64 a1, .int .i64 a2]) Try.func21 rfl rfl (by simp) (sr (asg (rv (vb false)) (nn (sr (asg (rv (vi 0)) (nn (W_seq (sr (mv (rv (vi a1)) (mv (rv (vi 0)) (nn ?_)))))))))))
 obtain ⟨j1, j2, j3⟩ := bind_some hr
 refine W_cut (fun f w => ∃ (s : St) (j4 : Int), s.w = w ∧ Ext s0 s ∧ Le s0 s ∧ j4 = j1 ∧ f 7 = vi j4 ∧ f 2 = vi (a2)) ?_ ?_
 ·refine W_block (W_loop (fun m f w => ∃ (s : St) (j5 : Int) (j6 : Int), s.w = w ∧ Ext s0 s ∧ Le s0 s ∧ law14_past_l1 N a0 a1 m j5 j6 = some j1 ∧ f 7 = vi j5 ∧ f 10 = vi j6 ∧ f 0 = w0 ∧ f 2 = vi (a2) ∧ f 9 = vi (a1)) N ⟨s0, 0, 0, rfl, j0, (Le.refl _), j2, rfl, rfl, rfl, rfl, rfl⟩ ?_)
  rintro j7 j8 j9 ⟨ja, j5, j6, rfl, jb, jc, hr, jd, je, jf, jg, jh⟩
  cases j7 with
  | zero => exact absurd hr (by simp [law14_past_l1])
  | succ j7 =>
   rw [law14_past_l1.eq_2] at hr
   refine sr (ls je jh (nn (W_seq ?_)))
   refine W_cond _ (rv (vb (decide (j6 < a1)))) (fun ji => ?_) (fun ji => ?_)
   ·have hr := ite_t ji hr
    refine W_skip (then_n (W_seq (W_block (sr (mv je (asg (rv (vi j6)) (nn (sr (mv jf (mv (rv (vi j6)) ?_))))))))))
    obtain ⟨jj, jk, hr⟩ := bind_some hr
    refine ix Try.underlying50 ty55.inf (rv w0) (h0.mono jc) (rv (vi j6)) jk (fun jl jm => fa fld55_0 Item.of_Kind (rv jl) jm (fun jn jo => li ty3 (rv jn) jo (el (rv (vi (jj.Kind))) (rv (vi 1)) (nn ?_))))
    refine W_cond _ (rv (vb (decide (jj.Kind = 1)))) (fun jp => ?_) (fun jp => ?_)
    ·have hr := ite_t jp hr; refine W_region (mv jd ?_); obtain ⟨jq, hr⟩ := chk_some hr; refine ad (rv (vi j5)) (rv (vi 1)) jq (asg (rv (vi (j5 + 1))) (L_nil (block_n (then_n (W_region ?_))))); obtain ⟨jr, hr⟩ := chk_some hr; exact ad je (rv (vi 1)) jr (mv (rv (vi (j6 + 1))) (nn ⟨j7, Nat.lt_succ_self _, ⟨ja, (j5 + 1), (j6 + 1), rfl, jb, jc, hr, rfl, rfl, jf, jg, jh⟩⟩))
    ·have hr := ite_f jp hr; refine W_skip (block_n (then_n (W_region ?_))); obtain ⟨jq, hr⟩ := chk_some hr; exact ad je (rv (vi 1)) jq (mv (rv (vi (j6 + 1))) (nn ⟨j7, Nat.lt_succ_self _, ⟨ja, j5, (j6 + 1), rfl, jb, jc, hr, jd, rfl, jf, jg, jh⟩⟩))
   ·have hr := ite_f ji hr; refine W_exit (then_x (then_x (block_here ?_))); exact then_n ⟨ja, j5, rfl, jb, jc, Option.some.inj hr, jd, jg⟩
 ·rintro j5 j6 ⟨j7, j4, rfl, j8, j9, j2, ja, jb⟩; subst j2; have hr := j3; (try dsimp only at hr); refine then_n (sr (mv ja (mv jb (ls (rv (vi j4)) (rv (vi a2)) (asg (rv (vb (decide (j4 < a2)))) (nn (W_ret ?_))))))); obtain rfl := Option.some.inj hr; exact done1 (Or.inl rfl) Try.results21 rfl ⟨_, _, rfl, rfl, j8, Vbool⟩

theorem law14_at_ok (N : Nat) (s0 : St) (w0 : Value) (a0 : List (List Item)) (h0 : V s0 w0 a0) (a1 : Int) (a2 : Int) (r : Int × Int × Bool) (hr : law14_at N a0 a1 a2 = some r) :
    Calls Try.prog 22 #[w0, .int .i64 a1, .int .i64 a2] s0.w (Ret s0 fun v s => ∃ a b c, v = .tuple #[a, b, c] ∧ V s a r.1 ∧ V s b r.2.1 ∧ V s c r.2.2) := by
 unfold law14_at at hr
 have j0 := Ext.refl s0
 refine Calls_of (n := 41) (args := [w0, .int .i64 a1, .int .i64 a2]) Try.func22 rfl rfl (by simp) (sr (asg (rv (vi 0)) (asg (rv (vi 0)) (asg (rv (vb false)) (nn (W_seq (sr (mv (rv w0) (ln Try.underlying49 (rv w0) h0 (mv (rv (vi 0)) (nn ?_)))))))))))
 obtain ⟨j1, j2, j3⟩ := bind_some hr
 refine W_cut (fun f w => ∃ (s : St), s.w = w ∧ Ext s0 s ∧ Le s0 s ∧ Sum.inl () = j1) ?_ ?_
 ·refine W_block (W_loop (fun m f w => ∃ (s : St) (j4 : Int), s.w = w ∧ Ext s0 s ∧ Le s0 s ∧ law14_at_l1 N a0 a1 a2 m j4 = some j1 ∧ f 15 = vi j4 ∧ f 1 = vi (a1) ∧ f 2 = vi (a2) ∧ f 13 = w0 ∧ f 14 = vi ((a0.length : Int))) N ⟨s0, 0, rfl, j0, (Le.refl _), j2, rfl, rfl, rfl, rfl, rfl⟩ ?_)
  rintro j5 j6 j7 ⟨j8, j4, rfl, j9, ja, hr, jb, jc, jd, je, jf⟩
  cases j5 with
  | zero => exact absurd hr (by simp [law14_at_l1])
  | succ j5 =>
   rw [law14_at_l1.eq_2] at hr
   refine sr (ls jb jf (nn (W_seq ?_)))
   refine W_cond _ (rv (vb (decide (j4 < (a0.length : Int))))) (fun jg => ?_) (fun jg => ?_)
   ·have hr := ite_t jg hr
    refine W_skip (then_n (W_seq (W_block (sr (mv jb ?_)))))
    obtain ⟨jh, ji, hr⟩ := bind_some hr
    refine ix Try.underlying49 ty50.inf je (h0.mono ja) jb ji (fun jj jk => ld ty50 (rv jj) jk (fun jl jm => asg (rv (vi j4)) (asg (rv jl) (nn (sr (mv (rv jl) (ln Try.underlying50 (rv jl) jm (mv (rv (vi 0)) (nn ?_)))))))))
    obtain ⟨jn, jo, jp⟩ := bind_some hr
    refine W_cut (fun f w => ∃ (s : St), s.w = w ∧ Ext s0 s ∧ Le j8 s ∧ Sum.inl () = jn ∧ f 1 = vi (a1) ∧ f 2 = vi (a2) ∧ f 13 = w0 ∧ f 14 = vi ((a0.length : Int)) ∧ f 15 = vi (j4)) ?_ ?_
    ·refine W_block (W_loop (fun m f w => ∃ (s : St) (jq : Int), s.w = w ∧ Ext s0 s ∧ Le j8 s ∧ law14_at_l2 N a1 a2 j4 jh m jq = some jn ∧ f 22 = vi jq ∧ f 1 = vi (a1) ∧ f 2 = vi (a2) ∧ f 9 = vi (j4) ∧ f 13 = w0 ∧ f 14 = vi ((a0.length : Int)) ∧ f 15 = vi (j4) ∧ f 20 = jl ∧ f 21 = vi ((jh.length : Int))) N ⟨j8, 0, rfl, j9, (Le.refl _), jo, rfl, jc, jd, rfl, je, jf, jb, rfl, rfl⟩ ?_)
     rintro jr js jt ⟨ju, jq, rfl, jv, jw, hr, jx, jy, jz, k0, k1, k2, k3, k4, k5⟩
     cases jr with
     | zero => exact absurd hr (by simp [law14_at_l2])
     | succ jr =>
      rw [law14_at_l2.eq_2] at hr
      refine sr (ls jx k5 (nn (W_seq ?_)))
      refine W_cond _ (rv (vb (decide (jq < (jh.length : Int))))) (fun k6 => ?_) (fun k6 => ?_)
      ·have hr := ite_t k6 hr
       refine W_skip (then_n (W_seq (W_block (sr (mv jx ?_)))))
       obtain ⟨k7, k8, hr⟩ := bind_some hr
       refine ix Try.underlying50 ty55.inf k4 (jm.mono jw) jx k8 (fun k9 ka => ld ty55 (rv k9) ka (fun kb kc => L_alloc (α := Item) (x := ⟨0, 0⟩) zero55 Item.zero_rel (by decide) (fun kd ke kf kg kh => ?_)))
       have ki := Tch.ext jv kf
       refine asg (rv (vi jq)) (L_store_ro ty55 (rv (Value.pointer (some ⟨ke, 0, none⟩))) (rv kb) (kc.mono kf.le) (kh) (fun kj kk kl => ?_))
       have km := Tch.trans ki kk (fun k hk => Or.inr (by subst hk; exact (Nat.le_trans jv.size kg)))
       refine nn ?_
       obtain ⟨kn, ko, kp⟩ := bind_some hr
       refine W_seq_cut (fun f w => ∃ (s : St) (kq : Bool), s.w = w ∧ Ext s0 s ∧ Le kj s ∧ kq = kn ∧ f 36 = vb kq ∧ f 1 = vi (a1) ∧ f 2 = vi (a2) ∧ f 9 = vi (j4) ∧ f 11 = vi (jq) ∧ f 13 = w0 ∧ f 14 = vi ((a0.length : Int)) ∧ f 15 = vi (j4) ∧ f 20 = jl ∧ f 21 = vi ((jh.length : Int)) ∧ f 22 = vi (jq)) ?_ ?_
       ·have hr := ko
        refine W_region (fa fld55_0 Item.of_Kind (rv (Value.pointer (some ⟨ke, 0, none⟩))) kl (fun kr ks => li ty3 (rv kr) ks (mv jy (el (rv (vi (k7.Kind))) (rv (vi a1)) (mv (rv (vb (decide (k7.Kind = a1)))) ?_)))))
        rcases tf (decide (k7.Kind = a1)) with kt | kt
        ·have hr := ite_t kt hr; exact gt 31 (rv (vb (decide (k7.Kind = a1)))) kt (fa fld55_1 Item.of_No (rv (Value.pointer (some ⟨ke, 0, none⟩))) kl (fun ku kv => gt 31 (rv (vb (decide (k7.Kind = a1)))) kt (li ty3 (rv ku) kv (gt 31 (rv (vb (decide (k7.Kind = a1)))) kt (mv jz (gt 31 (rv (vb (decide (k7.Kind = a1)))) kt (el (rv (vi (k7.No))) (rv (vi a2)) (pt (rv (vb (decide (k7.Kind = a1)))) kt (rv (vb (decide (k7.No = a2)))) (nn ⟨kj, (decide (k7.No = a2)), rfl, km, (Le.refl _), Option.some.inj hr, rfl, jy, jz, k0, rfl, k1, k2, k3, k4, k5, jx⟩)))))))))
        ·have hr := ite_f kt hr; exact gf 31 (rv (vb (decide (k7.Kind = a1)))) kt (gf 31 (rv (vb (decide (k7.Kind = a1)))) kt (gf 31 (rv (vb (decide (k7.Kind = a1)))) kt (gf 31 (rv (vb (decide (k7.Kind = a1)))) kt (pf (rv (vb (decide (k7.Kind = a1)))) kt (rv (vb false)) (nn ⟨kj, false, rfl, km, (Le.refl _), Option.some.inj hr, rfl, jy, jz, k0, rfl, k1, k2, k3, k4, k5, jx⟩)))))
       ·rintro kr ks ⟨kt, kq, rfl, ku, kv, ko, kw, kx, ky, kz, g0, g1, g2, g3, g4, g5, g6⟩
        subst ko
        have hr := kp
        try dsimp only at hr
        refine W_cond _ kw (fun g7 => ?_) (fun g7 => ?_)
        ·have hr := ite_t g7 hr; refine sr (mv kz (mv g0 (asg (rv (vi j4)) (asg (rv (vi jq)) (asg (rv (vb true)) (nn (W_ret (block_r (then_r (then_r (block_r ?_))))))))))); obtain rfl := Option.some.inj hr; have hr := jp; (try dsimp only at hr); refine then_r (block_r (then_r (then_r (block_r ?_)))); obtain rfl := Option.some.inj hr; have hr := j3; (try dsimp only at hr); refine then_r (then_r ?_); obtain rfl := Option.some.inj hr; exact done3 (Or.inl rfl) Try.results22 rfl rfl rfl ⟨_, _, rfl, rfl, ku, _, _, _, rfl, Vint, Vint, Vbool⟩
        ·have hr := ite_f g7 hr; refine W_skip (block_n (then_n (W_region ?_))); obtain ⟨g8, hr⟩ := chk_some hr; exact ad g6 (rv (vi 1)) g8 (mv (rv (vi (jq + 1))) (nn ⟨jr, Nat.lt_succ_self _, ⟨kt, (jq + 1), rfl, ku, (jw.trans (kf.le.trans (kk.le.trans kv))), hr, rfl, kx, ky, kz, g1, g2, g3, g4, g5⟩⟩))
      ·have hr := ite_f k6 hr; refine W_exit (then_x (then_x (block_here ?_))); exact then_n ⟨ju, rfl, jv, jw, Option.some.inj hr, jy, jz, k1, k2, k3⟩
    ·rintro jq jr ⟨js, rfl, jt, ju, jo, jv, jw, jx, jy, jz⟩; subst jo; have hr := jp; (try dsimp only at hr); refine block_n (then_n (W_region ?_)); obtain ⟨k0, hr⟩ := chk_some hr; exact ad jz (rv (vi 1)) k0 (mv (rv (vi (j4 + 1))) (nn ⟨j5, Nat.lt_succ_self _, ⟨js, (j4 + 1), rfl, jt, (ja.trans ju), hr, rfl, jv, jw, jx, jy⟩⟩))
   ·have hr := ite_f jg hr; refine W_exit (then_x (then_x (block_here ?_))); exact then_n ⟨j8, rfl, j9, ja, Option.some.inj hr⟩
 ·rintro j4 j5 ⟨j6, rfl, j7, j8, j2⟩; subst j2; have hr := j3; (try dsimp only at hr); refine then_n (sr (asg (rv (vi 0)) (asg (rv (vi 0)) (asg (rv (vb false)) (nn (W_ret ?_)))))); obtain rfl := Option.some.inj hr; exact done3 (Or.inl rfl) Try.results22 rfl rfl rfl ⟨_, _, rfl, rfl, j7, _, _, _, rfl, Vint, Vint, Vbool⟩

theorem law14_consistent_ok (N : Nat) (s0 : St) (w0 : Value) (a0 : List (List Item)) (h0 : V s0 w0 a0) (w1 : Value) (a1 : List Int) (h1 : V s0 w1 a1) (r : Bool) (hr : law14_consistent N a0 a1 = some r) :
    Calls Try.prog 20 #[w0, w1] s0.w (Ret s0 fun v s => V s v r) := by
 unfold law14_consistent at hr
 have j0 := Ext.refl s0
 refine Calls_of (n := 64) (args := [w0, w1]) Try.func20 rfl rfl (by simp) (sr (asg (rv (vb false)) (nn (W_seq (sr (mv (rv w0) (ln Try.underlying49 (rv w0) h0 (mv (rv (vi 0)) (nn ?_)))))))))
 obtain ⟨j1, j2, j3⟩ := bind_some hr
 refine W_cut (fun f w => ∃ (s : St), s.w = w ∧ Ext s0 s ∧ Le s0 s ∧ Sum.inl () = j1) ?_ ?_
 ·refine W_block (W_loop (fun m f w => ∃ (s : St) (j4 : Int), s.w = w ∧ Ext s0 s ∧ Le s0 s ∧ law14_consistent_l1 N a0 a1 m j4 = some j1 ∧ f 14 = vi j4 ∧ f 0 = w0 ∧ f 1 = w1 ∧ f 12 = w0 ∧ f 13 = vi ((a0.length : Int))) N ⟨s0, 0, rfl, j0, (Le.refl _), j2, rfl, rfl, rfl, rfl, rfl⟩ ?_)
  rintro j5 j6 j7 ⟨j8, j4, rfl, j9, ja, hr, jb, jc, jd, je, jf⟩
  cases j5 with
  | zero => exact absurd hr (by simp [law14_consistent_l1])
  | succ j5 =>
   rw [law14_consistent_l1.eq_2] at hr
   refine sr (ls jb jf (nn (W_seq ?_)))
   refine W_cond _ (rv (vb (decide (j4 < (a0.length : Int))))) (fun jg => ?_) (fun jg => ?_)
   ·have hr := ite_t jg hr
    refine W_skip (then_n (W_seq (W_block (sr (mv jb ?_)))))
    obtain ⟨jh, ji, hr⟩ := bind_some hr
    refine ix Try.underlying49 ty50.inf je (h0.mono ja) jb ji (fun jj jk => ld ty50 (rv jj) jk (fun jl jm => asg (rv (vi j4)) (asg (rv jl) (nn (sr (mv (rv jl) (ln Try.underlying50 (rv jl) jm (mv (rv (vi 0)) (nn ?_)))))))))
    obtain ⟨jn, jo, jp⟩ := bind_some hr
    refine W_cut (fun f w => ∃ (s : St), s.w = w ∧ Ext s0 s ∧ Le j8 s ∧ Sum.inl () = jn ∧ f 0 = w0 ∧ f 1 = w1 ∧ f 12 = w0 ∧ f 13 = vi ((a0.length : Int)) ∧ f 14 = vi (j4)) ?_ ?_
    ·refine W_block (W_loop (fun m f w => ∃ (s : St) (jq : Int), s.w = w ∧ Ext s0 s ∧ Le j8 s ∧ law14_consistent_l2 N a0 a1 j4 jh m jq = some jn ∧ f 21 = vi jq ∧ f 0 = w0 ∧ f 1 = w1 ∧ f 5 = vi (j4) ∧ f 6 = jl ∧ f 12 = w0 ∧ f 13 = vi ((a0.length : Int)) ∧ f 14 = vi (j4) ∧ f 19 = jl ∧ f 20 = vi ((jh.length : Int))) N ⟨j8, 0, rfl, j9, (Le.refl _), jo, rfl, jc, jd, rfl, rfl, je, jf, jb, rfl, rfl⟩ ?_)
     rintro jr js jt ⟨ju, jq, rfl, jv, jw, hr, jx, jy, jz, k0, k1, k2, k3, k4, k5, k6⟩
     cases jr with
     | zero => exact absurd hr (by simp [law14_consistent_l2])
     | succ jr =>
      rw [law14_consistent_l2.eq_2] at hr
      refine sr (ls jx k6 (nn (W_seq ?_)))
      refine W_cond _ (rv (vb (decide (jq < (jh.length : Int))))) (fun k7 => ?_) (fun k7 => ?_)
      ·have hr := ite_t k7 hr
       refine W_skip (then_n (W_seq (W_block (sr (mv jx ?_)))))
       obtain ⟨k8, k9, hr⟩ := bind_some hr
       refine ix Try.underlying50 ty55.inf k5 (jm.mono jw) jx k9 (fun ka kb => ld ty55 (rv ka) kb (fun kc kd => L_alloc (α := Item) (x := ⟨0, 0⟩) zero55 Item.zero_rel (by decide) (fun ke kf kg kh ki => ?_)))
       have kj := Tch.ext jv kg
       refine asg (rv (vi jq)) (L_store_ro ty55 (rv (Value.pointer (some ⟨kf, 0, none⟩))) (rv kc) (kd.mono kg.le) (ki) (fun kk kl km => ?_))
       have kn := Tch.trans kj kl (fun k hk => Or.inr (by subst hk; exact (Nat.le_trans jv.size kh)))
       refine nn (W_seq ?_)
       obtain ⟨ko, kp, kq⟩ := bind_some hr
       refine W_seq_cut (fun f w => ∃ (s : St) (kr : Bool), s.w = w ∧ Ext s0 s ∧ Le kk s ∧ kr = ko ∧ f 38 = vb kr ∧ f 0 = w0 ∧ f 1 = w1 ∧ f 5 = vi (j4) ∧ f 6 = jl ∧ f 8 = Value.pointer (some ⟨kf, 0, none⟩) ∧ f 12 = w0 ∧ f 13 = vi ((a0.length : Int)) ∧ f 14 = vi (j4) ∧ f 19 = jl ∧ f 20 = vi ((jh.length : Int)) ∧ f 21 = vi (jq)) ?_ ?_
       ·have hr := kp
        refine W_region (fa fld55_0 Item.of_Kind (rv (Value.pointer (some ⟨kf, 0, none⟩))) km (fun ks kt => li ty3 (rv ks) kt (ne (rv (vi (k8.Kind))) (rv (vi 3)) (mv (rv (vb (!decide (k8.Kind = 3)))) ?_))))
        rcases tf (!decide (k8.Kind = 3)) with ku | ku
        ·have hr := ite_t ku hr; exact gf 29 (rv (vb (!decide (k8.Kind = 3)))) ku (gf 29 (rv (vb (!decide (k8.Kind = 3)))) ku (gf 29 (rv (vb (!decide (k8.Kind = 3)))) ku (gf 29 (rv (vb (!decide (k8.Kind = 3)))) ku (gf 29 (rv (vb (!decide (k8.Kind = 3)))) ku (gf 29 (rv (vb (!decide (k8.Kind = 3)))) ku (gf 29 (rv (vb (!decide (k8.Kind = 3)))) ku (gf 29 (rv (vb (!decide (k8.Kind = 3)))) ku (pt (rv (vb (!decide (k8.Kind = 3)))) ku (rv (vb true)) (nn ⟨kk, true, rfl, kn, (Le.refl _), Option.some.inj hr, rfl, jy, jz, k0, k1, rfl, k2, k3, k4, k5, k6, jx⟩)))))))))
        ·have hr := ite_f ku hr; refine gt 29 (rv (vb (!decide (k8.Kind = 3)))) ku (mv k1 (gt 29 (rv (vb (!decide (k8.Kind = 3)))) ku (mv (rv (vi jq)) (gt 29 (rv (vb (!decide (k8.Kind = 3)))) ku (mv jz (gt 29 (rv (vb (!decide (k8.Kind = 3)))) ku (mv k0 (gt 29 (rv (vb (!decide (k8.Kind = 3)))) ku ?_)))))))); obtain ⟨kv, kw, hr⟩ := bind_some hr; refine ix Try.underlying40 ty3.inf (rv w1) (h1.mono (ja.trans (jw.trans (kg.le.trans kl.le)))) (rv (vi j4)) kw (fun kx ky => gt 29 (rv (vb (!decide (k8.Kind = 3)))) ku (li ty3 (rv kx) ky (gt 29 (rv (vb (!decide (k8.Kind = 3)))) ku ?_))); obtain ⟨kz, g0, hr⟩ := bind_some hr; refine L_calls cal21 (args3 (rv jl) (rv (vi jq)) (rv (vi kv))) (law14_past_ok N _ _ _ (jm.mono (jw.trans (kg.le.trans kl.le))) jq kv kz g0) (by decide) (fun g1 g2 g3 g4 => ?_); have g5 := Tch.ext kn g3; obtain rfl := g4.bool; exact gt 29 (rv (vb (!decide (k8.Kind = 3)))) ku (L_not (rv (vb kz)) (by decide) (pf (rv (vb (!decide (k8.Kind = 3)))) ku (rv (vb (!kz))) (nn ⟨g2, (!kz), rfl, g5, g3.le, Option.some.inj hr, rfl, jy, jz, k0, k1, rfl, k2, k3, k4, k5, k6, jx⟩)))
       ·rintro ks kt ⟨ku, kr, rfl, kv, kw, kp, kx, ky, kz, g0, g1, g2, g3, g4, g5, g6, g7, g8⟩
        subst kp
        have hr := kq
        try dsimp only at hr
        refine W_cond _ kx (fun g9 => ?_) (fun g9 => ?_)
        ·have hr := ite_t g9 hr; refine W_exit (then_x (block_here (then_n (W_region ?_)))); obtain ⟨ga, hr⟩ := chk_some hr; exact ad g8 (rv (vi 1)) ga (mv (rv (vi (jq + 1))) (nn ⟨jr, Nat.lt_succ_self _, ⟨ku, (jq + 1), rfl, kv, (jw.trans (kg.le.trans (kl.le.trans kw))), hr, rfl, ky, kz, g0, g1, g3, g4, g5, g6, g7⟩⟩))
        ·have hr := ite_f g9 hr
         refine W_skip (then_n (sr (mv ky (fa fld55_1 Item.of_No g2 (km.mono kw) (fun ga gb => li ty3 (rv ga) gb ?_)))))
         obtain ⟨gc, gd, hr⟩ := bind_some hr
         refine L_calls cal22 (args3 (rv w0) (rv (vi 2)) (rv (vi (k8.No)))) (law14_at_ok N _ _ _ (h0.mono (ja.trans (jw.trans (kg.le.trans (kl.le.trans kw))))) 2 k8.No gc gd) (by decide) (fun gg gh gi gj => ?_)
         have gk := Tch.ext kv gi
         obtain ⟨gl, gm, gn, rfl, go, gp, gq⟩ := gj
         obtain rfl := go.int
         obtain rfl := gp.int
         obtain rfl := gq.bool
         refine mv (rv (Value.tuple #[vi (gc.1), vi (gc.2.1), vb (gc.2.2)])) (xt (rv (Value.tuple #[vi (gc.1), vi (gc.2.1), vb (gc.2.2)])) (k := 0) rfl (xt (rv (Value.tuple #[vi (gc.1), vi (gc.2.1), vb (gc.2.2)])) (k := 1) rfl (xt (rv (Value.tuple #[vi (gc.1), vi (gc.2.1), vb (gc.2.2)])) (k := 2) rfl (asg (rv (vi (gc.1))) (asg (rv (vi (gc.2.1))) (asg (rv (vb (gc.2.2))) (nn ?_)))))))
         obtain ⟨gr, gs, gu⟩ := bind_some hr
         refine W_seq_cut (fun f w => ∃ (s : St) (gv : Bool), s.w = w ∧ Ext s0 s ∧ Le gh s ∧ gv = gr ∧ f 61 = vb gv ∧ f 0 = w0 ∧ f 1 = w1 ∧ f 5 = vi (j4) ∧ f 6 = jl ∧ f 12 = w0 ∧ f 13 = vi ((a0.length : Int)) ∧ f 14 = vi (j4) ∧ f 19 = jl ∧ f 20 = vi ((jh.length : Int)) ∧ f 21 = vi (jq)) ?_ ?_
         ·have hr := gs
          rcases tf (!gc.2.2) with gw | gw
          ·have hr := ite_t gw hr
           refine W_draws mixed (by kernel_rfl) [PV.eq (vb (gc.2.2)), PV.eq (vb (!gc.2.2)), PV.eq (vb (!gc.2.2)), PV.eq (undef), PV.eq (undef), PV.eq (undef), PV.eq (undef), PV.eq (undef), PV.eq (undef), PV.eq (undef), PV.eq (undef), PV.eq (undef), PV.eq (undef), PV.eq (undef), PV.eq (vb true)] (Steps_cons ?_ (Steps_cons ?_ (Steps_cons ?_ (Steps_cons ?_ (Steps_cons ?_ (Steps_cons ?_ (Steps_cons ?_ (Steps_cons ?_ (Steps_cons ?_ (Steps_cons ?_ (Steps_cons ?_ (Steps_cons ?_ (Steps_cons ?_ (Steps_cons ?_ (Steps_cons ?_ Steps_nil))))))))))))))) ?_
           ·intro gx gy gz u0 u1 Q u2; have u3 : gx 11 = vb (gc.2.2) := (u1 11 (by kernel_rfl)).trans rfl; exact mv u3 (fin u2 rfl)
           ·intro gx gy gz u0 u1 Q u2; have u3 : gx 47 = vb (gc.2.2) := u0 0 47 (by kernel_rfl) (by kernel_rfl); exact L_not u3 (by decide) (fin u2 rfl)
           ·intro gx gy gz u0 u1 Q u2; have u3 : gx 48 = vb (!gc.2.2) := u0 1 48 (by kernel_rfl) (by kernel_rfl); exact mv u3 (fin u2 rfl)
           ·intro gx gy gz u0 u1 Q u2; have u3 : gx 49 = vb (!gc.2.2) := u0 2 49 (by kernel_rfl) (by kernel_rfl); exact gf 49 u3 gw (fin u2 rfl)
           ·intro gx gy gz u0 u1 Q u2; have u3 : gx 49 = vb (!gc.2.2) := u0 2 49 (by kernel_rfl) (by kernel_rfl); exact gf 49 u3 gw (fin u2 rfl)
           ·intro gx gy gz u0 u1 Q u2; have u3 : gx 49 = vb (!gc.2.2) := u0 2 49 (by kernel_rfl) (by kernel_rfl); exact gf 49 u3 gw (fin u2 rfl)
           ·intro gx gy gz u0 u1 Q u2; have u3 : gx 49 = vb (!gc.2.2) := u0 2 49 (by kernel_rfl) (by kernel_rfl); exact gf 49 u3 gw (fin u2 rfl)
           ·intro gx gy gz u0 u1 Q u2; have u3 : gx 49 = vb (!gc.2.2) := u0 2 49 (by kernel_rfl) (by kernel_rfl); exact gf 49 u3 gw (fin u2 rfl)
           ·intro gx gy gz u0 u1 Q u2; have u3 : gx 49 = vb (!gc.2.2) := u0 2 49 (by kernel_rfl) (by kernel_rfl); exact gf 49 u3 gw (fin u2 rfl)
           ·intro gx gy gz u0 u1 Q u2; have u3 : gx 49 = vb (!gc.2.2) := u0 2 49 (by kernel_rfl) (by kernel_rfl); exact gf 49 u3 gw (fin u2 rfl)
           ·intro gx gy gz u0 u1 Q u2; have u3 : gx 49 = vb (!gc.2.2) := u0 2 49 (by kernel_rfl) (by kernel_rfl); exact gf 49 u3 gw (fin u2 rfl)
           ·intro gx gy gz u0 u1 Q u2; have u3 : gx 49 = vb (!gc.2.2) := u0 2 49 (by kernel_rfl) (by kernel_rfl); exact gf 49 u3 gw (fin u2 rfl)
           ·intro gx gy gz u0 u1 Q u2; have u3 : gx 49 = vb (!gc.2.2) := u0 2 49 (by kernel_rfl) (by kernel_rfl); exact gf 49 u3 gw (fin u2 rfl)
           ·intro gx gy gz u0 u1 Q u2; have u3 : gx 49 = vb (!gc.2.2) := u0 2 49 (by kernel_rfl) (by kernel_rfl); exact gf 49 u3 gw (fin u2 rfl)
           ·intro gx gy gz u0 u1 Q u2; have u3 : gx 49 = vb (!gc.2.2) := u0 2 49 (by kernel_rfl) (by kernel_rfl); exact pt u3 gw (rv (vb true)) (fin u2 rfl)
           ·intro gx gy gz u0 u1; have u2 := Tch.ext gk gz; have u3 : gx 0 = w0 := (u1 0 (by kernel_rfl)).trans ky; have u4 : gx 1 = w1 := (u1 1 (by kernel_rfl)).trans kz; have u5 : gx 5 = vi (j4) := (u1 5 (by kernel_rfl)).trans g0; have u6 : gx 6 = jl := (u1 6 (by kernel_rfl)).trans g1; have u7 : gx 12 = w0 := (u1 12 (by kernel_rfl)).trans g3; have u9 : gx 13 = vi ((a0.length : Int)) := (u1 13 (by kernel_rfl)).trans g4; have ua : gx 14 = vi (j4) := (u1 14 (by kernel_rfl)).trans g5; have ub : gx 19 = jl := (u1 19 (by kernel_rfl)).trans g6; have uc : gx 20 = vi ((jh.length : Int)) := (u1 20 (by kernel_rfl)).trans g7; have ud : gx 21 = vi (jq) := (u1 21 (by kernel_rfl)).trans g8; have ue : gx 61 = vb (true) := u0 14 61 (by kernel_rfl); exact then_n ⟨gy, true, rfl, u2, gz.le, Option.some.inj hr, ue, u3, u4, u5, u6, u7, u9, ua, ub, uc, ud⟩
          ·have hr := ite_f gw hr
           obtain ⟨gx, gy, hr⟩ := bind_some hr
           obtain ⟨gz, u0, hr⟩ := bind_some hr
           obtain ⟨u1, u2, hr⟩ := bind_some hr
           refine W_draws mixed (by kernel_rfl) [PV.eq (vb (gc.2.2)), PV.eq (vb (!gc.2.2)), PV.eq (vb (!gc.2.2)), PV.data (a0 : List (List Item)), PV.eq (vi (gc.1)), PV.ptr (gx : List Item), PV.data (gx : List Item), PV.eq (vi (gc.2.1)), PV.data (a1 : List Int), PV.eq (vi (gc.1)), PV.ptr (gz : Int), PV.eq (vi gz), PV.eq (vb u1), PV.eq (vb (!u1)), PV.eq (vb (!u1))] (Steps_cons ?_ (Steps_cons ?_ (Steps_cons ?_ (Steps_cons ?_ (Steps_cons ?_ (Steps_cons ?_ (Steps_cons ?_ (Steps_cons ?_ (Steps_cons ?_ (Steps_cons ?_ (Steps_cons ?_ (Steps_cons ?_ (Steps_cons ?_ (Steps_cons ?_ (Steps_cons ?_ Steps_nil))))))))))))))) ?_
           ·intro u3 u4 u5 u6 u7 Q u9; have ua : u3 11 = vb (gc.2.2) := (u7 11 (by kernel_rfl)).trans rfl; exact mv ua (fin u9 rfl)
           ·intro u3 u4 u5 u6 u7 Q u9; have ua : u3 47 = vb (gc.2.2) := u6 0 47 (by kernel_rfl) (by kernel_rfl); exact L_not ua (by decide) (fin u9 rfl)
           ·intro u3 u4 u5 u6 u7 Q u9; have ua : u3 48 = vb (!gc.2.2) := u6 1 48 (by kernel_rfl) (by kernel_rfl); exact mv ua (fin u9 rfl)
           ·intro u3 u4 u5 u6 u7 Q u9; have ua : u3 0 = w0 := (u7 0 (by kernel_rfl)).trans ky; have ub : u3 49 = vb (!gc.2.2) := u6 2 49 (by kernel_rfl) (by kernel_rfl); exact gt 49 ub gw (mv ua (fin u9 (h0.mono (ja.trans (jw.trans (kg.le.trans (kl.le.trans (kw.trans (gi.le.trans u5.le)))))))))
           ·intro u3 u4 u5 u6 u7 Q u9; have ua : u3 9 = vi (gc.1) := (u7 9 (by kernel_rfl)).trans rfl; have ub : u3 49 = vb (!gc.2.2) := u6 2 49 (by kernel_rfl) (by kernel_rfl); exact gt 49 ub gw (mv ua (fin u9 rfl))
           ·intro u3 u4 u5 u6 u7 Q u9; have ua : u3 49 = vb (!gc.2.2) := u6 2 49 (by kernel_rfl) (by kernel_rfl); have ub : V _ (u3 50) (a0 : List (List Item)) := u6 3 50 (by kernel_rfl) (by kernel_rfl); obtain ⟨uc, ud, ue⟩ : ∃ v, _ = v ∧ V _ v _ := ⟨_, rfl, ub⟩; have uf : u3 51 = vi (gc.1) := u6 4 51 (by kernel_rfl) (by kernel_rfl); exact gt 49 ua gw (ix Try.underlying49 ty50.inf ud ue uf gy (fun ug uh => fin u9 uh))
           ·intro u3 u4 u5 u6 u7 Q u9; have ua : u3 49 = vb (!gc.2.2) := u6 2 49 (by kernel_rfl) (by kernel_rfl); have ub : Ptr _ (u3 52) (gx : List Item) := u6 5 52 (by kernel_rfl) (by kernel_rfl); obtain ⟨uc, ud, ue⟩ : ∃ v, _ = v ∧ Ptr _ v _ := ⟨_, rfl, ub⟩; exact gt 49 ua gw (ld ty50 ud ue (fun uf ug => fin u9 ug))
           ·intro u3 u4 u5 u6 u7 Q u9; have ua : u3 10 = vi (gc.2.1) := (u7 10 (by kernel_rfl)).trans rfl; have ub : u3 49 = vb (!gc.2.2) := u6 2 49 (by kernel_rfl) (by kernel_rfl); exact gt 49 ub gw (mv ua (fin u9 rfl))
           ·intro u3 u4 u5 u6 u7 Q u9; have ua : u3 1 = w1 := (u7 1 (by kernel_rfl)).trans kz; have ub : u3 49 = vb (!gc.2.2) := u6 2 49 (by kernel_rfl) (by kernel_rfl); exact gt 49 ub gw (mv ua (fin u9 (h1.mono (ja.trans (jw.trans (kg.le.trans (kl.le.trans (kw.trans (gi.le.trans u5.le)))))))))
           ·intro u3 u4 u5 u6 u7 Q u9; have ua : u3 9 = vi (gc.1) := (u7 9 (by kernel_rfl)).trans rfl; have ub : u3 49 = vb (!gc.2.2) := u6 2 49 (by kernel_rfl) (by kernel_rfl); exact gt 49 ub gw (mv ua (fin u9 rfl))
           ·intro u3 u4 u5 u6 u7 Q u9; have ua : u3 49 = vb (!gc.2.2) := u6 2 49 (by kernel_rfl) (by kernel_rfl); have ub : V _ (u3 55) (a1 : List Int) := u6 8 55 (by kernel_rfl) (by kernel_rfl); obtain ⟨uc, ud, ue⟩ : ∃ v, _ = v ∧ V _ v _ := ⟨_, rfl, ub⟩; have uf : u3 56 = vi (gc.1) := u6 9 56 (by kernel_rfl) (by kernel_rfl); exact gt 49 ua gw (ix Try.underlying40 ty3.inf ud ue uf u0 (fun ug uh => fin u9 uh))
           ·intro u3 u4 u5 u6 u7 Q u9; have ua : u3 49 = vb (!gc.2.2) := u6 2 49 (by kernel_rfl) (by kernel_rfl); have ub : Ptr _ (u3 57) (gz : Int) := u6 10 57 (by kernel_rfl) (by kernel_rfl); obtain ⟨uc, ud, ue⟩ : ∃ v, _ = v ∧ Ptr _ v _ := ⟨_, rfl, ub⟩; exact gt 49 ua gw (li ty3 ud ue (fin u9 rfl))
           ·intro u3 u4 u5 u6 u7 Q u9; have ua : u3 49 = vb (!gc.2.2) := u6 2 49 (by kernel_rfl) (by kernel_rfl); have ub : V _ (u3 53) (gx : List Item) := u6 6 53 (by kernel_rfl) (by kernel_rfl); obtain ⟨uc, ud, ue⟩ : ∃ v, _ = v ∧ V _ v _ := ⟨_, rfl, ub⟩; have uf : u3 54 = vi (gc.2.1) := u6 7 54 (by kernel_rfl) (by kernel_rfl); have ug : u3 58 = vi (gz) := u6 11 58 (by kernel_rfl) (by kernel_rfl); refine gt 49 ua gw (L_calls cal21 (args3 ud uf ug) (law14_past_ok N _ _ _ ue gc.2.1 gz u1 u2) (by decide) (fun uh ui uj uk => ?_)); have ul := Tch.ext (Ext.refl u4) uj; obtain rfl := uk.bool; exact L_nil (u9 _ _ ul rfl)
           ·intro u3 u4 u5 u6 u7 Q u9; have ua : u3 49 = vb (!gc.2.2) := u6 2 49 (by kernel_rfl) (by kernel_rfl); have ub : u3 59 = vb (u1) := u6 12 59 (by kernel_rfl) (by kernel_rfl); exact gt 49 ua gw (L_not ub (by decide) (fin u9 rfl))
           ·intro u3 u4 u5 u6 u7 Q u9; have ua : u3 49 = vb (!gc.2.2) := u6 2 49 (by kernel_rfl) (by kernel_rfl); have ub : u3 60 = vb (!u1) := u6 13 60 (by kernel_rfl) (by kernel_rfl); exact pf ua gw ub (fin u9 rfl)
           ·intro u3 u4 u5 u6 u7; have u9 := Tch.ext gk u5; have ua : u3 0 = w0 := (u7 0 (by kernel_rfl)).trans ky; have ub : u3 1 = w1 := (u7 1 (by kernel_rfl)).trans kz; have uc : u3 5 = vi (j4) := (u7 5 (by kernel_rfl)).trans g0; have ud : u3 6 = jl := (u7 6 (by kernel_rfl)).trans g1; have ue : u3 12 = w0 := (u7 12 (by kernel_rfl)).trans g3; have uf : u3 13 = vi ((a0.length : Int)) := (u7 13 (by kernel_rfl)).trans g4; have ug : u3 14 = vi (j4) := (u7 14 (by kernel_rfl)).trans g5; have uh : u3 19 = jl := (u7 19 (by kernel_rfl)).trans g6; have ui : u3 20 = vi ((jh.length : Int)) := (u7 20 (by kernel_rfl)).trans g7; have uj : u3 21 = vi (jq) := (u7 21 (by kernel_rfl)).trans g8; have uk : u3 61 = vb (!u1) := u6 14 61 (by kernel_rfl); exact then_n ⟨u4, (!u1), rfl, u9, u5.le, Option.some.inj hr, uk, ua, ub, uc, ud, ue, uf, ug, uh, ui, uj⟩
         ·rintro gw gx ⟨gy, gv, rfl, gz, u0, gs, u1, u2, u3, u4, u5, u6, u7, u9, ua, ub, uc⟩
          subst gs
          have hr := gu
          try dsimp only at hr
          refine W_cond _ u1 (fun ud => ?_) (fun ud => ?_)
          ·have hr := ite_t ud hr; refine sr (asg (rv (vb false)) (nn (W_ret (block_r (then_r (then_r (block_r ?_))))))); obtain rfl := Option.some.inj hr; have hr := jp; (try dsimp only at hr); refine then_r (block_r (then_r (then_r (block_r ?_)))); obtain rfl := Option.some.inj hr; have hr := j3; (try dsimp only at hr); refine then_r (then_r ?_); obtain rfl := Option.some.inj hr; exact done1 (Or.inl rfl) Try.results20 rfl ⟨_, _, rfl, rfl, gz, Vbool⟩
          ·have hr := ite_f ud hr; refine W_skip (block_n (then_n (W_region ?_))); obtain ⟨ue, hr⟩ := chk_some hr; exact ad uc (rv (vi 1)) ue (mv (rv (vi (jq + 1))) (nn ⟨jr, Nat.lt_succ_self _, ⟨gy, (jq + 1), rfl, gz, (jw.trans (kg.le.trans (kl.le.trans (kw.trans (gi.le.trans u0))))), hr, rfl, u2, u3, u4, u5, u6, u7, u9, ua, ub⟩⟩))
      ·have hr := ite_f k7 hr; refine W_exit (then_x (then_x (block_here ?_))); exact then_n ⟨ju, rfl, jv, jw, Option.some.inj hr, jy, jz, k2, k3, k4⟩
    ·rintro jq jr ⟨js, rfl, jt, ju, jo, jv, jw, jx, jy, jz⟩; subst jo; have hr := jp; (try dsimp only at hr); refine block_n (then_n (W_region ?_)); obtain ⟨k0, hr⟩ := chk_some hr; exact ad jz (rv (vi 1)) k0 (mv (rv (vi (j4 + 1))) (nn ⟨j5, Nat.lt_succ_self _, ⟨js, (j4 + 1), rfl, jt, (ja.trans ju), hr, rfl, jv, jw, jx, jy⟩⟩))
   ·have hr := ite_f jg hr; refine W_exit (then_x (then_x (block_here ?_))); exact then_n ⟨j8, rfl, j9, ja, Option.some.inj hr⟩
 ·rintro j4 j5 ⟨j6, rfl, j7, j8, j2⟩; subst j2; have hr := j3; (try dsimp only at hr); refine then_n (sr (asg (rv (vb true)) (nn (W_ret ?_)))); obtain rfl := Option.some.inj hr; exact done1 (Or.inl rfl) Try.results20 rfl ⟨_, _, rfl, rfl, j7, Vbool⟩

theorem law14_among_ok (N : Nat) (s0 : St) (w0 : Value) (a0 : List Int) (h0 : V s0 w0 a0) (a1 : Int) (r : Bool) (hr : law14_among N a0 a1 = some r) :
    Calls Try.prog 23 #[w0, .int .i64 a1] s0.w (Ret s0 fun v s => V s v r) := by
 unfold law14_among at hr
 have j0 := Ext.refl s0
 refine Calls_of (n := 17) (args := [w0, .int .i64 a1]) Try.func23 rfl rfl (by simp) (sr (asg (rv (vb false)) (nn (W_seq (sr (mv (rv w0) (ln Try.underlying40 (rv w0) h0 (mv (rv (vi 0)) (nn ?_)))))))))
 obtain ⟨j1, j2, j3⟩ := bind_some hr
 refine W_cut (fun f w => ∃ (s : St), s.w = w ∧ Ext s0 s ∧ Le s0 s ∧ Sum.inl () = j1) ?_ ?_
 ·refine W_block (W_loop (fun m f w => ∃ (s : St) (j4 : Int), s.w = w ∧ Ext s0 s ∧ Le s0 s ∧ law14_among_l1 N a0 a1 m j4 = some j1 ∧ f 9 = vi j4 ∧ f 1 = vi (a1) ∧ f 7 = w0 ∧ f 8 = vi ((a0.length : Int))) N ⟨s0, 0, rfl, j0, (Le.refl _), j2, rfl, rfl, rfl, rfl⟩ ?_)
  rintro j5 j6 j7 ⟨j8, j4, rfl, j9, ja, hr, jb, jc, jd, je⟩
  cases j5 with
  | zero => exact absurd hr (by simp [law14_among_l1])
  | succ j5 =>
   rw [law14_among_l1.eq_2] at hr
   refine sr (ls jb je (nn (W_seq ?_)))
   refine W_cond _ (rv (vb (decide (j4 < (a0.length : Int))))) (fun jf => ?_) (fun jf => ?_)
   ·have hr := ite_t jf hr
    refine W_skip (then_n (W_seq (W_block (sr ?_))))
    obtain ⟨jg, jh, hr⟩ := bind_some hr
    refine ix Try.underlying40 ty3.inf jd (h0.mono ja) jb jh (fun ji jj => li ty3 (rv ji) jj (asg (rv (vi jg)) (nn (sr (mv (rv (vi jg)) (mv jc (el (rv (vi jg)) (rv (vi a1)) (nn ?_))))))))
    refine W_cond _ (rv (vb (decide (jg = a1)))) (fun jk => ?_) (fun jk => ?_)
    ·have hr := ite_t jk hr; refine sr (asg (rv (vb true)) (nn (W_ret (block_r (then_r (then_r (block_r ?_))))))); obtain rfl := Option.some.inj hr; have hr := j3; (try dsimp only at hr); refine then_r (then_r ?_); obtain rfl := Option.some.inj hr; exact done1 (Or.inl rfl) Try.results23 rfl ⟨_, _, rfl, rfl, j9, Vbool⟩
    ·have hr := ite_f jk hr; refine W_skip (block_n (then_n (W_region ?_))); obtain ⟨jl, hr⟩ := chk_some hr; exact ad jb (rv (vi 1)) jl (mv (rv (vi (j4 + 1))) (nn ⟨j5, Nat.lt_succ_self _, ⟨j8, (j4 + 1), rfl, j9, ja, hr, rfl, jc, jd, je⟩⟩))
   ·have hr := ite_f jf hr; refine W_exit (then_x (then_x (block_here ?_))); exact then_n ⟨j8, rfl, j9, ja, Option.some.inj hr⟩
 ·rintro j4 j5 ⟨j6, rfl, j7, j8, j2⟩; subst j2; have hr := j3; (try dsimp only at hr); refine then_n (sr (asg (rv (vb false)) (nn (W_ret ?_)))); obtain rfl := Option.some.inj hr; exact done1 (Or.inl rfl) Try.results23 rfl ⟨_, _, rfl, rfl, j7, Vbool⟩

theorem slices_IndexFunc_LLcheck_Item_Lcheck_Item_ok (N : Nat) (s0 : St) (w0 : Value) (a0 : List (List Item)) (h0 : V s0 w0 a0) (w1 : Value) (a1 : (List Item) → Option Bool) (h1 : Fn1 Try.prog s0 w1 a1) (r : Int) (hr : slices_IndexFunc_LLcheck_Item_Lcheck_Item N a0 a1 = some r) :
    Calls Try.prog 92 #[w0, w1] s0.w (Ret s0 fun v s => V s v r) := by
 unfold slices_IndexFunc_LLcheck_Item_Lcheck_Item at hr
 have j0 := Ext.refl s0
 refine Calls_of (n := 19) (args := [w0, w1]) Try.func92 rfl rfl (by simp) (sr (asg (rv (vi 0)) (nn (W_seq (sr (mv (rv w0) (ln Try.underlying49 (rv w0) h0 (mv (rv (vi 0)) (nn ?_)))))))))
 obtain ⟨j1, j2, j3⟩ := bind_some hr
 refine W_cut (fun f w => ∃ (s : St), s.w = w ∧ Ext s0 s ∧ Le s0 s ∧ Sum.inl () = j1) ?_ ?_
 ·refine W_block (W_loop (fun m f w => ∃ (s : St) (j4 : Int), s.w = w ∧ Ext s0 s ∧ Le s0 s ∧ slices_IndexFunc_LLcheck_Item_Lcheck_Item_l1 N a0 a1 m j4 = some j1 ∧ f 8 = vi j4 ∧ f 0 = w0 ∧ f 1 = w1 ∧ f 7 = vi ((a0.length : Int))) N ⟨s0, 0, rfl, j0, (Le.refl _), j2, rfl, rfl, rfl, rfl⟩ ?_)
  rintro j5 j6 j7 ⟨j8, j4, rfl, j9, ja, hr, jb, jc, jd, je⟩
  cases j5 with
  | zero => exact absurd hr (by simp [slices_IndexFunc_LLcheck_Item_Lcheck_Item_l1])
  | succ j5 =>
   rw [slices_IndexFunc_LLcheck_Item_Lcheck_Item_l1.eq_2] at hr
   refine sr (ls jb je (nn (W_seq ?_)))
   refine W_cond _ (rv (vb (decide (j4 < (a0.length : Int))))) (fun jf => ?_) (fun jf => ?_)
   ·have hr := ite_t jf hr
    refine W_skip (then_n (W_seq (W_block (sr (mv jb (asg (rv (vi j4)) (nn (sr (mv jd (mv jc (mv (rv (vi j4)) ?_)))))))))))
    obtain ⟨jg, jh, hr⟩ := bind_some hr
    refine ix Try.underlying49 ty50.inf (rv w0) (h0.mono ja) (rv (vi j4)) jh (fun ji jj => ld ty50 (rv ji) jj (fun jk jl => ?_))
    obtain ⟨jm, jn, hr⟩ := bind_some hr
    refine L_call1 (rv w1) (h1.mono ja) (rv jk) jl jn (by decide) (fun jo jp jq jr => ?_)
    have js := Tch.ext j9 jq
    obtain rfl := jr.bool
    refine nn ?_
    refine W_cond _ (rv (vb jm)) (fun jt => ?_) (fun jt => ?_)
    ·have hr := ite_t jt hr; refine sr (mv (rv (vi j4)) (asg (rv (vi j4)) (nn (W_ret (block_r (then_r (then_r (block_r ?_)))))))); obtain rfl := Option.some.inj hr; have hr := j3; (try dsimp only at hr); refine then_r (then_r ?_); obtain rfl := Option.some.inj hr; exact done1 (Or.inl rfl) Try.results92 rfl ⟨_, _, rfl, rfl, js, Vint⟩
    ·have hr := ite_f jt hr; refine W_skip (block_n (then_n (W_region ?_))); obtain ⟨ju, hr⟩ := chk_some hr; exact ad jb (rv (vi 1)) ju (mv (rv (vi (j4 + 1))) (nn ⟨j5, Nat.lt_succ_self _, ⟨jp, (j4 + 1), rfl, js, (ja.trans jq.le), hr, rfl, jc, jd, je⟩⟩))
   ·have hr := ite_f jf hr; refine W_exit (then_x (then_x (block_here ?_))); exact then_n ⟨j8, rfl, j9, ja, Option.some.inj hr⟩
 ·rintro j4 j5 ⟨j6, rfl, j7, j8, j2⟩; subst j2; have hr := j3; (try dsimp only at hr); refine then_n (sr (asg (rv (vi (-1))) (nn (W_ret ?_)))); obtain rfl := Option.some.inj hr; exact done1 (Or.inl rfl) Try.results92 rfl ⟨_, _, rfl, rfl, j7, Vint⟩

theorem slices_ContainsFunc_LLcheck_Item_Lcheck_Item_ok (N : Nat) (s0 : St) (w0 : Value) (a0 : List (List Item)) (h0 : V s0 w0 a0) (w1 : Value) (a1 : (List Item) → Option Bool) (h1 : Fn1 Try.prog s0 w1 a1) (r : Bool) (hr : slices_ContainsFunc_LLcheck_Item_Lcheck_Item N a0 a1 = some r) :
    Calls Try.prog 82 #[w0, w1] s0.w (Ret s0 fun v s => V s v r) := by
 unfold slices_ContainsFunc_LLcheck_Item_Lcheck_Item at hr
 have j0 := Ext.refl s0
 refine Calls_of (n := 9) (args := [w0, w1]) Try.func82 rfl rfl (by simp) (sr (asg (rv (vb false)) (nn (sr (mv (rv w0) (mv (rv w1) ?_))))))
 obtain ⟨j1, j2, hr⟩ := bind_some hr
 refine L_calls cal92 (args2 (rv w0) (rv w1)) (slices_IndexFunc_LLcheck_Item_Lcheck_Item_ok N _ _ _ h0 _ a1 h1 j1 j2) (by decide) (fun j3 j4 j5 j6 => ?_)
 have j7 := Tch.ext j0 j5
 obtain rfl := j6.int
 refine L_geq (rv (vi j1)) (rv (vi 0)) (by decide) (asg (rv (vb (decide (0 ≤ j1)))) (nn (W_ret ?_)))
 obtain rfl := Option.some.inj hr
 exact done1 (Or.inl rfl) Try.results82 rfl ⟨_, _, rfl, rfl, j7, Vbool⟩

theorem check_passages_1_ok (N : Nat) (s0 : St) (w0 : Value) (a0 : List Item) (h0 : V s0 w0 a0) (r : Bool) (hr : check_passages_1 N a0 = some r) :
    Calls Try.prog 83 #[w0] s0.w (Ret s0 fun v s => V s v r) := by
 unfold check_passages_1 at hr
 have j0 := Ext.refl s0
 refine Calls_of (n := 6) (args := [w0]) Try.func83 rfl rfl (by simp) (sr (asg (rv (vb false)) (nn (sr (mv (rv w0) (ln Try.underlying50 (rv w0) h0 (L_gtr (rv (vi ((a0.length : Int)))) (rv (vi 100)) (by decide) (asg (rv (vb (decide (100 < (a0.length : Int))))) (nn (W_ret ?_))))))))))
 obtain rfl := Option.some.inj hr
 exact done1 (Or.inl rfl) Try.results83 rfl ⟨_, _, rfl, rfl, j0, Vbool⟩

end Go.Arm
