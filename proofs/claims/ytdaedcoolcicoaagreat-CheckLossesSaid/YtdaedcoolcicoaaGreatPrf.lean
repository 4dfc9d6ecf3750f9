/- A part of the proof. -/
import Derived.Test.YtdaedcoolcicoaaGreatPure
import Derived.Test.YtdaedcoolcicoaaGreatCoreI
namespace Go.Arm
open Go Go.RowKit Go.Proofs
variable {σ : Type}
theorem slices_IndexFunc_Lcheck_Level_check_Level_ok (N : Nat) (s0 : St) (w0 : Value) (a0 : List Level) (h0 : V s0 w0 a0) (w1 : Value) (a1 : Level → Option Bool) (h1 : Fn1 Tryz.prog s0 w1 a1) (r : Int) (hr : slices_IndexFunc_Lcheck_Level_check_Level N a0 a1 = some r) :
    Calls Tryz.prog 131 #[w0, w1] s0.w (Ret s0 fun v s => V s v r) := by
 unfold slices_IndexFunc_Lcheck_Level_check_Level at hr
 have j0 := Ext.refl s0
 refine Calls_of (n := 19) (args := [w0, w1]) Tryz.func131 rfl rfl (by simp) (sr (asg (rv (vi 0)) (nn (W_seq (sr (mv (rv w0) (ln Tryz.underlying43 (rv w0) h0 (mv (rv (vi 0)) (nn ?_)))))))))
 obtain ⟨j1, j2, j3⟩ := bind_some hr
 refine W_cut (fun f w => ∃ (s : St), s.w = w ∧ Ext s0 s ∧ Le s0 s ∧ Sum.inl () = j1) ?_ ?_
 ·refine W_block (W_loop (fun m f w => ∃ (s : St) (j4 : Int), s.w = w ∧ Ext s0 s ∧ Le s0 s ∧ slices_IndexFunc_Lcheck_Level_check_Level_l1 N a0 a1 m j4 = some j1 ∧ f 8 = vi j4 ∧ f 0 = w0 ∧ f 1 = w1 ∧ f 7 = vi ((a0.length : Int))) N ⟨s0, 0, rfl, j0, (Le.refl _), j2, rfl, rfl, rfl, rfl⟩ ?_)
  rintro j5 j6 j7 ⟨j8, j4, rfl, j9, ja, hr, jb, jc, jd, je⟩
  cases j5 with
  | zero => exact absurd hr (by simp [slices_IndexFunc_Lcheck_Level_check_Level_l1])
  | succ j5 =>
   rw [slices_IndexFunc_Lcheck_Level_check_Level_l1.eq_2] at hr
   refine sr (ls jb je (nn (W_seq ?_)))
   refine W_cond _ (rv (vb (decide (j4 < (a0.length : Int))))) (fun jf => ?_) (fun jf => ?_)
   ·have hr := ite_t jf hr
    refine W_skip (then_n (W_seq (W_block (sr (mv jb (asg (rv (vi j4)) (nn (sr (mv jd (mv jc (mv (rv (vi j4)) ?_)))))))))))
    obtain ⟨jg, jh, hr⟩ := bind_some hr
    refine ix Tryz.underlying43 ty103.inf (rv w0) (h0.mono ja) (rv (vi j4)) jh (fun ji jj => ld ty103 (rv ji) jj (fun jk jl => ?_))
    obtain ⟨jm, jn, hr⟩ := bind_some hr
    refine L_call1 (rv w1) (h1.mono ja) (rv jk) jl jn (by decide) (fun jo jp jq jr => ?_)
    have js := Tch.ext j9 jq
    obtain rfl := jr.bool
    refine nn ?_
    refine W_cond _ (rv (vb jm)) (fun jt => ?_) (fun jt => ?_)
    ·have hr := ite_t jt hr; refine sr (mv (rv (vi j4)) (asg (rv (vi j4)) (nn (W_ret (block_r (then_r (then_r (block_r ?_)))))))); obtain rfl := Option.some.inj hr; have hr := j3; (try dsimp only at hr); refine then_r (then_r ?_); obtain rfl := Option.some.inj hr; exact done1 (Or.inl rfl) Tryz.results131 rfl ⟨_, _, rfl, rfl, js, Vint⟩
    ·have hr := ite_f jt hr; refine W_skip (block_n (then_n (W_region ?_))); obtain ⟨ju, hr⟩ := chk_some hr; exact ad jb (rv (vi 1)) ju (mv (rv (vi (j4 + 1))) (nn ⟨j5, Nat.lt_succ_self _, ⟨jp, (j4 + 1), rfl, js, (ja.trans jq.le), hr, rfl, jc, jd, je⟩⟩))
   ·have hr := ite_f jf hr; refine W_exit (then_x (then_x (block_here ?_))); exact then_n ⟨j8, rfl, j9, ja, Option.some.inj hr⟩
 ·rintro j4 j5 ⟨j6, rfl, j7, j8, j2⟩; subst j2; have hr := j3; (try dsimp only at hr); refine then_n (sr (asg (rv (vi (-1))) (nn (W_ret ?_)))); obtain rfl := Option.some.inj hr; exact done1 (Or.inl rfl) Tryz.results131 rfl ⟨_, _, rfl, rfl, j7, Vint⟩

theorem slices_ContainsFunc_Lcheck_Level_check_Level_ok (N : Nat) (s0 : St) (w0 : Value) (a0 : List Level) (h0 : V s0 w0 a0) (w1 : Value) (a1 : Level → Option Bool) (h1 : Fn1 Tryz.prog s0 w1 a1) (r : Bool) (hr : slices_ContainsFunc_Lcheck_Level_check_Level N a0 a1 = some r) :
    Calls Tryz.prog 114 #[w0, w1] s0.w (Ret s0 fun v s => V s v r) := by
 unfold slices_ContainsFunc_Lcheck_Level_check_Level at hr
 have j0 := Ext.refl s0
 refine Calls_of (n := 9) (args := [w0, w1]) Tryz.func114 rfl rfl (by simp) (sr (asg (rv (vb false)) (nn (sr (mv (rv w0) (mv (rv w1) ?_))))))
 obtain ⟨j1, j2, hr⟩ := bind_some hr
 refine L_calls cal131 (args2 (rv w0) (rv w1)) (slices_IndexFunc_Lcheck_Level_check_Level_ok N _ _ _ h0 _ a1 h1 j1 j2) (by decide) (fun j3 j4 j5 j6 => ?_)
 have j7 := Tch.ext j0 j5
 obtain rfl := j6.int
 refine L_geq (rv (vi j1)) (rv (vi 0)) (by decide) (asg (rv (vb (decide (0 ≤ j1)))) (nn (W_ret ?_)))
 obtain rfl := Option.some.inj hr
 exact done1 (Or.inl rfl) Tryz.results114 rfl ⟨_, _, rfl, rfl, j7, Vbool⟩

theorem check_levelled_1_ok (N : Nat) (s0 : St) (a0 : Int) (r : Bool) (hr : check_levelled_1 N a0 = some r) :
    Calls Tryz.prog 113 #[.int .i64 a0] s0.w (Ret s0 fun v s => V s v r) := by
 unfold check_levelled_1 at hr
 have j0 := Ext.refl s0
 refine Calls_of (n := 9) (args := [.int .i64 a0]) Tryz.func113 rfl rfl (by simp) (sr (asg (rv (vb false)) (nn (sr (mv (rv (vi a0)) (ls (rv (vi a0)) (rv (vi 1)) (mv (rv (vb (decide (a0 < 1)))) ?_)))))))
 rcases tf (decide (a0 < 1)) with j1 | j1
 ·have hr := ite_t j1 hr; refine gf 5 (rv (vb (decide (a0 < 1)))) j1 (gf 5 (rv (vb (decide (a0 < 1)))) j1 (pt (rv (vb (decide (a0 < 1)))) j1 (rv (vb true)) (asg (rv (vb true)) (nn (W_ret ?_))))); obtain rfl := Option.some.inj hr; exact done1 (Or.inl rfl) Tryz.results113 rfl ⟨_, _, rfl, rfl, j0, Vbool⟩
 ·have hr := ite_f j1 hr; refine gt 5 (rv (vb (decide (a0 < 1)))) j1 (mv (rv (vi a0)) (gt 5 (rv (vb (decide (a0 < 1)))) j1 (L_gtr (rv (vi a0)) (rv (vi 1024)) (by decide) (pf (rv (vb (decide (a0 < 1)))) j1 (rv (vb (decide (1024 < a0)))) (asg (rv (vb (decide (1024 < a0)))) (nn (W_ret ?_))))))); obtain rfl := Option.some.inj hr; exact done1 (Or.inl rfl) Tryz.results113 rfl ⟨_, _, rfl, rfl, j0, Vbool⟩

theorem check_levelled_2_ok (N : Nat) (s0 : St) (w0 : Value) (a0 : Level) (h0 : V s0 w0 a0) (w1 : Value) (h1 : CellRO s0 w1 (Value.func (.func 113) #[] #[])) (r : Bool) (hr : check_levelled_2 N a0 = some r) :
    Calls Tryz.prog 115 #[w0, w1] s0.w (Ret s0 fun v s => V s v r) := by
 unfold check_levelled_2 at hr
 have j0 := Ext.refl s0
 refine Calls_of (n := 14) (args := [w0, w1]) Tryz.func115 rfl rfl (by simp) (sr (L_box (rv w0) h0 (by decide) (fun j1 j2 j3 j4 => ?_)))
 have j5 := Tch.ext j0 j3
 refine asg (rv (vb false)) (nn (sr (L_load_cell Tryz.underlying126 rfl (rv w1) (h1.mono j3.le) (by decide) (fa fld103_0 Level.of_Cost (rv j2) j4 (fun j6 j7 => li ty3 (rv j6) j7 ?_)))))
 obtain ⟨j8, j9, hr⟩ := bind_some hr
 refine L_callv0 cal113 (rv (Value.func (.func 113) #[] #[])) (args1 (rv (vi (a0.Cost)))) (check_levelled_1_ok N _ a0.Cost j8 j9) (by decide) (fun ja jb jc jd => ?_)
 have je := Tch.ext j5 jc
 obtain rfl := jd.bool
 refine mv (rv (vb j8)) ?_
 rcases tf (j8) with jf | jf
 ·have hr := ite_t jf hr; refine gf 8 (rv (vb j8)) jf (gf 8 (rv (vb j8)) jf (gf 8 (rv (vb j8)) jf (gf 8 (rv (vb j8)) jf (pt (rv (vb j8)) jf (rv (vb true)) (asg (rv (vb true)) (nn (W_ret ?_))))))); obtain rfl := Option.some.inj hr; exact done1 (Or.inl rfl) Tryz.results115 rfl ⟨_, _, rfl, rfl, je, Vbool⟩
 ·have hr := ite_f jf hr; refine gt 8 (rv (vb j8)) jf (L_load_cell Tryz.underlying126 rfl (rv w1) (h1.mono (j3.le.trans jc.le)) (by decide) (gt 8 (rv (vb j8)) jf (fa fld103_1 Level.of_Mean (rv j2) (j4.mono jc.le) (fun jg jh => gt 8 (rv (vb j8)) jf (li ty3 (rv jg) jh (gt 8 (rv (vb j8)) jf ?_)))))); obtain ⟨ji, jj, hr⟩ := bind_some hr; refine L_callv0 cal113 (rv (Value.func (.func 113) #[] #[])) (args1 (rv (vi (a0.Mean)))) (check_levelled_1_ok N _ a0.Mean ji jj) (by decide) (fun jk jl jm jn => ?_); have jo := Tch.ext je jm; obtain rfl := jn.bool; refine pf (rv (vb j8)) jf (rv (vb ji)) (asg (rv (vb ji)) (nn (W_ret ?_))); obtain rfl := Option.some.inj hr; exact done1 (Or.inl rfl) Tryz.results115 rfl ⟨_, _, rfl, rfl, jo, Vbool⟩

theorem check_levelled_ok (N : Nat) (s0 : St) (w0 : Value) (a0 : List Level) (h0 : V s0 w0 a0) (r : Int) (hr : check_levelled N a0 = some r) :
    Calls Tryz.prog 63 #[w0] s0.w (Ret s0 fun v s => V s v r) := by
 unfold check_levelled at hr
 have j0 := Ext.refl s0
 refine Calls_of (n := 17) (args := [w0]) Tryz.func63 rfl rfl (by simp) (sr (asg (rv (vi 0)) (nn (sr (L_allocM zero126 (by decide) (fun j1 j2 j3 j4 j5 => ?_))))))
 have j6 := Tch.ext j0 j3
 refine L_store_cell (by kernel_rfl) (rv (Value.pointer (some ⟨j2, 0, none⟩))) (rv (Value.func (.func 113) #[] #[])) rfl rfl (j5) (fun j7 j8 j9 => ?_)
 have ja := Tch.trans j6 j8 (fun k hk => Or.inr (by subst hk; exact (Nat.le_trans j0.size j4)))
 refine nn (W_seq ?_)
 obtain ⟨jb, jc, jd⟩ := bind_some hr
 refine W_seq_cut (fun f w => ∃ (s : St) (je : Bool), s.w = w ∧ Ext s0 s ∧ Le j7 s ∧ je = jb ∧ f 16 = vb je) ?_ ?_
 ·have hr := jc
  refine W_region (mv (rv w0) (ln Tryz.underlying43 (rv w0) (h0.mono (j3.le.trans j8.le)) (ls (rv (vi ((a0.length : Int)))) (rv (vi 1)) (mv (rv (vb (decide ((a0.length : Int) < 1)))) ?_))))
  rcases tf (decide ((a0.length : Int) < 1)) with jf | jf
  ·have hr := ite_t jf hr; exact gf 7 (rv (vb (decide ((a0.length : Int) < 1)))) jf (gf 7 (rv (vb (decide ((a0.length : Int) < 1)))) jf (gf 7 (rv (vb (decide ((a0.length : Int) < 1)))) jf (pt (rv (vb (decide ((a0.length : Int) < 1)))) jf (rv (vb true)) (mv (rv (vb true)) (gf 12 (rv (vb true)) rfl (gf 12 (rv (vb true)) rfl (gf 12 (rv (vb true)) rfl (pt (rv (vb true)) rfl (rv (vb true)) (nn ⟨j7, true, rfl, ja, (Le.refl _), Option.some.inj hr, rfl⟩)))))))))
  ·have hr := ite_f jf hr
   refine gt 7 (rv (vb (decide ((a0.length : Int) < 1)))) jf (mv (rv w0) (gt 7 (rv (vb (decide ((a0.length : Int) < 1)))) jf (ln Tryz.underlying43 (rv w0) (h0.mono (j3.le.trans j8.le)) (gt 7 (rv (vb (decide ((a0.length : Int) < 1)))) jf (L_gtr (rv (vi ((a0.length : Int)))) (rv (vi 3)) (by decide) (pf (rv (vb (decide ((a0.length : Int) < 1)))) jf (rv (vb (decide (3 < (a0.length : Int))))) (mv (rv (vb (decide (3 < (a0.length : Int))))) ?_)))))))
   rcases tf (decide (3 < (a0.length : Int))) with jg | jg
   ·have hr := ite_t jg hr; exact gf 12 (rv (vb (decide (3 < (a0.length : Int))))) jg (gf 12 (rv (vb (decide (3 < (a0.length : Int))))) jg (gf 12 (rv (vb (decide (3 < (a0.length : Int))))) jg (pt (rv (vb (decide (3 < (a0.length : Int))))) jg (rv (vb true)) (nn ⟨j7, true, rfl, ja, (Le.refl _), Option.some.inj hr, rfl⟩))))
   ·have hr := ite_f jg hr; refine gt 12 (rv (vb (decide (3 < (a0.length : Int))))) jg (mv (rv w0) (gt 12 (rv (vb (decide (3 < (a0.length : Int))))) jg (L_makeFunc (args1 (rv (Value.pointer (some ⟨j2, 0, none⟩)))) (by decide) (gt 12 (rv (vb (decide (3 < (a0.length : Int))))) jg ?_)))); obtain ⟨jh, ji, hr⟩ := bind_some hr; refine L_calls cal114 (args2 (rv w0) (rv (Value.func (.func 115) #[] #[Value.pointer (some ⟨j2, 0, none⟩)]))) (slices_ContainsFunc_Lcheck_Level_check_Level_ok N _ _ _ (h0.mono (j3.le.trans j8.le)) _ (fun x => check_levelled_2 N x ) (Fn1.mk1 cal115 fun t vx x r hl hv hr => check_levelled_2_ok N t vx x hv _ ((j9).mono hl) r hr) jh ji) (by decide) (fun jj jk jl jm => ?_); have jn := Tch.ext ja jl; obtain rfl := jm.bool; exact pf (rv (vb (decide (3 < (a0.length : Int))))) jg (rv (vb jh)) (nn ⟨jk, jh, rfl, jn, jl.le, Option.some.inj hr, rfl⟩)
 ·rintro jf jg ⟨jh, je, rfl, ji, jj, jc, jk⟩
  subst jc
  have hr := jd
  try dsimp only at hr
  refine W_cond _ jk (fun jl => ?_) (fun jl => ?_)
  ·have hr := ite_t jl hr; refine sr (asg (rv (vi 3)) (nn (W_ret (then_r ?_)))); obtain rfl := Option.some.inj hr; exact done1 (Or.inl rfl) Tryz.results63 rfl ⟨_, _, rfl, rfl, ji, Vint⟩
  ·have hr := ite_f jl hr; refine W_skip (then_n (sr (asg (rv (vi 0)) (nn (W_ret ?_))))); obtain rfl := Option.some.inj hr; exact done1 (Or.inl rfl) Tryz.results63 rfl ⟨_, _, rfl, rfl, ji, Vint⟩

theorem slices_IndexFunc_Lint_int_ok (N : Nat) (s0 : St) (w0 : Value) (a0 : List Int) (h0 : V s0 w0 a0) (w1 : Value) (a1 : Int → Option Bool) (h1 : Fn1 Tryz.prog s0 w1 a1) (r : Int) (hr : slices_IndexFunc_Lint_int N a0 a1 = some r) :
    Calls Tryz.prog 116 #[w0, w1] s0.w (Ret s0 fun v s => V s v r) := by
 unfold slices_IndexFunc_Lint_int at hr
 have j0 := Ext.refl s0
 refine Calls_of (n := 19) (args := [w0, w1]) Tryz.func116 rfl rfl (by simp) (sr (asg (rv (vi 0)) (nn (W_seq (sr (mv (rv w0) (ln Tryz.underlying38 (rv w0) h0 (mv (rv (vi 0)) (nn ?_)))))))))
 obtain ⟨j1, j2, j3⟩ := bind_some hr
 refine W_cut (fun f w => ∃ (s : St), s.w = w ∧ Ext s0 s ∧ Le s0 s ∧ Sum.inl () = j1) ?_ ?_
 ·refine W_block (W_loop (fun m f w => ∃ (s : St) (j4 : Int), s.w = w ∧ Ext s0 s ∧ Le s0 s ∧ slices_IndexFunc_Lint_int_l1 N a0 a1 m j4 = some j1 ∧ f 8 = vi j4 ∧ f 0 = w0 ∧ f 1 = w1 ∧ f 7 = vi ((a0.length : Int))) N ⟨s0, 0, rfl, j0, (Le.refl _), j2, rfl, rfl, rfl, rfl⟩ ?_)
  rintro j5 j6 j7 ⟨j8, j4, rfl, j9, ja, hr, jb, jc, jd, je⟩
  cases j5 with
  | zero => exact absurd hr (by simp [slices_IndexFunc_Lint_int_l1])
  | succ j5 =>
   rw [slices_IndexFunc_Lint_int_l1.eq_2] at hr
   refine sr (ls jb je (nn (W_seq ?_)))
   refine W_cond _ (rv (vb (decide (j4 < (a0.length : Int))))) (fun jf => ?_) (fun jf => ?_)
   ·have hr := ite_t jf hr
    refine W_skip (then_n (W_seq (W_block (sr (mv jb (asg (rv (vi j4)) (nn (sr (mv jd (mv jc (mv (rv (vi j4)) ?_)))))))))))
    obtain ⟨jg, jh, hr⟩ := bind_some hr
    refine ix Tryz.underlying38 ty3.inf (rv w0) (h0.mono ja) (rv (vi j4)) jh (fun ji jj => li ty3 (rv ji) jj ?_)
    obtain ⟨jk, jl, hr⟩ := bind_some hr
    refine L_call1 (rv w1) (h1.mono ja) (rv (vi jg)) Vint jl (by decide) (fun jm jn jo jp => ?_)
    have jq := Tch.ext j9 jo
    obtain rfl := jp.bool
    refine nn ?_
    refine W_cond _ (rv (vb jk)) (fun jr => ?_) (fun jr => ?_)
    ·have hr := ite_t jr hr; refine sr (mv (rv (vi j4)) (asg (rv (vi j4)) (nn (W_ret (block_r (then_r (then_r (block_r ?_)))))))); obtain rfl := Option.some.inj hr; have hr := j3; (try dsimp only at hr); refine then_r (then_r ?_); obtain rfl := Option.some.inj hr; exact done1 (Or.inl rfl) Tryz.results116 rfl ⟨_, _, rfl, rfl, jq, Vint⟩
    ·have hr := ite_f jr hr; refine W_skip (block_n (then_n (W_region ?_))); obtain ⟨js, hr⟩ := chk_some hr; exact ad jb (rv (vi 1)) js (mv (rv (vi (j4 + 1))) (nn ⟨j5, Nat.lt_succ_self _, ⟨jn, (j4 + 1), rfl, jq, (ja.trans jo.le), hr, rfl, jc, jd, je⟩⟩))
   ·have hr := ite_f jf hr; refine W_exit (then_x (then_x (block_here ?_))); exact then_n ⟨j8, rfl, j9, ja, Option.some.inj hr⟩
 ·rintro j4 j5 ⟨j6, rfl, j7, j8, j2⟩; subst j2; have hr := j3; (try dsimp only at hr); refine then_n (sr (asg (rv (vi (-1))) (nn (W_ret ?_)))); obtain rfl := Option.some.inj hr; exact done1 (Or.inl rfl) Tryz.results116 rfl ⟨_, _, rfl, rfl, j7, Vint⟩

theorem slices_ContainsFunc_Lint_int_ok (N : Nat) (s0 : St) (w0 : Value) (a0 : List Int) (h0 : V s0 w0 a0) (w1 : Value) (a1 : Int → Option Bool) (h1 : Fn1 Tryz.prog s0 w1 a1) (r : Bool) (hr : slices_ContainsFunc_Lint_int N a0 a1 = some r) :
    Calls Tryz.prog 64 #[w0, w1] s0.w (Ret s0 fun v s => V s v r) := by
 unfold slices_ContainsFunc_Lint_int at hr
 have j0 := Ext.refl s0
 refine Calls_of (n := 9) (args := [w0, w1]) Tryz.func64 rfl rfl (by simp) (sr (asg (rv (vb false)) (nn (sr (mv (rv w0) (mv (rv w1) ?_))))))
 obtain ⟨j1, j2, hr⟩ := bind_some hr
 refine L_calls cal116 (args2 (rv w0) (rv w1)) (slices_IndexFunc_Lint_int_ok N _ _ _ h0 _ a1 h1 j1 j2) (by decide) (fun j3 j4 j5 j6 => ?_)
 have j7 := Tch.ext j0 j5
 obtain rfl := j6.int
 refine L_geq (rv (vi j1)) (rv (vi 0)) (by decide) (asg (rv (vb (decide (0 ≤ j1)))) (nn (W_ret ?_)))
 obtain rfl := Option.some.inj hr
 exact done1 (Or.inl rfl) Tryz.results64 rfl ⟨_, _, rfl, rfl, j7, Vbool⟩

theorem check_Lose_1_ok (N : Nat) (s0 : St) (a0 : Int) (r : Bool) (hr : check_Lose_1 N a0 = some r) :
    Calls Tryz.prog 65 #[.int .i64 a0] s0.w (Ret s0 fun v s => V s v r) := by
 unfold check_Lose_1 at hr
 have j0 := Ext.refl s0
 refine Calls_of (n := 9) (args := [.int .i64 a0]) Tryz.func65 rfl rfl (by simp) (sr (asg (rv (vb false)) (nn (sr (mv (rv (vi a0)) (ls (rv (vi a0)) (rv (vi 1)) (mv (rv (vb (decide (a0 < 1)))) ?_)))))))
 rcases tf (decide (a0 < 1)) with j1 | j1
 ·have hr := ite_t j1 hr; refine gf 5 (rv (vb (decide (a0 < 1)))) j1 (gf 5 (rv (vb (decide (a0 < 1)))) j1 (pt (rv (vb (decide (a0 < 1)))) j1 (rv (vb true)) (asg (rv (vb true)) (nn (W_ret ?_))))); obtain rfl := Option.some.inj hr; exact done1 (Or.inl rfl) Tryz.results65 rfl ⟨_, _, rfl, rfl, j0, Vbool⟩
 ·have hr := ite_f j1 hr; refine gt 5 (rv (vb (decide (a0 < 1)))) j1 (mv (rv (vi a0)) (gt 5 (rv (vb (decide (a0 < 1)))) j1 (L_gtr (rv (vi a0)) (rv (vi 8)) (by decide) (pf (rv (vb (decide (a0 < 1)))) j1 (rv (vb (decide (8 < a0)))) (asg (rv (vb (decide (8 < a0)))) (nn (W_ret ?_))))))); obtain rfl := Option.some.inj hr; exact done1 (Or.inl rfl) Tryz.results65 rfl ⟨_, _, rfl, rfl, j0, Vbool⟩

theorem check_divisor_ok (N : Nat) (s0 : St) (a0 : Int) (a1 : Int) (r : Int) (hr : check_divisor N a0 a1 = some r) :
    Calls Tryz.prog 117 #[.int .i64 a0, .int .i64 a1] s0.w (Ret s0 fun v s => V s v r) := by
 cases N with
 | zero => cases hr
 | succ N =>
 rw [check_divisor.eq_2] at hr
 have j0 := Ext.refl s0
 refine Calls_of (n := 13) (args := [.int .i64 a0, .int .i64 a1]) Tryz.func117 rfl rfl (by simp) (sr (asg (rv (vi 0)) (nn (W_seq (sr (mv (rv (vi a1)) (el (rv (vi a1)) (rv (vi 0)) (nn ?_))))))))
 refine W_cond _ (rv (vb (decide (a1 = 0)))) (fun j1 => ?_) (fun j1 => ?_)
 ·have hr := ite_t j1 hr; refine sr (mv (rv (vi a0)) (asg (rv (vi a0)) (nn (W_ret (then_r ?_))))); obtain rfl := Option.some.inj hr; exact done1 (Or.inl rfl) Tryz.results117 rfl ⟨_, _, rfl, rfl, j0, Vint⟩
 ·have hr := ite_f j1 hr; refine W_skip (then_n (sr (mv (rv (vi a1)) (mv (rv (vi a0)) (mv (rv (vi a1)) ?_))))); obtain ⟨j2, hr⟩ := chk_some hr; refine L_rem (rv (vi a0)) (rv (vi a1)) j2 (by decide) ?_; obtain ⟨j3, j4, hr⟩ := bind_some hr; refine L_calls cal117 (args2 (rv (vi a1)) (rv (vi (Int.tmod a0 a1)))) (check_divisor_ok N _ a1 (Int.tmod a0 a1) j3 j4) (by decide) (fun j5 j6 j7 j8 => ?_); have j9 := Tch.ext j0 j7; obtain rfl := j8.int; refine asg (rv (vi j3)) (nn (W_ret ?_)); obtain rfl := Option.some.inj hr; exact done1 (Or.inl rfl) Tryz.results117 rfl ⟨_, _, rfl, rfl, j9, Vint⟩

theorem check_lose_ok (N : Nat) (s0 : St) (w0 : Value) (a0 : List Level) (h0 : V s0 w0 a0) (a1 : Int) (w2 : Value) (a2 : List Int) (h2 : V s0 w2 a2) (r : Loss) (hr : check_lose N a0 a1 a2 = some r) :
    Calls Tryz.prog 66 #[w0, .int .i64 a1, w2] s0.w (Ret s0 fun v s => V s v r) := by
 unfold check_lose at hr
 have j0 := Ext.refl s0
 refine Calls_of (n := 103) (args := [w0, .int .i64 a1, w2]) Tryz.func66 rfl rfl (by simp) (sr (L_alloc (α := Loss) (x := ⟨0, 0⟩) zero40 Loss.zero_rel (by decide) (fun j1 j2 j3 j4 j5 => ?_)))
 have j6 := Tch.ext j0 j3
 refine nn (sr (mv (rv (vi a1)) (L_buildSlice (xs := ([a1] : List Int)) Tryz.underlying38 tyz3 (Parts_cons rfl (rv (vi a1)) Parts_nil) (Vs.cons Vint Vs.nil) rfl (by decide) (by decide) (fun j7 j8 j9 ja jb => ?_))))
 have jc := Tch.ext j6 j9
 have jd : ∀ k, (fun k => k = j2) k → ¬ (own j8) k := fun k je h2 => by have jf := (fun k (hk : k = j2) => lt_at hk (j5).lt) k je; have jg := ja; exact absurd ((jg.lt h2).1) (by omega)
 refine asg (rv j8) (nn (W_seq (sr (mv (rv w2) (ln Tryz.underlying38 (rv w2) (h2.mono (j3.le.trans j9.le)) (mv (rv (vi 0)) (nn ?_)))))))
 obtain ⟨jh, ji, jj⟩ := bind_some hr
 refine W_cut (fun f w => ∃ (s : St) (jk : Value) (jl : List Int), s.w = w ∧ Ext s0 s ∧ Le j7 s ∧ jl = jh ∧ f 7 = jk ∧ Bld s s0.w.heap.size 3 jk jl ∧ f 0 = w0 ∧ f 6 = Value.pointer (some ⟨j2, 0, none⟩) ∧ Var s j2 40 (⟨0, 0⟩ : Loss) ∧ (∀ k, (own jk) k → ¬ (fun k => k = j2) k)) ?_ ?_
 ·refine W_block (W_loop (fun m f w => ∃ (s : St) (jm : Value) (jn : List Int) (jo : Int), s.w = w ∧ Ext s0 s ∧ Le j7 s ∧ check_lose_l1 N a2 m jn jo = some jh ∧ f 7 = jm ∧ Bld s s0.w.heap.size 3 jm jn ∧ f 21 = vi jo ∧ f 0 = w0 ∧ f 6 = Value.pointer (some ⟨j2, 0, none⟩) ∧ f 19 = w2 ∧ f 20 = vi ((a2.length : Int)) ∧ Var s j2 40 (⟨0, 0⟩ : Loss) ∧ (∀ k, (own jm) k → ¬ (fun k => k = j2) k)) N ⟨j7, j8, ([a1] : List Int), 0, rfl, jc, (Le.refl _), ji, rfl, (ja.base j6.size), rfl, rfl, rfl, rfl, rfl, (j5).ext j9, (fun k hk hm => jd k hm hk)⟩ ?_)
  rintro jp jq jr ⟨js, jm, jn, jo, rfl, jt, ju, hr, jv, jw, jx, jy, jz, k0, k1, k2, k3⟩
  cases jp with
  | zero => exact absurd hr (by simp [check_lose_l1])
  | succ jp =>
   rw [check_lose_l1.eq_2] at hr
   refine sr (ls jx k1 (nn (W_seq ?_)))
   refine W_cond _ (rv (vb (decide (jo < (a2.length : Int))))) (fun k4 => ?_) (fun k4 => ?_)
   ·have hr := ite_t k4 hr
    refine W_skip (then_n (W_seq (W_block (sr ?_))))
    obtain ⟨k5, k6, hr⟩ := bind_some hr
    refine ix Tryz.underlying38 ty3.inf k0 (h2.mono (j3.le.trans (j9.le.trans ju))) jx k6 (fun k7 k8 => li ty3 (rv k7) k8 (asg (rv (vi k5)) (nn (W_region (mv jv (mv jv ?_))))))
    have k9 := (jw).toV
    refine mv jv ?_
    have ka := (jw).toV
    refine ln Tryz.underlying38 (rv jm) ka ?_
    obtain ⟨kb, hr⟩ := chk_some hr
    refine L_sub (rv (vi ((jn.length : Int)))) (rv (vi 1)) kb (by decide) ?_
    obtain ⟨kc, kd, hr⟩ := bind_some hr
    refine ix Tryz.underlying38 ty3.inf (rv jm) k9 (rv (vi ((jn.length : Int) - 1))) kd (fun ke kf => li ty3 (rv ke) kf (mv (rv (vi k5)) ?_))
    obtain ⟨kg, hr⟩ := chk_some hr
    refine L_mul (rv (vi kc)) (rv (vi k5)) kg (by decide) (L_buildSlice (xs := ([kc * k5] : List Int)) Tryz.underlying38 tyz3 (Parts_cons rfl (rv (vi (kc * k5))) Parts_nil) (Vs.cons Vint Vs.nil) rfl (by decide) (by decide) (fun kh ki kj kk kl => ?_))
    have km := Tch.ext jt kj
    obtain ⟨kn, hr⟩ := chk_some hr
    refine L_append (xs := jn) (B := s0.w.heap.size) Tryz.underlying38 tyz3 (rv jm) (rv ki) ((jw).ext kj) (km.size) kl kn.1 kn.2 (by decide) (fun ko kp kq => ?_)
    have kr := kq.tchM ((jw).ext kj) km (Nat.le_refl _)
    have ks : ∀ k, (fun k => k = j2) k → ¬ own ko k := fun k je h2 => by rcases kq.own k h2 with jf | jf; exact (fun k hk hm => k3 k hm hk) k je jf; have jg := ((k2).ext kj).lt; subst je; omega
    refine asg (rv ko) (L_nil (block_n (then_n (W_region ?_))))
    obtain ⟨kt, hr⟩ := chk_some hr
    exact ad jx (rv (vi 1)) kt (mv (rv (vi (jo + 1))) (nn ⟨jp, Nat.lt_succ_self _, ⟨kp, ko, (jn ++ ([kc * k5] : List Int)), (jo + 1), rfl, kr, (ju.trans (kj.le.trans kq.tch.le)), hr, rfl, kq.bld, rfl, jy, jz, k0, k1, ((k2).ext kj).tch kq.tch ((fun k hk hm => k3 k hm hk) j2 rfl), (fun k hk hm => ks k hm hk)⟩⟩))
   ·have hr := ite_f k4 hr; refine W_exit (then_x (then_x (block_here ?_))); exact then_n ⟨js, jm, jn, rfl, jt, ju, Option.some.inj hr, jv, jw, jy, jz, k2, k3⟩
 ·rintro jm jn ⟨jo, jk, jl, rfl, jp, jq, ji, jr, js, jt, ju, jv, jw⟩
  subst ji
  have hr := jj
  try dsimp only at hr
  refine then_n (sr (asg (rv (vi 1)) (nn (W_seq (sr (mv jt (ln Tryz.underlying43 (rv w0) (h0.mono (j3.le.trans (j9.le.trans jq))) (mv (rv (vi 0)) (nn ?_)))))))))
  obtain ⟨jx, jy, jz⟩ := bind_some hr
  refine W_cut (fun f w => ∃ (s : St) (k0 : Int), s.w = w ∧ Ext s0 s ∧ Le jo s ∧ k0 = jx ∧ f 10 = vi k0 ∧ f 0 = w0 ∧ f 6 = Value.pointer (some ⟨j2, 0, none⟩) ∧ f 7 = jk ∧ Var s j2 40 (⟨0, 0⟩ : Loss) ∧ Bld s s0.w.heap.size 3 jk jl) ?_ ?_
  ·refine W_block (W_loop (fun m f w => ∃ (s : St) (k1 : Int) (k2 : Int), s.w = w ∧ Ext s0 s ∧ Le jo s ∧ check_lose_l2 N a0 m k1 k2 = some jx ∧ f 10 = vi k1 ∧ f 39 = vi k2 ∧ f 0 = w0 ∧ f 6 = Value.pointer (some ⟨j2, 0, none⟩) ∧ f 7 = jk ∧ f 37 = w0 ∧ f 38 = vi ((a0.length : Int)) ∧ Var s j2 40 (⟨0, 0⟩ : Loss) ∧ Bld s s0.w.heap.size 3 jk jl) N ⟨jo, 1, 0, rfl, jp, (Le.refl _), jy, rfl, rfl, jt, ju, jr, rfl, rfl, jv, js⟩ ?_)
   rintro k3 k4 k5 ⟨k6, k1, k2, rfl, k7, k8, hr, k9, ka, kb, kc, kd, ke, kf, kg, kh⟩
   cases k3 with
   | zero => exact absurd hr (by simp [check_lose_l2])
   | succ k3 =>
    rw [check_lose_l2.eq_2] at hr
    refine sr (ls ka kf (nn (W_seq ?_)))
    refine W_cond _ (rv (vb (decide (k2 < (a0.length : Int))))) (fun ki => ?_) (fun ki => ?_)
    ·have hr := ite_t ki hr
     refine W_skip (then_n (W_seq (W_block (sr ?_))))
     obtain ⟨kj, kk, hr⟩ := bind_some hr
     refine ix Tryz.underlying43 ty103.inf ke (h0.mono (j3.le.trans (j9.le.trans (jq.trans k8)))) ka kk (fun kl km => ld ty103 (rv kl) km (fun kn ko => L_alloc (α := Level) (x := ⟨0, 0⟩) zero103 Level.zero_rel (by decide) (fun kp kq kr ks kt => ?_)))
     have ku := Tch.ext k7 kr
     have kv : ∀ k, (fun k => k = j2) k → ¬ (fun k => k = kq) k := fun k je h2 => by have jf := (fun k (hk : k = j2) => lt_at hk (kg).lt) k je; have jg := ks; subst h2; omega
     have kw : ∀ k, (own jk) k → ¬ (fun k => k = kq) k := fun k je h2 => by have jf := (fun k hk => ((kh).lt hk).2) k je; have jg := ks; subst h2; omega
     refine L_store_ro ty103 (rv (Value.pointer (some ⟨kq, 0, none⟩))) (rv kn) (ko.mono kr.le) (kt) (fun kx ky kz => ?_)
     have g0 := Tch.trans ku ky (fun k hk => Or.inr (by subst hk; exact (Nat.le_trans k7.size ks)))
     refine nn ?_
     obtain ⟨g1, hr⟩ := chk_some hr
     obtain ⟨g2, g3, hr⟩ := bind_some hr
     obtain ⟨g4, hr⟩ := chk_some hr
     obtain ⟨g5, hr⟩ := chk_some hr
     obtain ⟨g6, hr⟩ := chk_some hr
     refine W_draws mixed (by kernel_rfl) [PV.eq (vi k1), PV.eq (vi k1), PV.ptr (kj.Mean : Int), PV.eq (vi (kj.Mean)), PV.eq (vi (2 * kj.Mean)), PV.eq (vi g2), PV.eq (vi (Int.tdiv k1 g2)), PV.eq (vi ((Int.tdiv k1 g2) * 2)), PV.ptr (kj.Mean : Int), PV.eq (vi (kj.Mean)), PV.eq (vi (((Int.tdiv k1 g2) * 2) * kj.Mean)), PV.eq (vi (((Int.tdiv k1 g2) * 2) * kj.Mean))] (Steps_cons ?_ (Steps_cons ?_ (Steps_cons ?_ (Steps_cons ?_ (Steps_cons ?_ (Steps_cons ?_ (Steps_cons ?_ (Steps_cons ?_ (Steps_cons ?_ (Steps_cons ?_ (Steps_cons ?_ (Steps_cons ?_ Steps_nil)))))))))))) ?_
     ·intro g7 g8 g9 ga gb Q gc; have gd : g7 10 = vi (k1) := (gb 10 (by kernel_rfl)).trans k9; exact mv gd (fin gc rfl)
     ·intro g7 g8 g9 ga gb Q gc; have gd : g7 10 = vi (k1) := (gb 10 (by kernel_rfl)).trans k9; exact mv gd (fin gc rfl)
     ·intro g7 g8 g9 ga gb Q gc; have gd : g7 12 = Value.pointer (some ⟨kq, 0, none⟩) := (gb 12 (by kernel_rfl)).trans rfl; exact fa fld103_1 Level.of_Mean gd (kz.mono g9.le) (fun gg gh => fin gc gh)
     ·intro g7 g8 g9 ga gb Q gc; have gd : Ptr _ (g7 45) (kj.Mean : Int) := ga 2 45 (by kernel_rfl) (by kernel_rfl); obtain ⟨gg, gh, gi⟩ : ∃ v, _ = v ∧ Ptr _ v _ := ⟨_, rfl, gd⟩; exact li ty3 gh gi (fin gc rfl)
     ·intro g7 g8 g9 ga gb Q gc; have gd : g7 46 = vi (kj.Mean) := ga 3 46 (by kernel_rfl) (by kernel_rfl); exact L_mul (rv (vi 2)) gd g1 (by decide) (fin gc rfl)
     ·intro g7 g8 g9 ga gb Q gc; have gd : g7 44 = vi (k1) := ga 1 44 (by kernel_rfl) (by kernel_rfl); have gg : g7 47 = vi (2 * kj.Mean) := ga 4 47 (by kernel_rfl) (by kernel_rfl); refine L_calls cal117 (args2 gd gg) (check_divisor_ok N _ k1 (2 * kj.Mean) g2 g3) (by decide) (fun gh gi gj gk => ?_); have gl := Tch.ext (Ext.refl g8) gj; obtain rfl := gk.int; exact L_nil (gc _ _ gl rfl)
     ·intro g7 g8 g9 ga gb Q gc; have gd : g7 43 = vi (k1) := ga 0 43 (by kernel_rfl) (by kernel_rfl); have gg : g7 48 = vi (g2) := ga 5 48 (by kernel_rfl) (by kernel_rfl); exact L_quo gd gg g4.1 g4.2 (by decide) (fin gc rfl)
     ·intro g7 g8 g9 ga gb Q gc; have gd : g7 49 = vi (Int.tdiv k1 g2) := ga 6 49 (by kernel_rfl) (by kernel_rfl); exact L_mul gd (rv (vi 2)) g5 (by decide) (fin gc rfl)
     ·intro g7 g8 g9 ga gb Q gc; have gd : g7 12 = Value.pointer (some ⟨kq, 0, none⟩) := (gb 12 (by kernel_rfl)).trans rfl; exact fa fld103_1 Level.of_Mean gd (kz.mono g9.le) (fun gg gh => fin gc gh)
     ·intro g7 g8 g9 ga gb Q gc; have gd : Ptr _ (g7 51) (kj.Mean : Int) := ga 8 51 (by kernel_rfl) (by kernel_rfl); obtain ⟨gg, gh, gi⟩ : ∃ v, _ = v ∧ Ptr _ v _ := ⟨_, rfl, gd⟩; exact li ty3 gh gi (fin gc rfl)
     ·intro g7 g8 g9 ga gb Q gc; have gd : g7 50 = vi ((Int.tdiv k1 g2) * 2) := ga 7 50 (by kernel_rfl) (by kernel_rfl); have gg : g7 52 = vi (kj.Mean) := ga 9 52 (by kernel_rfl) (by kernel_rfl); exact L_mul gd gg g6 (by decide) (fin gc rfl)
     ·intro g7 g8 g9 ga gb Q gc; have gd : g7 53 = vi (((Int.tdiv k1 g2) * 2) * kj.Mean) := ga 10 53 (by kernel_rfl) (by kernel_rfl); exact asg gd (fin gc rfl)
     ·intro g7 g8 g9 ga gb; have gc := Tch.ext g0 g9; have gd : g7 0 = w0 := (gb 0 (by kernel_rfl)).trans kb; have gg : g7 6 = Value.pointer (some ⟨j2, 0, none⟩) := (gb 6 (by kernel_rfl)).trans kc; have gh : g7 7 = jk := (gb 7 (by kernel_rfl)).trans kd; have gi : g7 10 = vi (((Int.tdiv k1 g2) * 2) * kj.Mean) := ga 11 10 (by kernel_rfl); have gj : g7 37 = w0 := (gb 37 (by kernel_rfl)).trans ke; have gk : g7 38 = vi ((a0.length : Int)) := (gb 38 (by kernel_rfl)).trans kf; have gl : g7 39 = vi (k2) := (gb 39 (by kernel_rfl)).trans ka; refine block_n (then_n (W_region ?_)); obtain ⟨gm, hr⟩ := chk_some hr; exact ad gl (rv (vi 1)) gm (mv (rv (vi (k2 + 1))) (nn ⟨k3, Nat.lt_succ_self _, ⟨g8, (((Int.tdiv k1 g2) * 2) * kj.Mean), (k2 + 1), rfl, gc, (k8.trans (kr.le.trans (ky.le.trans g9.le))), hr, gi, rfl, gd, gg, gh, gj, gk, (((kg).ext kr).tch ky ((fun k hk => kv k hk) j2 rfl)).ext g9, (((kh).ext kr).tch ky (fun k hk => kw k hk)).ext g9⟩⟩))
    ·have hr := ite_f ki hr; refine W_exit (then_x (then_x (block_here ?_))); exact then_n ⟨k6, k1, rfl, k7, k8, Option.some.inj hr, k9, kb, kc, kd, kg, kh⟩
  ·rintro k1 k2 ⟨k3, k0, rfl, k4, k5, jy, k6, k7, k8, k9, ka, kb⟩
   subst jy
   have hr := jz
   try dsimp only at hr
   refine then_n (sr (mv k6 (mv k9 ?_)))
   have kc := (kb).toV
   refine mv k9 ?_
   have kd := (kb).toV
   refine ln Tryz.underlying38 (rv jk) kd ?_
   obtain ⟨ke, hr⟩ := chk_some hr
   refine L_sub (rv (vi ((jl.length : Int)))) (rv (vi 1)) ke (by decide) ?_
   obtain ⟨kf, kg, hr⟩ := bind_some hr
   refine ix Tryz.underlying38 ty3.inf (rv jk) kc (rv (vi ((jl.length : Int) - 1))) kg (fun kh ki => li ty3 (rv kh) ki ?_)
   obtain ⟨kj, hr⟩ := chk_some hr
   refine L_mul (rv (vi k0)) (rv (vi kf)) kj (by decide) (asg (rv (vi (k0 * kf))) (nn (sr (asg (rv (vi 0)) (nn (W_seq (sr (mv k7 (ln Tryz.underlying43 (rv w0) (h0.mono (j3.le.trans (j9.le.trans (jq.trans k5)))) (mv (rv (vi 0)) (nn ?_)))))))))))
   obtain ⟨kk, kl, km⟩ := bind_some hr
   refine W_cut (fun f w => ∃ (s : St) (kn : Int), s.w = w ∧ Ext s0 s ∧ Le k3 s ∧ kn = kk ∧ f 13 = vi kn ∧ f 6 = Value.pointer (some ⟨j2, 0, none⟩) ∧ f 10 = vi (k0 * kf) ∧ Var s j2 40 (⟨0, 0⟩ : Loss)) ?_ ?_
   ·refine W_block (W_loop (fun m f w => ∃ (s : St) (ko : Int) (kp : Int), s.w = w ∧ Ext s0 s ∧ Le k3 s ∧ check_lose_l3 N a0 jl k0 kf m ko kp = some kk ∧ f 13 = vi ko ∧ f 65 = vi kp ∧ f 6 = Value.pointer (some ⟨j2, 0, none⟩) ∧ f 7 = jk ∧ f 10 = vi (k0 * kf) ∧ f 63 = w0 ∧ f 64 = vi ((a0.length : Int)) ∧ Var s j2 40 (⟨0, 0⟩ : Loss) ∧ Bld s s0.w.heap.size 3 jk jl) N ⟨k3, 0, 0, rfl, k4, (Le.refl _), kl, rfl, rfl, k8, k9, rfl, rfl, rfl, ka, kb⟩ ?_)
    rintro kq kr ks ⟨kt, ko, kp, rfl, ku, kv, hr, kw, kx, ky, kz, g0, g1, g2, g3, g4⟩
    cases kq with
    | zero => exact absurd hr (by simp [check_lose_l3])
    | succ kq =>
     rw [check_lose_l3.eq_2] at hr
     refine sr (ls kx g2 (nn (W_seq ?_)))
     refine W_cond _ (rv (vb (decide (kp < (a0.length : Int))))) (fun g5 => ?_) (fun g5 => ?_)
     ·have hr := ite_t g5 hr
      refine W_skip (then_n (W_seq (W_block (sr (mv kx ?_)))))
      obtain ⟨g6, g7, hr⟩ := bind_some hr
      refine ix Tryz.underlying43 ty103.inf g1 (h0.mono (j3.le.trans (j9.le.trans (jq.trans (k5.trans kv))))) kx g7 (fun g8 g9 => ld ty103 (rv g8) g9 (fun ga gb => L_alloc (α := Level) (x := ⟨0, 0⟩) zero103 Level.zero_rel (by decide) (fun gc gd gg gh gi => ?_)))
      have gj := Tch.ext ku gg
      have gk : ∀ k, (fun k => k = j2) k → ¬ (fun k => k = gd) k := fun k je h2 => by have jf := (fun k (hk : k = j2) => lt_at hk (g3).lt) k je; have jg := gh; subst h2; omega
      have gl : ∀ k, (own jk) k → ¬ (fun k => k = gd) k := fun k je h2 => by have jf := (fun k hk => ((g4).lt hk).2) k je; have jg := gh; subst h2; omega
      refine asg (rv (vi kp)) (L_store_ro ty103 (rv (Value.pointer (some ⟨gd, 0, none⟩))) (rv ga) (gb.mono gg.le) (gi) (fun gm gn go => ?_))
      have gp := Tch.trans gj gn (fun k hk => Or.inr (by subst hk; exact (Nat.le_trans ku.size gh)))
      refine nn ?_
      obtain ⟨gq, gr, hr⟩ := bind_some hr
      obtain ⟨gs, hr⟩ := chk_some hr
      obtain ⟨gu, hr⟩ := chk_some hr
      obtain ⟨gv, hr⟩ := chk_some hr
      obtain ⟨gw, hr⟩ := chk_some hr
      obtain ⟨gx, gy, hr⟩ := bind_some hr
      obtain ⟨gz, hr⟩ := chk_some hr
      obtain ⟨u0, hr⟩ := chk_some hr
      obtain ⟨u1, hr⟩ := chk_some hr
      refine W_draws mixed (by kernel_rfl) [PV.eq (vi ko), PV.eq (vi (k0 * kf)), PV.data (jl : List Int), PV.eq (vi kp), PV.ptr (gq : Int), PV.eq (vi gq), PV.eq (vi (Int.tdiv (k0 * kf) gq)), PV.ptr (g6.Cost : Int), PV.eq (vi (g6.Cost)), PV.eq (vi ((Int.tdiv (k0 * kf) gq) * g6.Cost)), PV.eq (vi (k0 * kf)), PV.ptr (g6.Mean : Int), PV.eq (vi (g6.Mean)), PV.eq (vi (2 * g6.Mean)), PV.eq (vi (Int.tdiv (k0 * kf) (2 * g6.Mean))), PV.data (jl : List Int), PV.eq (vi kp), PV.ptr (gx : Int), PV.eq (vi gx), PV.eq (vi ((Int.tdiv (k0 * kf) (2 * g6.Mean)) * gx)), PV.eq (vi ((Int.tdiv (k0 * kf) gq) * g6.Cost + ((Int.tdiv (k0 * kf) (2 * g6.Mean)) * gx))), PV.eq (vi (ko + ((Int.tdiv (k0 * kf) gq) * g6.Cost + ((Int.tdiv (k0 * kf) (2 * g6.Mean)) * gx)))), PV.eq (vi (ko + ((Int.tdiv (k0 * kf) gq) * g6.Cost + ((Int.tdiv (k0 * kf) (2 * g6.Mean)) * gx))))] (Steps_cons ?_ (Steps_cons ?_ (Steps_cons ?_ (Steps_cons ?_ (Steps_cons ?_ (Steps_cons ?_ (Steps_cons ?_ (Steps_cons ?_ (Steps_cons ?_ (Steps_cons ?_ (Steps_cons ?_ (Steps_cons ?_ (Steps_cons ?_ (Steps_cons ?_ (Steps_cons ?_ (Steps_cons ?_ (Steps_cons ?_ (Steps_cons ?_ (Steps_cons ?_ (Steps_cons ?_ (Steps_cons ?_ (Steps_cons ?_ (Steps_cons ?_ Steps_nil))))))))))))))))))))))) ?_
      ·intro u2 u3 u4 u5 u6 Q u7; have u9 : u2 13 = vi (ko) := (u6 13 (by kernel_rfl)).trans kw; exact mv u9 (fin u7 rfl)
      ·intro u2 u3 u4 u5 u6 Q u7; have u9 : u2 10 = vi (k0 * kf) := (u6 10 (by kernel_rfl)).trans g0; exact mv u9 (fin u7 rfl)
      ·intro u2 u3 u4 u5 u6 Q u7; have u9 : u2 7 = jk := (u6 7 (by kernel_rfl)).trans kz; refine mv u9 ?_; have ua := ((((g4).ext gg).tch gn (fun k hk => gl k hk)).ext u4).toV; exact fin u7 ua
      ·intro u2 u3 u4 u5 u6 Q u7; have u9 : u2 14 = vi (kp) := (u6 14 (by kernel_rfl)).trans rfl; exact mv u9 (fin u7 rfl)
      ·intro u2 u3 u4 u5 u6 Q u7; have u9 : V _ (u2 72) (jl : List Int) := u5 2 72 (by kernel_rfl) (by kernel_rfl); obtain ⟨ua, ub, uc⟩ : ∃ v, _ = v ∧ V _ v _ := ⟨_, rfl, u9⟩; have ud : u2 73 = vi (kp) := u5 3 73 (by kernel_rfl) (by kernel_rfl); exact ix Tryz.underlying38 ty3.inf ub uc ud gr (fun ue uf => fin u7 uf)
      ·intro u2 u3 u4 u5 u6 Q u7; have u9 : Ptr _ (u2 74) (gq : Int) := u5 4 74 (by kernel_rfl) (by kernel_rfl); obtain ⟨ua, ub, uc⟩ : ∃ v, _ = v ∧ Ptr _ v _ := ⟨_, rfl, u9⟩; exact li ty3 ub uc (fin u7 rfl)
      ·intro u2 u3 u4 u5 u6 Q u7; have u9 : u2 71 = vi (k0 * kf) := u5 1 71 (by kernel_rfl) (by kernel_rfl); have ua : u2 75 = vi (gq) := u5 5 75 (by kernel_rfl) (by kernel_rfl); exact L_quo u9 ua gs.1 gs.2 (by decide) (fin u7 rfl)
      ·intro u2 u3 u4 u5 u6 Q u7; have u9 : u2 15 = Value.pointer (some ⟨gd, 0, none⟩) := (u6 15 (by kernel_rfl)).trans rfl; exact fa fld103_0 Level.of_Cost u9 (go.mono u4.le) (fun ua ub => fin u7 ub)
      ·intro u2 u3 u4 u5 u6 Q u7; have u9 : Ptr _ (u2 77) (g6.Cost : Int) := u5 7 77 (by kernel_rfl) (by kernel_rfl); obtain ⟨ua, ub, uc⟩ : ∃ v, _ = v ∧ Ptr _ v _ := ⟨_, rfl, u9⟩; exact li ty3 ub uc (fin u7 rfl)
      ·intro u2 u3 u4 u5 u6 Q u7; have u9 : u2 76 = vi (Int.tdiv (k0 * kf) gq) := u5 6 76 (by kernel_rfl) (by kernel_rfl); have ua : u2 78 = vi (g6.Cost) := u5 8 78 (by kernel_rfl) (by kernel_rfl); exact L_mul u9 ua gu (by decide) (fin u7 rfl)
      ·intro u2 u3 u4 u5 u6 Q u7; have u9 : u2 10 = vi (k0 * kf) := (u6 10 (by kernel_rfl)).trans g0; exact mv u9 (fin u7 rfl)
      ·intro u2 u3 u4 u5 u6 Q u7; have u9 : u2 15 = Value.pointer (some ⟨gd, 0, none⟩) := (u6 15 (by kernel_rfl)).trans rfl; exact fa fld103_1 Level.of_Mean u9 (go.mono u4.le) (fun ua ub => fin u7 ub)
      ·intro u2 u3 u4 u5 u6 Q u7; have u9 : Ptr _ (u2 81) (g6.Mean : Int) := u5 11 81 (by kernel_rfl) (by kernel_rfl); obtain ⟨ua, ub, uc⟩ : ∃ v, _ = v ∧ Ptr _ v _ := ⟨_, rfl, u9⟩; exact li ty3 ub uc (fin u7 rfl)
      ·intro u2 u3 u4 u5 u6 Q u7; have u9 : u2 82 = vi (g6.Mean) := u5 12 82 (by kernel_rfl) (by kernel_rfl); exact L_mul (rv (vi 2)) u9 gv (by decide) (fin u7 rfl)
      ·intro u2 u3 u4 u5 u6 Q u7; have u9 : u2 80 = vi (k0 * kf) := u5 10 80 (by kernel_rfl) (by kernel_rfl); have ua : u2 83 = vi (2 * g6.Mean) := u5 13 83 (by kernel_rfl) (by kernel_rfl); exact L_quo u9 ua gw.1 gw.2 (by decide) (fin u7 rfl)
      ·intro u2 u3 u4 u5 u6 Q u7; have u9 : u2 7 = jk := (u6 7 (by kernel_rfl)).trans kz; refine mv u9 ?_; have ua := ((((g4).ext gg).tch gn (fun k hk => gl k hk)).ext u4).toV; exact fin u7 ua
      ·intro u2 u3 u4 u5 u6 Q u7; have u9 : u2 14 = vi (kp) := (u6 14 (by kernel_rfl)).trans rfl; exact mv u9 (fin u7 rfl)
      ·intro u2 u3 u4 u5 u6 Q u7; have u9 : V _ (u2 85) (jl : List Int) := u5 15 85 (by kernel_rfl) (by kernel_rfl); obtain ⟨ua, ub, uc⟩ : ∃ v, _ = v ∧ V _ v _ := ⟨_, rfl, u9⟩; have ud : u2 86 = vi (kp) := u5 16 86 (by kernel_rfl) (by kernel_rfl); exact ix Tryz.underlying38 ty3.inf ub uc ud gy (fun ue uf => fin u7 uf)
      ·intro u2 u3 u4 u5 u6 Q u7; have u9 : Ptr _ (u2 87) (gx : Int) := u5 17 87 (by kernel_rfl) (by kernel_rfl); obtain ⟨ua, ub, uc⟩ : ∃ v, _ = v ∧ Ptr _ v _ := ⟨_, rfl, u9⟩; exact li ty3 ub uc (fin u7 rfl)
      ·intro u2 u3 u4 u5 u6 Q u7; have u9 : u2 84 = vi (Int.tdiv (k0 * kf) (2 * g6.Mean)) := u5 14 84 (by kernel_rfl) (by kernel_rfl); have ua : u2 88 = vi (gx) := u5 18 88 (by kernel_rfl) (by kernel_rfl); exact L_mul u9 ua gz (by decide) (fin u7 rfl)
      ·intro u2 u3 u4 u5 u6 Q u7; have u9 : u2 79 = vi ((Int.tdiv (k0 * kf) gq) * g6.Cost) := u5 9 79 (by kernel_rfl) (by kernel_rfl); have ua : u2 89 = vi ((Int.tdiv (k0 * kf) (2 * g6.Mean)) * gx) := u5 19 89 (by kernel_rfl) (by kernel_rfl); exact ad u9 ua u0 (fin u7 rfl)
      ·intro u2 u3 u4 u5 u6 Q u7; have u9 : u2 70 = vi (ko) := u5 0 70 (by kernel_rfl) (by kernel_rfl); have ua : u2 90 = vi ((Int.tdiv (k0 * kf) gq) * g6.Cost + ((Int.tdiv (k0 * kf) (2 * g6.Mean)) * gx)) := u5 20 90 (by kernel_rfl) (by kernel_rfl); exact ad u9 ua u1 (fin u7 rfl)
      ·intro u2 u3 u4 u5 u6 Q u7; have u9 : u2 91 = vi (ko + ((Int.tdiv (k0 * kf) gq) * g6.Cost + ((Int.tdiv (k0 * kf) (2 * g6.Mean)) * gx))) := u5 21 91 (by kernel_rfl) (by kernel_rfl); exact asg u9 (fin u7 rfl)
      ·intro u2 u3 u4 u5 u6; have u7 := Tch.ext gp u4; have u9 : u2 6 = Value.pointer (some ⟨j2, 0, none⟩) := (u6 6 (by kernel_rfl)).trans ky; have ua : u2 7 = jk := (u6 7 (by kernel_rfl)).trans kz; have ub : u2 10 = vi (k0 * kf) := (u6 10 (by kernel_rfl)).trans g0; have uc : u2 13 = vi (ko + ((Int.tdiv (k0 * kf) gq) * g6.Cost + ((Int.tdiv (k0 * kf) (2 * g6.Mean)) * gx))) := u5 22 13 (by kernel_rfl); have ud : u2 63 = w0 := (u6 63 (by kernel_rfl)).trans g1; have ue : u2 64 = vi ((a0.length : Int)) := (u6 64 (by kernel_rfl)).trans g2; have uf : u2 65 = vi (kp) := (u6 65 (by kernel_rfl)).trans kx; refine block_n (then_n (W_region ?_)); obtain ⟨ug, hr⟩ := chk_some hr; exact ad uf (rv (vi 1)) ug (mv (rv (vi (kp + 1))) (nn ⟨kq, Nat.lt_succ_self _, ⟨u3, (ko + ((Int.tdiv (k0 * kf) gq) * g6.Cost + ((Int.tdiv (k0 * kf) (2 * g6.Mean)) * gx))), (kp + 1), rfl, u7, (kv.trans (gg.le.trans (gn.le.trans u4.le))), hr, uc, rfl, u9, ua, ub, ud, ue, (((g3).ext gg).tch gn ((fun k hk => gk k hk) j2 rfl)).ext u4, (((g4).ext gg).tch gn (fun k hk => gl k hk)).ext u4⟩⟩))
     ·have hr := ite_f g5 hr; refine W_exit (then_x (then_x (block_here ?_))); exact then_n ⟨kt, ko, rfl, ku, kv, Option.some.inj hr, kw, ky, g0, g3⟩
   ·rintro ko kp ⟨kq, kn, rfl, kr, ks, kl, kt, ku, kv, kw⟩
    subst kl
    have hr := km
    try dsimp only at hr
    refine then_n (sr (mv kt (mv kv ?_)))
    obtain ⟨kx, ky, hr⟩ := bind_some hr
    refine L_calls cal117 (args2 (rv (vi kn)) (rv (vi (k0 * kf)))) (check_divisor_ok N _ kn (k0 * kf) kx ky) (by decide) (fun kz g0 g1 g2 => ?_)
    have g3 := Tch.ext kr g1
    obtain rfl := g2.int
    refine asg (rv (vi kx)) (nn (W_seq ?_))
    obtain ⟨g4, hr⟩ := chk_some hr
    obtain ⟨g5, hr⟩ := chk_some hr
    refine W_drawO mixed 8 [PX.eq (vi kn), PX.eq (vi kx), PX.eq (vi (Int.tdiv kn kx)), PX.eq (vi (k0 * kf)), PX.eq (vi kx), PX.eq (vi (Int.tdiv (k0 * kf) kx)), PX.data ((⟨Int.tdiv kn kx, Int.tdiv (k0 * kf) kx⟩ : Loss) : Loss), PX.var s0.w.heap.size 40 ((⟨Int.tdiv kn kx, Int.tdiv (k0 * kf) kx⟩ : Loss) : Loss), PX.var s0.w.heap.size 40 ((⟨0, 0⟩ : Loss) : Loss)] [96, 97, 98, 99, 100, 101, 102, 6, 6] [[], [], [], [], [], [], [], [8]] rfl (by kernel_rfl) (ent1 rfl ⟨j2, ku, (Nat.le_trans j0.size j4), (kw).ext g1⟩) (dis1 rfl) (StepsX_cons ?_ (StepsX_cons ?_ (StepsX_cons ?_ (StepsX_cons ?_ (StepsX_cons ?_ (StepsX_cons ?_ (StepsX_cons ?_ (StepsX_cons ?_ StepsX_nil)))))))) ?_
    ·intro g6 g7 g8 g9 ga gb Q gc; have gd : g6 13 = vi (kn) := (ga 13 (by kernel_rfl)).trans kt; exact mv gd (L_nil (gc _ _ No (Ext.refl g7) (fun _ h => h.elim) rfl (fun _ h => h.elim)))
    ·intro g6 g7 g8 g9 ga gb Q gc; have gd : g6 16 = vi (kx) := (ga 16 (by kernel_rfl)).trans rfl; exact mv gd (L_nil (gc _ _ No (Ext.refl g7) (fun _ h => h.elim) rfl (fun _ h => h.elim)))
    ·intro g6 g7 g8 g9 ga gb Q gc; have gd : g6 96 = vi (kn) := g9 0 (by kernel_rfl) (by show _ < 9; decide); have gg : g6 97 = vi (kx) := g9 1 (by kernel_rfl) (by show _ < 9; decide); exact L_quo gd gg g4.1 g4.2 (by decide) (L_nil (gc _ _ No (Ext.refl g7) (fun _ h => h.elim) rfl (fun _ h => h.elim)))
    ·intro g6 g7 g8 g9 ga gb Q gc; have gd : g6 10 = vi (k0 * kf) := (ga 10 (by kernel_rfl)).trans kv; exact mv gd (L_nil (gc _ _ No (Ext.refl g7) (fun _ h => h.elim) rfl (fun _ h => h.elim)))
    ·intro g6 g7 g8 g9 ga gb Q gc; have gd : g6 16 = vi (kx) := (ga 16 (by kernel_rfl)).trans rfl; exact mv gd (L_nil (gc _ _ No (Ext.refl g7) (fun _ h => h.elim) rfl (fun _ h => h.elim)))
    ·intro g6 g7 g8 g9 ga gb Q gc; have gd : g6 99 = vi (k0 * kf) := g9 3 (by kernel_rfl) (by show _ < 9; decide); have gg : g6 100 = vi (kx) := g9 4 (by kernel_rfl) (by show _ < 9; decide); exact L_quo gd gg g5.1 g5.2 (by decide) (L_nil (gc _ _ No (Ext.refl g7) (fun _ h => h.elim) rfl (fun _ h => h.elim)))
    ·intro g6 g7 g8 g9 ga gb Q gc; have gd : g6 98 = vi (Int.tdiv kn kx) := g9 2 (by kernel_rfl) (by show _ < 9; decide); have gg : g6 101 = vi (Int.tdiv (k0 * kf) kx) := g9 5 (by kernel_rfl) (by show _ < 9; decide); exact L_bld40_0_1 (s := g7) gd gg (Vint : V _ _ (Int.tdiv kn kx : Int)) (Vint : V _ _ (Int.tdiv (k0 * kf) kx : Int)) (by decide) (fun gh gi => L_nil (gc _ _ No (Ext.refl g7) (fun _ h => h.elim) gi (fun _ h => h.elim)))
    ·intro g6 g7 g8 g9 ga gb Q gc
     obtain ⟨gd, gg, gh, gi⟩ : ∃ b, g6 6 = Value.pointer (some ⟨b, 0, none⟩) ∧ s0.w.heap.size ≤ b ∧ Var g7 b 40 ((⟨0, 0⟩ : Loss) : Loss) := g9 8 (by kernel_rfl) (by show _ < 9; decide)
     have gj : g6 6 = Value.pointer (some ⟨j2, 0, none⟩) := (ga 6 (by kernel_rfl)).trans ku
     have gk : gd = j2 := by have jf := gg.symm.trans gj; cases jf; rfl
     rw [gk] at gh gi
     have gl : V _ (g6 102) ((⟨Int.tdiv kn kx, Int.tdiv (k0 * kf) kx⟩ : Loss) : Loss) := g9 6 (by kernel_rfl) (by show _ < 9; decide)
     obtain ⟨gm, gn, go⟩ : ∃ v, _ = v ∧ V _ v _ := ⟨_, rfl, gl⟩
     exact L_store ty40 gj gn go (gi) (fun gp gq gr => L_nil (gc undef _ _ gq (fun k h => ⟨8, (List.mem_singleton.2 rfl : (8 : Nat) ∈ [8]), (by show ownP (g6 6) k; rw [gj]; exact congrArg (fun z => Value.pointer (some ⟨z, 0, none⟩)) h.symm)⟩) ⟨_, gj, gh, gr⟩ (fun k h => Or.inl ⟨8, (List.mem_singleton.2 rfl : (8 : Nat) ∈ [8]), h⟩)))
    ·intro g6 g7 g8 g9 ga gb gc
     have gd := Tch.trans g3 g8 (fun k h => Or.inr (by have h2 := ent_is (k := 8) rfl rfl h; have jf := Eq.mp (congrArg (fun v => ownP v k) (ku : _ = Value.pointer (some ⟨j2, 0, none⟩))) h2; cases jf; exact (Nat.le_trans j0.size j4)))
     obtain ⟨gg, gh, gi, gj⟩ : ∃ b, g6 6 = Value.pointer (some ⟨b, 0, none⟩) ∧ s0.w.heap.size ≤ b ∧ Var g7 b 40 ((⟨Int.tdiv kn kx, Int.tdiv (k0 * kf) kx⟩ : Loss) : Loss) := g9 7 (by show _ < 9; decide) (by kernel_rfl)
     have gk : g6 6 = Value.pointer (some ⟨j2, 0, none⟩) := (gc 6 (by kernel_rfl)).trans ku
     have gl : gg = j2 := by have jf := gh.symm.trans gk; cases jf; rfl
     rw [gl] at gi gj
     refine then_n (W_ret ?_)
     obtain rfl := Option.some.inj hr
     exact done_c (Or.inl rfl) Tryz.results66 ty40 gk (gj) (fun v hv => ⟨_, _, rfl, rfl, gd, hv⟩)

theorem check_Lose_ok (N : Nat) (s0 : St) (w0 : Value) (a0 : List Level) (h0 : V s0 w0 a0) (a1 : Int) (w2 : Value) (a2 : List Int) (h2 : V s0 w2 a2) (r : Loss × Int) (hr : check_Lose N a0 a1 a2 = some r) :
    Calls Tryz.prog 21 #[w0, .int .i64 a1, w2] s0.w (Ret s0 fun v s => ∃ a b, v = .tuple #[a, b] ∧ V s a r.1 ∧ V s b r.2) := by
 unfold check_Lose at hr
 have j0 := Ext.refl s0
 refine Calls_of (n := 39) (args := [w0, .int .i64 a1, w2]) Tryz.func21 rfl rfl (by simp) (sr (L_alloc (α := Loss) (x := ⟨0, 0⟩) zero40 Loss.zero_rel (by decide) (fun j1 j2 j3 j4 j5 => ?_)))
 have j6 := Tch.ext j0 j3
 refine asg (rv (vi 0)) (nn (W_seq (sr (mv (rv w0) ?_))))
 obtain ⟨j7, j8, hr⟩ := bind_some hr
 refine L_calls cal63 (args1 (rv w0)) (check_levelled_ok N _ _ _ (h0.mono j3.le) j7 j8) (by decide) (fun j9 ja jb jc => ?_)
 have jd := Tch.ext j6 jb
 obtain rfl := jc.int
 refine asg (rv (vi j7)) (nn (sr (mv (rv (vi j7)) (ne (rv (vi j7)) (rv (vi 0)) (nn ?_)))))
 refine W_cond _ (rv (vb (!decide (j7 = 0)))) (fun je => ?_) (fun je => ?_)
 ·have hr := ite_t je hr; refine sr (L_bld40_ (s := ja)   (by decide) (fun jf jg => mv (rv (vi j7)) (L_store ty40 (rv (Value.pointer (some ⟨j2, 0, none⟩))) (rv jf) jg ((j5).ext jb) (fun jh ji jj => ?_)))); have jk := Tch.trans jd ji (fun k hk => Or.inr (by subst hk; exact (Nat.le_trans j0.size j4))); refine asg (rv (vi j7)) (nn (W_ret (then_r ?_))); obtain rfl := Option.some.inj hr; exact done_ct (Or.inl rfl) Tryz.results21 ty40 rfl (jj) rfl (fun v hv => ⟨_, _, rfl, rfl, jk, _, _, rfl, hv, Vint⟩)
 ·have hr := ite_f je hr
  refine W_skip (then_n ?_)
  obtain ⟨jf, jg, jh⟩ := bind_some hr
  refine W_seq_cut (fun f w => ∃ (s : St) (ji : Loss), s.w = w ∧ Ext s0 s ∧ Le ja s ∧ Sum.inl ji = jf ∧ f 0 = w0 ∧ f 1 = vi (a1) ∧ f 2 = w2 ∧ f 6 = Value.pointer (some ⟨j2, 0, none⟩) ∧ Var s j2 40 ji) ?_ ?_
  ·have hr := jg
   refine W_block ?_
   obtain ⟨jj, jk, jl⟩ := bind_some hr
   refine W_seq_cut (fun f w => ∃ (s : St) (jm : Bool), s.w = w ∧ Ext s0 s ∧ Le ja s ∧ jm = jj ∧ f 15 = vb jm ∧ f 0 = w0 ∧ f 1 = vi (a1) ∧ f 2 = w2 ∧ f 6 = Value.pointer (some ⟨j2, 0, none⟩) ∧ Var s j2 40 (⟨0, 0⟩ : Loss)) ?_ ?_
   ·have hr := jk
    refine W_region (mv (rv (vi a1)) (ls (rv (vi a1)) (rv (vi 1)) (mv (rv (vb (decide (a1 < 1)))) ?_)))
    rcases tf (decide (a1 < 1)) with jn | jn
    ·have hr := ite_t jn hr; exact gf 18 (rv (vb (decide (a1 < 1)))) jn (gf 18 (rv (vb (decide (a1 < 1)))) jn (pt (rv (vb (decide (a1 < 1)))) jn (rv (vb true)) (asg (rv (vb true)) (nn ⟨ja, true, rfl, jd, (Le.refl _), Option.some.inj hr, rfl, rfl, rfl, rfl, rfl, (j5).ext jb⟩))))
    ·have hr := ite_f jn hr; exact gt 18 (rv (vb (decide (a1 < 1)))) jn (mv (rv (vi a1)) (gt 18 (rv (vb (decide (a1 < 1)))) jn (L_gtr (rv (vi a1)) (rv (vi 4096)) (by decide) (pf (rv (vb (decide (a1 < 1)))) jn (rv (vb (decide (4096 < a1)))) (asg (rv (vb (decide (4096 < a1)))) (nn ⟨ja, (decide (4096 < a1)), rfl, jd, (Le.refl _), Option.some.inj hr, rfl, rfl, rfl, rfl, rfl, (j5).ext jb⟩))))))
   ·rintro jn jo ⟨jp, jm, rfl, jq, jr, jk, js, jt, ju, jv, jw, jx⟩
    subst jk
    have hr := jl
    try dsimp only at hr
    refine W_cond _ js (fun jy => ?_) (fun jy => ?_)
    ·have hr := ite_t jy hr; refine sr (L_bld40_ (s := jp)   (by decide) (fun jz k0 => L_store ty40 jw (rv jz) k0 (jx) (fun k1 k2 k3 => ?_))); have k4 := Tch.trans jq k2 (fun k hk => Or.inr (by subst hk; exact (Nat.le_trans j0.size j4))); refine asg (rv (vi 3)) (nn (W_ret (block_r ?_))); obtain rfl := Option.some.inj hr; have hr := jh; (try dsimp only at hr); refine then_r ?_; obtain rfl := Option.some.inj hr; exact done_ct (Or.inl rfl) Tryz.results21 ty40 jw (k3) rfl (fun v hv => ⟨_, _, rfl, rfl, k4, _, _, rfl, hv, Vint⟩)
    ·have hr := ite_f jy hr
     refine sr (mv jv (ln Tryz.underlying38 (rv w2) (h2.mono (j3.le.trans (jb.le.trans jr))) (mv jt (ln Tryz.underlying43 (rv w0) (h0.mono (j3.le.trans (jb.le.trans jr))) ?_))))
     obtain ⟨jz, hr⟩ := chk_some hr
     refine L_sub (rv (vi ((a0.length : Int)))) (rv (vi 1)) jz (by decide) (ne (rv (vi ((a2.length : Int)))) (rv (vi ((a0.length : Int) - 1))) (asg (rv (vb (!decide ((a2.length : Int) = ((a0.length : Int) - 1))))) (nn ?_)))
     refine W_cond _ (rv (vb (!decide ((a2.length : Int) = ((a0.length : Int) - 1))))) (fun k0 => ?_) (fun k0 => ?_)
     ·have hr := ite_t k0 hr; refine sr (L_bld40_ (s := jp)   (by decide) (fun k1 k2 => L_store ty40 jw (rv k1) k2 (jx) (fun k3 k4 k5 => ?_))); have k6 := Tch.trans jq k4 (fun k hk => Or.inr (by subst hk; exact (Nat.le_trans j0.size j4))); refine asg (rv (vi 26)) (nn (W_ret (block_r ?_))); obtain rfl := Option.some.inj hr; have hr := jh; (try dsimp only at hr); refine then_r ?_; obtain rfl := Option.some.inj hr; exact done_ct (Or.inl rfl) Tryz.results21 ty40 jw (k5) rfl (fun v hv => ⟨_, _, rfl, rfl, k6, _, _, rfl, hv, Vint⟩)
     ·have hr := ite_f k0 hr
      refine sr (mv jv ?_)
      obtain ⟨k1, k2, hr⟩ := bind_some hr
      refine L_calls cal64 (args2 (rv w2) (rv (Value.func (.func 65) #[] #[]))) (slices_ContainsFunc_Lint_int_ok N _ _ _ (h2.mono (j3.le.trans (jb.le.trans jr))) _ (fun x => check_Lose_1 N x ) (Fn1.mk0 cal65 fun t vx x r hl hv hr => by obtain rfl := hv.int; exact check_Lose_1_ok N t x  r hr) k1 k2) (by decide) (fun k3 k4 k5 k6 => ?_)
      have k7 := Tch.ext jq k5
      obtain rfl := k6.bool
      refine asg (rv (vb k1)) (nn ?_)
      refine W_cond _ (rv (vb k1)) (fun k8 => ?_) (fun k8 => ?_)
      ·have hr := ite_t k8 hr; refine sr (L_bld40_ (s := k4)   (by decide) (fun k9 ka => L_store ty40 jw (rv k9) ka ((jx).ext k5) (fun kb kc kd => ?_))); have ke := Tch.trans k7 kc (fun k hk => Or.inr (by subst hk; exact (Nat.le_trans j0.size j4))); refine asg (rv (vi 3)) (nn (W_ret (block_r ?_))); obtain rfl := Option.some.inj hr; have hr := jh; (try dsimp only at hr); refine then_r ?_; obtain rfl := Option.some.inj hr; exact done_ct (Or.inl rfl) Tryz.results21 ty40 jw (kd) rfl (fun v hv => ⟨_, _, rfl, rfl, ke, _, _, rfl, hv, Vint⟩)
      ·have hr := ite_f k8 hr; refine W_skip (block_n ?_); exact then_n ⟨k4, (⟨0, 0⟩ : Loss), rfl, k7, (jr.trans k5.le), Option.some.inj hr, jt, ju, jv, jw, (jx).ext k5⟩
  ·rintro jj jk ⟨jl, ji, rfl, jm, jn, jg, jo, jp, jq, jr, js⟩; subst jg; have hr := jh; (try dsimp only at hr); refine sr (mv jo (mv jp (mv jq ?_))); obtain ⟨jt, ju, hr⟩ := bind_some hr; refine L_calls cal66 (args3 (rv w0) (rv (vi a1)) (rv w2)) (check_lose_ok N _ _ _ (h0.mono (j3.le.trans (jb.le.trans jn))) a1 _ _ (h2.mono (j3.le.trans (jb.le.trans jn))) jt ju) (by decide) (fun jv jw jx jy => ?_); have jz := Tch.ext jm jx; refine L_store ty40 jr (rv jv) jy ((js).ext jx) (fun k0 k1 k2 => ?_); have k3 := Tch.trans jz k1 (fun k hk => Or.inr (by subst hk; exact (Nat.le_trans j0.size j4))); refine asg (rv (vi 0)) (nn (W_ret ?_)); obtain rfl := Option.some.inj hr; exact done_ct (Or.inl rfl) Tryz.results21 ty40 jr (k2) rfl (fun v hv => ⟨_, _, rfl, rfl, k3, _, _, rfl, hv, Vint⟩)

theorem law14_levels_ok (N : Nat) (s0 : St) (w0 : Value) (a0 : List Level) (h0 : V s0 w0 a0) (r : (List Level)) (hr : law14_levels N a0 = some r) :
    Calls Tryz.prog 22 #[w0] s0.w (Ret s0 fun v s => V s v r) := by
 unfold law14_levels at hr
 have j0 := Ext.refl s0
 refine Calls_of (n := 26) (args := [w0]) Tryz.func22 rfl rfl (by simp) (sr (asg (rv (Value.slice none 0 0)) (nn (sr (asg (rv (Value.slice none 0 0)) (nn (W_seq (sr (asg (rv (vi 0)) (nn ?_))))))))))
 obtain ⟨j1, j2, j3⟩ := bind_some hr
 refine W_cut (fun f w => ∃ (s : St) (j4 : Value) (j5 : List Level), s.w = w ∧ Ext s0 s ∧ Le s0 s ∧ j5 = j1 ∧ f 3 = j4 ∧ Bld s s0.w.heap.size 103 j4 j5) ?_ ?_
 ·refine W_block (W_loop (fun m f w => ∃ (s : St) (j6 : Value) (j7 : List Level) (j8 : Int), s.w = w ∧ Ext s0 s ∧ Le s0 s ∧ law14_levels_l1 N a0 m j7 j8 = some j1 ∧ f 3 = j6 ∧ Bld s s0.w.heap.size 103 j6 j7 ∧ f 4 = vi j8 ∧ f 0 = w0) N ⟨s0, (Value.slice none 0 0), ([]), 0, rfl, j0, (Le.refl _), j2, rfl, Bld.nil, rfl, rfl⟩ ?_)
  rintro j9 ja jb ⟨jc, j6, j7, j8, rfl, jd, je, hr, jf, jg, jh, ji⟩
  cases j9 with
  | zero => exact absurd hr (by simp [law14_levels_l1])
  | succ j9 =>
   rw [law14_levels_l1.eq_2] at hr
   refine W_seq (sr (mv jh (mv ji (ln Tryz.underlying37 (rv w0) (h0.mono je) (ls (rv (vi j8)) (rv (vi ((a0.length : Int)))) (nn ?_))))))
   refine W_cond _ (rv (vb (decide (j8 < (a0.length : Int))))) (fun jj => ?_) (fun jj => ?_)
   ·have hr := ite_t jj hr
    refine W_skip (then_n (W_seq (W_block ?_)))
    obtain ⟨jk, jl, hr⟩ := bind_some hr
    obtain ⟨jm, jn, hr⟩ := bind_some hr
    obtain ⟨jo, hr⟩ := chk_some hr
    refine W_drawO mixed 15 [PX.bld s0.w.heap.size 103 (j7 : List Level), PX.data (a0 : List Level), PX.eq (vi j8), PX.ptr (jk : Level), PX.ptr (jk.Cost : Int), PX.eq (vi (jk.Cost)), PX.data (a0 : List Level), PX.eq (vi j8), PX.ptr (jm : Level), PX.ptr (jm.Mean : Int), PX.eq (vi (jm.Mean)), PX.data ((⟨jk.Cost, jm.Mean⟩ : Level) : Level), PX.data (([(⟨jk.Cost, jm.Mean⟩ : Level)] : List Level) : List Level), PX.bld s0.w.heap.size 103 (j7 ++ ([(⟨jk.Cost, jm.Mean⟩ : Level)] : List Level) : List Level), PX.bld s0.w.heap.size 103 (j7 ++ ([(⟨jk.Cost, jm.Mean⟩ : Level)] : List Level) : List Level), PX.bld s0.w.heap.size 103 (j7 : List Level)] [11, 12, 13, 14, 15, 16, 17, 18, 19, 20, 21, 22, 23, 24, 3, 3] [[15], [], [], [], [], [], [], [], [], [], [], [], [], [0], [13]] rfl (by kernel_rfl) (ent1 rfl (by have hh := jg; rw [← jf] at hh; exact hh)) (dis1 rfl) (StepsX_cons ?_ (StepsX_cons ?_ (StepsX_cons ?_ (StepsX_cons ?_ (StepsX_cons ?_ (StepsX_cons ?_ (StepsX_cons ?_ (StepsX_cons ?_ (StepsX_cons ?_ (StepsX_cons ?_ (StepsX_cons ?_ (StepsX_cons ?_ (StepsX_cons ?_ (StepsX_cons ?_ (StepsX_cons ?_ StepsX_nil))))))))))))))) ?_
    ·intro jp jq jr js jt ju Q jv; obtain ⟨jw, jx, jy⟩ : ∃ v, jp 3 = v ∧ Bld jq s0.w.heap.size 103 v (j7 : List Level) := ⟨_, rfl, js 15 (by kernel_rfl) (by show _ < 16; decide)⟩; exact mv jx (L_nil (jv _ _ No (Ext.refl jq) (fun _ h => h.elim) jy (fun k h => Or.inl ⟨15, (List.mem_singleton.2 rfl : (15 : Nat) ∈ [15]), (by show own (jp 3) k; rw [jx]; exact h)⟩)))
    ·intro jp jq jr js jt ju Q jv; have jw : jp 0 = w0 := (jt 0 (by kernel_rfl)).trans ji; exact mv jw (L_nil (jv _ _ No (Ext.refl jq) (fun _ h => h.elim) (h0.mono (je.trans jr.le)) (fun _ h => h.elim)))
    ·intro jp jq jr js jt ju Q jv; have jw : jp 4 = vi (j8) := (jt 4 (by kernel_rfl)).trans jh; exact mv jw (L_nil (jv _ _ No (Ext.refl jq) (fun _ h => h.elim) rfl (fun _ h => h.elim)))
    ·intro jp jq jr js jt ju Q jv; have jw : V _ (jp 12) (a0 : List Level) := js 1 (by kernel_rfl) (by show _ < 16; decide); obtain ⟨jx, jy, jz⟩ : ∃ v, _ = v ∧ V _ v _ := ⟨_, rfl, jw⟩; have k0 : jp 13 = vi (j8) := js 2 (by kernel_rfl) (by show _ < 16; decide); exact ix Tryz.underlying37 ty128.inf jy jz k0 jl (fun k1 k2 => L_nil (jv _ _ No (Ext.refl jq) (fun _ h => h.elim) k2 (fun _ h => h.elim)))
    ·intro jp jq jr js jt ju Q jv; have jw : Ptr _ (jp 14) (jk : Level) := js 3 (by kernel_rfl) (by show _ < 16; decide); obtain ⟨jx, jy, jz⟩ : ∃ v, _ = v ∧ Ptr _ v _ := ⟨_, rfl, jw⟩; exact fa fld128_0 Level.of_Cost jy jz (fun k0 k1 => L_nil (jv _ _ No (Ext.refl jq) (fun _ h => h.elim) k1 (fun _ h => h.elim)))
    ·intro jp jq jr js jt ju Q jv; have jw : Ptr _ (jp 15) (jk.Cost : Int) := js 4 (by kernel_rfl) (by show _ < 16; decide); obtain ⟨jx, jy, jz⟩ : ∃ v, _ = v ∧ Ptr _ v _ := ⟨_, rfl, jw⟩; exact li ty3 jy jz (L_nil (jv _ _ No (Ext.refl jq) (fun _ h => h.elim) rfl (fun _ h => h.elim)))
    ·intro jp jq jr js jt ju Q jv; have jw : jp 0 = w0 := (jt 0 (by kernel_rfl)).trans ji; exact mv jw (L_nil (jv _ _ No (Ext.refl jq) (fun _ h => h.elim) (h0.mono (je.trans jr.le)) (fun _ h => h.elim)))
    ·intro jp jq jr js jt ju Q jv; have jw : jp 4 = vi (j8) := (jt 4 (by kernel_rfl)).trans jh; exact mv jw (L_nil (jv _ _ No (Ext.refl jq) (fun _ h => h.elim) rfl (fun _ h => h.elim)))
    ·intro jp jq jr js jt ju Q jv; have jw : V _ (jp 17) (a0 : List Level) := js 6 (by kernel_rfl) (by show _ < 16; decide); obtain ⟨jx, jy, jz⟩ : ∃ v, _ = v ∧ V _ v _ := ⟨_, rfl, jw⟩; have k0 : jp 18 = vi (j8) := js 7 (by kernel_rfl) (by show _ < 16; decide); exact ix Tryz.underlying37 ty128.inf jy jz k0 jn (fun k1 k2 => L_nil (jv _ _ No (Ext.refl jq) (fun _ h => h.elim) k2 (fun _ h => h.elim)))
    ·intro jp jq jr js jt ju Q jv; have jw : Ptr _ (jp 19) (jm : Level) := js 8 (by kernel_rfl) (by show _ < 16; decide); obtain ⟨jx, jy, jz⟩ : ∃ v, _ = v ∧ Ptr _ v _ := ⟨_, rfl, jw⟩; exact fa fld128_1 Level.of_Mean jy jz (fun k0 k1 => L_nil (jv _ _ No (Ext.refl jq) (fun _ h => h.elim) k1 (fun _ h => h.elim)))
    ·intro jp jq jr js jt ju Q jv; have jw : Ptr _ (jp 20) (jm.Mean : Int) := js 9 (by kernel_rfl) (by show _ < 16; decide); obtain ⟨jx, jy, jz⟩ : ∃ v, _ = v ∧ Ptr _ v _ := ⟨_, rfl, jw⟩; exact li ty3 jy jz (L_nil (jv _ _ No (Ext.refl jq) (fun _ h => h.elim) rfl (fun _ h => h.elim)))
    ·intro jp jq jr js jt ju Q jv; have jw : jp 16 = vi (jk.Cost) := js 5 (by kernel_rfl) (by show _ < 16; decide); have jx : jp 21 = vi (jm.Mean) := js 10 (by kernel_rfl) (by show _ < 16; decide); exact L_bld103_0_1 (s := jq) jw jx (Vint : V _ _ (jk.Cost : Int)) (Vint : V _ _ (jm.Mean : Int)) (by decide) (fun jy jz => L_nil (jv _ _ No (Ext.refl jq) (fun _ h => h.elim) jz (fun _ h => h.elim)))
    ·intro jp jq jr js jt ju Q jv; have jw : V _ (jp 22) ((⟨jk.Cost, jm.Mean⟩ : Level) : Level) := js 11 (by kernel_rfl) (by show _ < 16; decide); obtain ⟨jx, jy, jz⟩ : ∃ v, _ = v ∧ V _ v _ := ⟨_, rfl, jw⟩; refine L_buildSlice (xs := ([(⟨jk.Cost, jm.Mean⟩ : Level)] : List Level)) Tryz.underlying43 tyz103 (Parts_cons rfl jy Parts_nil) (Vs.cons jz Vs.nil) rfl (by decide) (by decide) (fun k0 k1 k2 k3 k4 => ?_); have k5 := Tch.ext (Ext.refl jq) k2; exact L_nil (jv _ _ No k5 (fun _ h => h.elim) k4 (fun _ h => h.elim))
    ·intro jp jq jr js jt ju Q jv; obtain ⟨jw, jx, jy⟩ : ∃ v, jp 11 = v ∧ Bld jq s0.w.heap.size 103 v (j7 : List Level) := ⟨_, rfl, js 0 (by kernel_rfl) (by show _ < 16; decide)⟩; have jz : V _ (jp 23) (([(⟨jk.Cost, jm.Mean⟩ : Level)] : List Level) : List Level) := js 12 (by kernel_rfl) (by show _ < 16; decide); obtain ⟨k0, k1, k2⟩ : ∃ v, _ = v ∧ V _ v _ := ⟨_, rfl, jz⟩; exact L_append (xs := j7) (B := s0.w.heap.size) Tryz.underlying43 tyz103 jx k1 (jy) (Nat.le_trans jd.size jr.size) k2 jo.1 jo.2 (by decide) (fun k3 k4 k5 => L_nil (jv _ _ _ k5.tch (fun k h => ⟨0, (List.mem_singleton.2 rfl : (0 : Nat) ∈ [0]), (by show own (jp 11) k; rw [jx]; exact h)⟩) k5.bld (fun k h => (k5.own k h).imp (fun h => ⟨0, (List.mem_singleton.2 rfl : (0 : Nat) ∈ [0]), (by show own (jp 11) k; rw [jx]; exact h)⟩) (fun h => h))))
    ·intro jp jq jr js jt ju Q jv; obtain ⟨jw, jx, jy⟩ : ∃ v, jp 24 = v ∧ Bld jq s0.w.heap.size 103 v (j7 ++ ([(⟨jk.Cost, jm.Mean⟩ : Level)] : List Level) : List Level) := ⟨_, rfl, js 13 (by kernel_rfl) (by show _ < 16; decide)⟩; exact asg jx (L_nil (jv _ _ No (Ext.refl jq) (fun _ h => h.elim) jy (fun k h => Or.inl ⟨13, (List.mem_singleton.2 rfl : (13 : Nat) ∈ [13]), (by show own (jp 24) k; rw [jx]; exact h)⟩)))
    ·intro jp jq jr js jt ju jv; have jw := Tch.trans jd jr (fun k h => Or.inr (by have jx := ent_is (k := 15) rfl rfl h; have jy := Eq.mp (congrArg (fun v => own v k) (jf : _ = j6)) jx; exact ((jg).lt jy).1)); obtain ⟨jz, k0, k1⟩ : ∃ v, jp 3 = v ∧ Bld jq s0.w.heap.size 103 v (j7 ++ ([(⟨jk.Cost, jm.Mean⟩ : Level)] : List Level) : List Level) := ⟨_, rfl, js 14 (by show _ < 16; decide) (by kernel_rfl)⟩; have k2 : jp 0 = w0 := (jv 0 (by kernel_rfl)).trans ji; have k3 : jp 4 = vi (j8) := (jv 4 (by kernel_rfl)).trans jh; refine block_n (then_n (W_region (mv k3 ?_))); obtain ⟨k4, hr⟩ := chk_some hr; exact ad (rv (vi j8)) (rv (vi 1)) k4 (asg (rv (vi (j8 + 1))) (nn ⟨j9, Nat.lt_succ_self _, ⟨jq, jz, (j7 ++ ([(⟨jk.Cost, jm.Mean⟩ : Level)] : List Level)), (j8 + 1), rfl, jw, (je.trans jr.le), hr, k0, k1, rfl, k2⟩⟩))
   ·have hr := ite_f jj hr; refine W_exit (then_x (then_x (block_here ?_))); exact then_n ⟨jc, j6, j7, rfl, jd, je, Option.some.inj hr, jf, jg⟩
 ·rintro j6 j7 ⟨j8, j4, j5, rfl, j9, ja, j2, jb, jc⟩; subst j2; have hr := j3; (try dsimp only at hr); refine then_n (sr (mv jb ?_)); have jd := (jc).toV; refine asg (rv j4) (nn (W_ret ?_)); obtain rfl := Option.some.inj hr; exact done1 (Or.inl rfl) Tryz.results22 rfl ⟨_, _, rfl, rfl, j9, jd⟩

theorem ref14_levels_ok (N : Nat) (s0 : St) (w0 : Value) (a0 : List Level) (h0 : V s0 w0 a0) (r : Int) (hr : ref14_levels N a0 = some r) :
    Calls Tryz.prog 67 #[w0] s0.w (Ret s0 fun v s => V s v r) := by
 unfold ref14_levels at hr
 have j0 := Ext.refl s0
 refine Calls_of (n := 48) (args := [w0]) Tryz.func67 rfl rfl (by simp) (sr (asg (rv (vi 0)) (nn (W_seq ?_))))
 obtain ⟨j1, j2, j3⟩ := bind_some hr
 refine W_seq_cut (fun f w => ∃ (s : St) (j4 : Bool), s.w = w ∧ Ext s0 s ∧ Le s0 s ∧ j4 = j1 ∧ f 11 = vb j4 ∧ f 0 = w0) ?_ ?_
 ·have hr := j2
  refine W_region (mv (rv w0) (ln Tryz.underlying37 (rv w0) h0 (ls (rv (vi ((a0.length : Int)))) (rv (vi 1)) (mv (rv (vb (decide ((a0.length : Int) < 1)))) ?_))))
  rcases tf (decide ((a0.length : Int) < 1)) with j5 | j5
  ·have hr := ite_t j5 hr; exact gf 7 (rv (vb (decide ((a0.length : Int) < 1)))) j5 (gf 7 (rv (vb (decide ((a0.length : Int) < 1)))) j5 (gf 7 (rv (vb (decide ((a0.length : Int) < 1)))) j5 (pt (rv (vb (decide ((a0.length : Int) < 1)))) j5 (rv (vb true)) (nn ⟨s0, true, rfl, j0, (Le.refl _), Option.some.inj hr, rfl, rfl⟩))))
  ·have hr := ite_f j5 hr; exact gt 7 (rv (vb (decide ((a0.length : Int) < 1)))) j5 (mv (rv w0) (gt 7 (rv (vb (decide ((a0.length : Int) < 1)))) j5 (ln Tryz.underlying37 (rv w0) h0 (gt 7 (rv (vb (decide ((a0.length : Int) < 1)))) j5 (L_gtr (rv (vi ((a0.length : Int)))) (rv (vi 3)) (by decide) (pf (rv (vb (decide ((a0.length : Int) < 1)))) j5 (rv (vb (decide (3 < (a0.length : Int))))) (nn ⟨s0, (decide (3 < (a0.length : Int))), rfl, j0, (Le.refl _), Option.some.inj hr, rfl, rfl⟩)))))))
 ·rintro j5 j6 ⟨j7, j4, rfl, j8, j9, j2, ja, jb⟩
  subst j2
  have hr := j3
  try dsimp only at hr
  refine W_cond _ ja (fun jc => ?_) (fun jc => ?_)
  ·have hr := ite_t jc hr; refine sr (asg (rv (vi 3)) (nn (W_ret (then_r ?_)))); obtain rfl := Option.some.inj hr; exact done1 (Or.inl rfl) Tryz.results67 rfl ⟨_, _, rfl, rfl, j8, Vint⟩
  ·have hr := ite_f jc hr
   refine W_skip (then_n (W_seq (sr (asg (rv (vi 0)) (nn ?_)))))
   obtain ⟨jd, je, jf⟩ := bind_some hr
   refine W_cut (fun f w => ∃ (s : St), s.w = w ∧ Ext s0 s ∧ Le j7 s ∧ Sum.inl () = jd) ?_ ?_
   ·refine W_block (W_loop (fun m f w => ∃ (s : St) (jg : Int), s.w = w ∧ Ext s0 s ∧ Le j7 s ∧ ref14_levels_l1 N a0 m jg = some jd ∧ f 3 = vi jg ∧ f 0 = w0) N ⟨j7, 0, rfl, j8, (Le.refl _), je, rfl, jb⟩ ?_)
    rintro jh ji jj ⟨jk, jg, rfl, jl, jm, hr, jn, jo⟩
    cases jh with
    | zero => exact absurd hr (by simp [ref14_levels_l1])
    | succ jh =>
     rw [ref14_levels_l1.eq_2] at hr
     refine W_seq (sr (mv jn (mv jo (ln Tryz.underlying37 (rv w0) (h0.mono (j9.trans jm)) (ls (rv (vi jg)) (rv (vi ((a0.length : Int)))) (nn ?_))))))
     refine W_cond _ (rv (vb (decide (jg < (a0.length : Int))))) (fun jp => ?_) (fun jp => ?_)
     ·have hr := ite_t jp hr
      refine W_skip (then_n (W_seq (W_block ?_)))
      obtain ⟨jq, jr, js⟩ := bind_some hr
      refine W_seq_cut (fun f w => ∃ (s : St) (jt : Bool), s.w = w ∧ Ext s0 s ∧ Le jk s ∧ jt = jq ∧ f 47 = vb jt ∧ f 0 = w0 ∧ f 3 = vi (jg)) ?_ ?_
      ·have hr := jr
       refine W_region (mv jo (mv jn ?_))
       obtain ⟨ju, jv, hr⟩ := bind_some hr
       refine ix Tryz.underlying37 ty128.inf (rv w0) (h0.mono (j9.trans jm)) (rv (vi jg)) jv (fun jw jx => fa fld128_0 Level.of_Cost (rv jw) jx (fun jy jz => li ty3 (rv jy) jz (ls (rv (vi (ju.Cost))) (rv (vi 1)) (mv (rv (vb (decide (ju.Cost < 1)))) ?_))))
       rcases tf (decide (ju.Cost < 1)) with k0 | k0
       ·have hr := ite_t k0 hr; refine gf 24 (rv (vb (decide (ju.Cost < 1)))) k0 (gf 24 (rv (vb (decide (ju.Cost < 1)))) k0 (gf 24 (rv (vb (decide (ju.Cost < 1)))) k0 (gf 24 (rv (vb (decide (ju.Cost < 1)))) k0 (gf 24 (rv (vb (decide (ju.Cost < 1)))) k0 (gf 24 (rv (vb (decide (ju.Cost < 1)))) k0 (pt (rv (vb (decide (ju.Cost < 1)))) k0 (rv (vb true)) (mv (rv (vb true)) (gf 32 (rv (vb true)) rfl (gf 32 (rv (vb true)) rfl (gf 32 (rv (vb true)) rfl (gf 32 (rv (vb true)) rfl (gf 32 (rv (vb true)) rfl (gf 32 (rv (vb true)) rfl ?_))))))))))))); exact pt (rv (vb true)) rfl (rv (vb true)) (mv (rv (vb true)) (gf 40 (rv (vb true)) rfl (gf 40 (rv (vb true)) rfl (gf 40 (rv (vb true)) rfl (gf 40 (rv (vb true)) rfl (gf 40 (rv (vb true)) rfl (gf 40 (rv (vb true)) rfl (pt (rv (vb true)) rfl (rv (vb true)) (nn ⟨jk, true, rfl, jl, (Le.refl _), Option.some.inj hr, rfl, jo, jn⟩)))))))))
       ·have hr := ite_f k0 hr
        refine gt 24 (rv (vb (decide (ju.Cost < 1)))) k0 (mv jo (gt 24 (rv (vb (decide (ju.Cost < 1)))) k0 (mv jn (gt 24 (rv (vb (decide (ju.Cost < 1)))) k0 ?_))))
        obtain ⟨k1, k2, hr⟩ := bind_some hr
        refine ix Tryz.underlying37 ty128.inf (rv w0) (h0.mono (j9.trans jm)) (rv (vi jg)) k2 (fun k3 k4 => gt 24 (rv (vb (decide (ju.Cost < 1)))) k0 (fa fld128_0 Level.of_Cost (rv k3) k4 (fun k5 k6 => gt 24 (rv (vb (decide (ju.Cost < 1)))) k0 (li ty3 (rv k5) k6 (gt 24 (rv (vb (decide (ju.Cost < 1)))) k0 (L_gtr (rv (vi (k1.Cost))) (rv (vi 1024)) (by decide) (pf (rv (vb (decide (ju.Cost < 1)))) k0 (rv (vb (decide (1024 < k1.Cost)))) (mv (rv (vb (decide (1024 < k1.Cost)))) ?_))))))))
        rcases tf (decide (1024 < k1.Cost)) with k7 | k7
        ·have hr := ite_t k7 hr; refine gf 32 (rv (vb (decide (1024 < k1.Cost)))) k7 (gf 32 (rv (vb (decide (1024 < k1.Cost)))) k7 (gf 32 (rv (vb (decide (1024 < k1.Cost)))) k7 (gf 32 (rv (vb (decide (1024 < k1.Cost)))) k7 (gf 32 (rv (vb (decide (1024 < k1.Cost)))) k7 (gf 32 (rv (vb (decide (1024 < k1.Cost)))) k7 (pt (rv (vb (decide (1024 < k1.Cost)))) k7 (rv (vb true)) (mv (rv (vb true)) (gf 40 (rv (vb true)) rfl (gf 40 (rv (vb true)) rfl (gf 40 (rv (vb true)) rfl (gf 40 (rv (vb true)) rfl (gf 40 (rv (vb true)) rfl (gf 40 (rv (vb true)) rfl ?_))))))))))))); exact pt (rv (vb true)) rfl (rv (vb true)) (nn ⟨jk, true, rfl, jl, (Le.refl _), Option.some.inj hr, rfl, jo, jn⟩)
        ·have hr := ite_f k7 hr
         refine gt 32 (rv (vb (decide (1024 < k1.Cost)))) k7 (mv jo (gt 32 (rv (vb (decide (1024 < k1.Cost)))) k7 (mv jn (gt 32 (rv (vb (decide (1024 < k1.Cost)))) k7 ?_))))
         obtain ⟨k8, k9, hr⟩ := bind_some hr
         refine ix Tryz.underlying37 ty128.inf (rv w0) (h0.mono (j9.trans jm)) (rv (vi jg)) k9 (fun ka kb => gt 32 (rv (vb (decide (1024 < k1.Cost)))) k7 (fa fld128_1 Level.of_Mean (rv ka) kb (fun kc kd => gt 32 (rv (vb (decide (1024 < k1.Cost)))) k7 (li ty3 (rv kc) kd (gt 32 (rv (vb (decide (1024 < k1.Cost)))) k7 (ls (rv (vi (k8.Mean))) (rv (vi 1)) (pf (rv (vb (decide (1024 < k1.Cost)))) k7 (rv (vb (decide (k8.Mean < 1)))) (mv (rv (vb (decide (k8.Mean < 1)))) ?_))))))))
         rcases tf (decide (k8.Mean < 1)) with ke | ke
         ·have hr := ite_t ke hr; exact gf 40 (rv (vb (decide (k8.Mean < 1)))) ke (gf 40 (rv (vb (decide (k8.Mean < 1)))) ke (gf 40 (rv (vb (decide (k8.Mean < 1)))) ke (gf 40 (rv (vb (decide (k8.Mean < 1)))) ke (gf 40 (rv (vb (decide (k8.Mean < 1)))) ke (gf 40 (rv (vb (decide (k8.Mean < 1)))) ke (pt (rv (vb (decide (k8.Mean < 1)))) ke (rv (vb true)) (nn ⟨jk, true, rfl, jl, (Le.refl _), Option.some.inj hr, rfl, jo, jn⟩)))))))
         ·have hr := ite_f ke hr; refine gt 40 (rv (vb (decide (k8.Mean < 1)))) ke (mv jo (gt 40 (rv (vb (decide (k8.Mean < 1)))) ke (mv jn (gt 40 (rv (vb (decide (k8.Mean < 1)))) ke ?_)))); obtain ⟨kf, kg, hr⟩ := bind_some hr; exact ix Tryz.underlying37 ty128.inf (rv w0) (h0.mono (j9.trans jm)) (rv (vi jg)) kg (fun kh ki => gt 40 (rv (vb (decide (k8.Mean < 1)))) ke (fa fld128_1 Level.of_Mean (rv kh) ki (fun kj kk => gt 40 (rv (vb (decide (k8.Mean < 1)))) ke (li ty3 (rv kj) kk (gt 40 (rv (vb (decide (k8.Mean < 1)))) ke (L_gtr (rv (vi (kf.Mean))) (rv (vi 1024)) (by decide) (pf (rv (vb (decide (k8.Mean < 1)))) ke (rv (vb (decide (1024 < kf.Mean)))) (nn ⟨jk, (decide (1024 < kf.Mean)), rfl, jl, (Le.refl _), Option.some.inj hr, rfl, jo, jn⟩))))))))
      ·rintro ju jv ⟨jw, jt, rfl, jx, jy, jr, jz, k0, k1⟩
       subst jr
       have hr := js
       try dsimp only at hr
       refine W_cond _ jz (fun k2 => ?_) (fun k2 => ?_)
       ·have hr := ite_t k2 hr; refine sr (asg (rv (vi 3)) (nn (W_ret (block_r (then_r (then_r (block_r ?_))))))); obtain rfl := Option.some.inj hr; have hr := jf; (try dsimp only at hr); refine then_r (then_r ?_); obtain rfl := Option.some.inj hr; exact done1 (Or.inl rfl) Tryz.results67 rfl ⟨_, _, rfl, rfl, jx, Vint⟩
       ·have hr := ite_f k2 hr; refine W_skip (block_n (then_n (W_region (mv k1 ?_)))); obtain ⟨k3, hr⟩ := chk_some hr; exact ad (rv (vi jg)) (rv (vi 1)) k3 (asg (rv (vi (jg + 1))) (nn ⟨jh, Nat.lt_succ_self _, ⟨jw, (jg + 1), rfl, jx, (jm.trans jy), hr, rfl, k0⟩⟩))
     ·have hr := ite_f jp hr; refine W_exit (then_x (then_x (block_here ?_))); exact then_n ⟨jk, rfl, jl, jm, Option.some.inj hr⟩
   ·rintro jg jh ⟨ji, rfl, jj, jk, je⟩; subst je; have hr := jf; (try dsimp only at hr); refine then_n (sr (asg (rv (vi 0)) (nn (W_ret ?_)))); obtain rfl := Option.some.inj hr; exact done1 (Or.inl rfl) Tryz.results67 rfl ⟨_, _, rfl, rfl, jj, Vint⟩

theorem ref14_common_ok (N : Nat) (s0 : St) (a0 : Int) (a1 : Int) (r : Int) (hr : ref14_common N a0 a1 = some r) :
    Calls Tryz.prog 118 #[.int .i64 a0, .int .i64 a1] s0.w (Ret s0 fun v s => V s v r) := by
 unfold ref14_common at hr
 have j0 := Ext.refl s0
 refine Calls_of (n := 12) (args := [.int .i64 a0, .int .i64 a1]) Tryz.func118 rfl rfl (by simp) (sr (asg (rv (vi 0)) (nn (W_seq ?_))))
 obtain ⟨j1, j2, j3⟩ := bind_some hr
 refine W_cut (fun f w => ∃ (s : St) (j4 : Int), s.w = w ∧ Ext s0 s ∧ Le s0 s ∧ j4 = j1 ∧ f 0 = vi j4) ?_ ?_
 ·refine W_block (W_loop (fun m f w => ∃ (s : St) (j5 : Int) (j6 : Int), s.w = w ∧ Ext s0 s ∧ Le s0 s ∧ ref14_common_l1 N m j5 j6 = some j1 ∧ f 0 = vi j5 ∧ f 1 = vi j6) N ⟨s0, a0, a1, rfl, j0, (Le.refl _), j2, rfl, rfl⟩ ?_)
  rintro j7 j8 j9 ⟨ja, j5, j6, rfl, jb, jc, hr, jd, je⟩
  cases j7 with
  | zero => exact absurd hr (by simp [ref14_common_l1])
  | succ j7 =>
   rw [ref14_common_l1.eq_2] at hr
   refine W_seq (sr (mv je (ne (rv (vi j6)) (rv (vi 0)) (nn ?_))))
   refine W_cond _ (rv (vb (!decide (j6 = 0)))) (fun jf => ?_) (fun jf => ?_)
   ·have hr := ite_t jf hr
    refine W_skip (then_n (W_block ?_))
    obtain ⟨jg, hr⟩ := chk_some hr
    refine W_draws mixed (by kernel_rfl) [PV.eq (vi j6), PV.eq (vi j5), PV.eq (vi j6), PV.eq (vi (Int.tmod j5 j6)), PV.eq (vi j6), PV.eq (vi (Int.tmod j5 j6))] (Steps_cons ?_ (Steps_cons ?_ (Steps_cons ?_ (Steps_cons ?_ (Steps_cons ?_ (Steps_cons ?_ Steps_nil)))))) ?_
    ·intro jh ji jj jk jl Q jm; have jn : jh 1 = vi (j6) := (jl 1 (by kernel_rfl)).trans je; exact mv jn (fin jm rfl)
    ·intro jh ji jj jk jl Q jm; have jn : jh 0 = vi (j5) := (jl 0 (by kernel_rfl)).trans jd; exact mv jn (fin jm rfl)
    ·intro jh ji jj jk jl Q jm; have jn : jh 1 = vi (j6) := (jl 1 (by kernel_rfl)).trans je; exact mv jn (fin jm rfl)
    ·intro jh ji jj jk jl Q jm; have jn : jh 8 = vi (j5) := jk 1 8 (by kernel_rfl) (by kernel_rfl); have jo : jh 9 = vi (j6) := jk 2 9 (by kernel_rfl) (by kernel_rfl); exact L_rem jn jo jg (by decide) (fin jm rfl)
    ·intro jh ji jj jk jl Q jm; have jn : jh 7 = vi (j6) := jk 0 7 (by kernel_rfl) (by kernel_rfl); exact asg jn (fin jm rfl)
    ·intro jh ji jj jk jl Q jm; have jn : jh 10 = vi (Int.tmod j5 j6) := jk 3 10 (by kernel_rfl) (by kernel_rfl); exact asg jn (fin jm rfl)
    ·intro jh ji jj jk jl; have jm := Tch.ext jb jj; have jn : jh 0 = vi (j6) := jk 4 0 (by kernel_rfl); have jo : jh 1 = vi (Int.tmod j5 j6) := jk 5 1 (by kernel_rfl); refine block_n ?_; exact then_n ⟨j7, Nat.lt_succ_self _, ⟨ji, j6, (Int.tmod j5 j6), rfl, jm, (jc.trans jj.le), hr, jn, jo⟩⟩
   ·have hr := ite_f jf hr; refine W_exit (then_x (then_x (block_here ?_))); exact then_n ⟨ja, j5, rfl, jb, jc, Option.some.inj hr, jd⟩
 ·rintro j5 j6 ⟨j7, j4, rfl, j8, j9, j2, ja⟩; subst j2; have hr := j3; (try dsimp only at hr); refine then_n (sr (mv ja (asg (rv (vi j4)) (nn (W_ret ?_))))); obtain rfl := Option.some.inj hr; exact done1 (Or.inl rfl) Tryz.results118 rfl ⟨_, _, rfl, rfl, j8, Vint⟩

theorem ref14_loss_ok (N : Nat) (s0 : St) (w0 : Value) (a0 : List Level) (h0 : V s0 w0 a0) (a1 : Int) (w2 : Value) (a2 : List Int) (h2 : V s0 w2 a2) (r : Loss) (hr : ref14_loss N a0 a1 a2 = some r) :
    Calls Tryz.prog 68 #[w0, .int .i64 a1, w2] s0.w (Ret s0 fun v s => V s v r) := by
 unfold ref14_loss at hr
 have j0 := Ext.refl s0
 refine Calls_of (n := 106) (args := [w0, .int .i64 a1, w2]) Tryz.func68 rfl rfl (by simp) (sr (L_alloc (α := Loss) (x := ⟨0, 0⟩) zero45 Loss.zero_rel (by decide) (fun j1 j2 j3 j4 j5 => ?_)))
 have j6 := Tch.ext j0 j3
 refine nn (sr (mv (rv (vi a1)) (L_buildSlice (xs := ([a1] : List Int)) Tryz.underlying38 tyz3 (Parts_cons rfl (rv (vi a1)) Parts_nil) (Vs.cons Vint Vs.nil) rfl (by decide) (by decide) (fun j7 j8 j9 ja jb => ?_))))
 have jc := Tch.ext j6 j9
 have jd : ∀ k, (fun k => k = j2) k → ¬ (own j8) k := fun k je h2 => by have jf := (fun k (hk : k = j2) => lt_at hk (j5).lt) k je; have jg := ja; exact absurd ((jg.lt h2).1) (by omega)
 refine asg (rv j8) (nn (sr (asg (rv (vi 2)) (nn (W_seq (sr (asg (rv (vi 0)) (nn ?_))))))))
 obtain ⟨jh, ji, jj⟩ := bind_some hr
 refine W_cut (fun f w => ∃ (s : St) (jk : Value) (jl : List Int) (jm : Int), s.w = w ∧ Ext s0 s ∧ Le j7 s ∧ (jl, jm) = jh ∧ f 7 = jk ∧ Bld s s0.w.heap.size 3 jk jl ∧ f 8 = vi jm ∧ f 0 = w0 ∧ f 6 = Value.pointer (some ⟨j2, 0, none⟩) ∧ Var s j2 45 (⟨0, 0⟩ : Loss) ∧ (∀ k, (own jk) k → ¬ (fun k => k = j2) k)) ?_ ?_
 ·refine W_block (W_loop (fun m f w => ∃ (s : St) (jn : Value) (jo : List Int) (jp : Int) (jq : Int), s.w = w ∧ Ext s0 s ∧ Le j7 s ∧ ref14_loss_l1 N a0 a2 m jo jp jq = some jh ∧ f 7 = jn ∧ Bld s s0.w.heap.size 3 jn jo ∧ f 8 = vi jp ∧ f 9 = vi jq ∧ f 0 = w0 ∧ f 2 = w2 ∧ f 6 = Value.pointer (some ⟨j2, 0, none⟩) ∧ Var s j2 45 (⟨0, 0⟩ : Loss) ∧ (∀ k, (own jn) k → ¬ (fun k => k = j2) k)) N ⟨j7, j8, ([a1] : List Int), 2, 0, rfl, jc, (Le.refl _), ji, rfl, (ja.base j6.size), rfl, rfl, rfl, rfl, rfl, (j5).ext j9, (fun k hk hm => jd k hm hk)⟩ ?_)
  rintro jr js jt ⟨ju, jn, jo, jp, jq, rfl, jv, jw, hr, jx, jy, jz, k0, k1, k2, k3, k4, k5⟩
  cases jr with
  | zero => exact absurd hr (by simp [ref14_loss_l1])
  | succ jr =>
   rw [ref14_loss_l1.eq_2] at hr
   refine W_seq (sr (mv k0 (mv k1 (ln Tryz.underlying37 (rv w0) (h0.mono (j3.le.trans (j9.le.trans jw))) (ls (rv (vi jq)) (rv (vi ((a0.length : Int)))) (nn ?_))))))
   refine W_cond _ (rv (vb (decide (jq < (a0.length : Int))))) (fun k6 => ?_) (fun k6 => ?_)
   ·have hr := ite_t k6 hr
    refine W_skip (then_n (W_seq (W_block (W_seq (sr (mv k0 (L_gtr (rv (vi jq)) (rv (vi 0)) (by decide) (nn ?_))))))))
    refine W_cond _ (rv (vb (decide (0 < jq)))) (fun k7 => ?_) (fun k7 => ?_)
    ·have hr := ite_t k7 hr
     have k8 := (jy).toV
     obtain ⟨k9, hr⟩ := chk_some hr
     obtain ⟨ka, kb, hr⟩ := bind_some hr
     obtain ⟨kc, hr⟩ := chk_some hr
     obtain ⟨kd, ke, hr⟩ := bind_some hr
     obtain ⟨kf, hr⟩ := chk_some hr
     obtain ⟨kg, hr⟩ := chk_some hr
     refine W_drawO mixed 15 [PX.bld s0.w.heap.size 3 (jo : List Int), PX.data (jo : List Int), PX.eq (vi jq), PX.eq (vi (jq - 1)), PX.ptr (ka : Int), PX.eq (vi ka), PX.data (a2 : List Int), PX.eq (vi jq), PX.eq (vi (jq - 1)), PX.ptr (kd : Int), PX.eq (vi kd), PX.eq (vi (ka * kd)), PX.data (([ka * kd] : List Int) : List Int), PX.bld s0.w.heap.size 3 (jo ++ ([ka * kd] : List Int) : List Int), PX.bld s0.w.heap.size 3 (jo ++ ([ka * kd] : List Int) : List Int), PX.bld s0.w.heap.size 3 (jo : List Int)] [23, 24, 25, 26, 27, 28, 29, 30, 31, 32, 33, 34, 35, 36, 7, 7] [[15], [], [], [], [], [], [], [], [], [], [], [], [], [0], [13]] rfl (by kernel_rfl) (ent1 rfl (by have hh := jy; rw [← jx] at hh; exact hh)) (dis1 rfl) (StepsX_cons ?_ (StepsX_cons ?_ (StepsX_cons ?_ (StepsX_cons ?_ (StepsX_cons ?_ (StepsX_cons ?_ (StepsX_cons ?_ (StepsX_cons ?_ (StepsX_cons ?_ (StepsX_cons ?_ (StepsX_cons ?_ (StepsX_cons ?_ (StepsX_cons ?_ (StepsX_cons ?_ (StepsX_cons ?_ StepsX_nil))))))))))))))) ?_
     ·intro kh ki kj kk kl km Q kn; obtain ⟨ko, kp, kq⟩ : ∃ v, kh 7 = v ∧ Bld ki s0.w.heap.size 3 v (jo : List Int) := ⟨_, rfl, kk 15 (by kernel_rfl) (by show _ < 16; decide)⟩; exact mv kp (L_nil (kn _ _ No (Ext.refl ki) (fun _ h => h.elim) kq (fun k h => Or.inl ⟨15, (List.mem_singleton.2 rfl : (15 : Nat) ∈ [15]), (by show own (kh 7) k; rw [kp]; exact h)⟩)))
     ·intro kh ki kj kk kl km Q kn; have ko : kh 7 = jn := (kl 7 (by kernel_rfl)).trans jx; exact mv ko (L_nil (kn _ _ No (Ext.refl ki) (fun _ h => h.elim) (k8.mono kj.le) (fun _ h => h.elim)))
     ·intro kh ki kj kk kl km Q kn; have ko : kh 9 = vi (jq) := (kl 9 (by kernel_rfl)).trans k0; exact mv ko (L_nil (kn _ _ No (Ext.refl ki) (fun _ h => h.elim) rfl (fun _ h => h.elim)))
     ·intro kh ki kj kk kl km Q kn; have ko : kh 25 = vi (jq) := kk 2 (by kernel_rfl) (by show _ < 16; decide); exact L_sub ko (rv (vi 1)) k9 (by decide) (L_nil (kn _ _ No (Ext.refl ki) (fun _ h => h.elim) rfl (fun _ h => h.elim)))
     ·intro kh ki kj kk kl km Q kn; have ko : V _ (kh 24) (jo : List Int) := kk 1 (by kernel_rfl) (by show _ < 16; decide); obtain ⟨kp, kq, kr⟩ : ∃ v, _ = v ∧ V _ v _ := ⟨_, rfl, ko⟩; have ks : kh 26 = vi (jq - 1) := kk 3 (by kernel_rfl) (by show _ < 16; decide); exact ix Tryz.underlying38 ty3.inf kq kr ks kb (fun kt ku => L_nil (kn _ _ No (Ext.refl ki) (fun _ h => h.elim) ku (fun _ h => h.elim)))
     ·intro kh ki kj kk kl km Q kn; have ko : Ptr _ (kh 27) (ka : Int) := kk 4 (by kernel_rfl) (by show _ < 16; decide); obtain ⟨kp, kq, kr⟩ : ∃ v, _ = v ∧ Ptr _ v _ := ⟨_, rfl, ko⟩; exact li ty3 kq kr (L_nil (kn _ _ No (Ext.refl ki) (fun _ h => h.elim) rfl (fun _ h => h.elim)))
     ·intro kh ki kj kk kl km Q kn; have ko : kh 2 = w2 := (kl 2 (by kernel_rfl)).trans k2; exact mv ko (L_nil (kn _ _ No (Ext.refl ki) (fun _ h => h.elim) (h2.mono (j3.le.trans (j9.le.trans (jw.trans kj.le)))) (fun _ h => h.elim)))
     ·intro kh ki kj kk kl km Q kn; have ko : kh 9 = vi (jq) := (kl 9 (by kernel_rfl)).trans k0; exact mv ko (L_nil (kn _ _ No (Ext.refl ki) (fun _ h => h.elim) rfl (fun _ h => h.elim)))
     ·intro kh ki kj kk kl km Q kn; have ko : kh 30 = vi (jq) := kk 7 (by kernel_rfl) (by show _ < 16; decide); exact L_sub ko (rv (vi 1)) kc (by decide) (L_nil (kn _ _ No (Ext.refl ki) (fun _ h => h.elim) rfl (fun _ h => h.elim)))
     ·intro kh ki kj kk kl km Q kn; have ko : V _ (kh 29) (a2 : List Int) := kk 6 (by kernel_rfl) (by show _ < 16; decide); obtain ⟨kp, kq, kr⟩ : ∃ v, _ = v ∧ V _ v _ := ⟨_, rfl, ko⟩; have ks : kh 31 = vi (jq - 1) := kk 8 (by kernel_rfl) (by show _ < 16; decide); exact ix Tryz.underlying38 ty3.inf kq kr ks ke (fun kt ku => L_nil (kn _ _ No (Ext.refl ki) (fun _ h => h.elim) ku (fun _ h => h.elim)))
     ·intro kh ki kj kk kl km Q kn; have ko : Ptr _ (kh 32) (kd : Int) := kk 9 (by kernel_rfl) (by show _ < 16; decide); obtain ⟨kp, kq, kr⟩ : ∃ v, _ = v ∧ Ptr _ v _ := ⟨_, rfl, ko⟩; exact li ty3 kq kr (L_nil (kn _ _ No (Ext.refl ki) (fun _ h => h.elim) rfl (fun _ h => h.elim)))
     ·intro kh ki kj kk kl km Q kn; have ko : kh 28 = vi (ka) := kk 5 (by kernel_rfl) (by show _ < 16; decide); have kp : kh 33 = vi (kd) := kk 10 (by kernel_rfl) (by show _ < 16; decide); exact L_mul ko kp kf (by decide) (L_nil (kn _ _ No (Ext.refl ki) (fun _ h => h.elim) rfl (fun _ h => h.elim)))
     ·intro kh ki kj kk kl km Q kn; have ko : kh 34 = vi (ka * kd) := kk 11 (by kernel_rfl) (by show _ < 16; decide); refine L_buildSlice (xs := ([ka * kd] : List Int)) Tryz.underlying38 tyz3 (Parts_cons rfl ko Parts_nil) (Vs.cons Vint Vs.nil) rfl (by decide) (by decide) (fun kp kq kr ks kt => ?_); have ku := Tch.ext (Ext.refl ki) kr; exact L_nil (kn _ _ No ku (fun _ h => h.elim) kt (fun _ h => h.elim))
     ·intro kh ki kj kk kl km Q kn; obtain ⟨ko, kp, kq⟩ : ∃ v, kh 23 = v ∧ Bld ki s0.w.heap.size 3 v (jo : List Int) := ⟨_, rfl, kk 0 (by kernel_rfl) (by show _ < 16; decide)⟩; have kr : V _ (kh 35) (([ka * kd] : List Int) : List Int) := kk 12 (by kernel_rfl) (by show _ < 16; decide); obtain ⟨ks, kt, ku⟩ : ∃ v, _ = v ∧ V _ v _ := ⟨_, rfl, kr⟩; exact L_append (xs := jo) (B := s0.w.heap.size) Tryz.underlying38 tyz3 kp kt (kq) (Nat.le_trans jv.size kj.size) ku kg.1 kg.2 (by decide) (fun kv kw kx => L_nil (kn _ _ _ kx.tch (fun k h => ⟨0, (List.mem_singleton.2 rfl : (0 : Nat) ∈ [0]), (by show own (kh 23) k; rw [kp]; exact h)⟩) kx.bld (fun k h => (kx.own k h).imp (fun h => ⟨0, (List.mem_singleton.2 rfl : (0 : Nat) ∈ [0]), (by show own (kh 23) k; rw [kp]; exact h)⟩) (fun h => h))))
     ·intro kh ki kj kk kl km Q kn; obtain ⟨ko, kp, kq⟩ : ∃ v, kh 36 = v ∧ Bld ki s0.w.heap.size 3 v (jo ++ ([ka * kd] : List Int) : List Int) := ⟨_, rfl, kk 13 (by kernel_rfl) (by show _ < 16; decide)⟩; exact asg kp (L_nil (kn _ _ No (Ext.refl ki) (fun _ h => h.elim) kq (fun k h => Or.inl ⟨13, (List.mem_singleton.2 rfl : (13 : Nat) ∈ [13]), (by show own (kh 36) k; rw [kp]; exact h)⟩)))
     ·intro kh ki kj kk kl km kn
      have ko := Tch.trans jv kj (fun k h => Or.inr (by have h2 := ent_is (k := 15) rfl rfl h; have jf := Eq.mp (congrArg (fun v => own v k) (jx : _ = jn)) h2; exact ((jy).lt jf).1))
      obtain ⟨kp, kq, kr⟩ : ∃ v, kh 7 = v ∧ Bld ki s0.w.heap.size 3 v (jo ++ ([ka * kd] : List Int) : List Int) := ⟨_, rfl, kk 14 (by show _ < 16; decide) (by kernel_rfl)⟩
      have ks : ∀ k, (fun k => k = j2) k → ¬ (own kp) k := fun k je h2 => (km 14 k (by show _ < 16; decide) (by kernel_rfl) (by show own (kh 7) k; rw [kq]; exact h2)).elim (fun jf => absurd jf (ent_one (k := 15) rfl rfl (fun h2 => (fun k hk hm => k5 k hm hk) _ je (Eq.mp (congrArg (fun v => own v k) (jx : _ = jn)) h2)))) (fun jf => absurd (lt_at je (k4).lt) (Nat.not_lt.2 jf))
      have kt : kh 0 = w0 := (kn 0 (by kernel_rfl)).trans k1
      have ku : kh 2 = w2 := (kn 2 (by kernel_rfl)).trans k2
      have kv : kh 6 = Value.pointer (some ⟨j2, 0, none⟩) := (kn 6 (by kernel_rfl)).trans k3
      have kw : kh 8 = vi (jp) := (kn 8 (by kernel_rfl)).trans jz
      have kx : kh 9 = vi (jq) := (kn 9 (by kernel_rfl)).trans k0
      refine then_n ?_
      obtain ⟨ky, kz, hr⟩ := bind_some hr
      obtain ⟨g0, hr⟩ := chk_some hr
      obtain ⟨g1, g2, hr⟩ := bind_some hr
      obtain ⟨g3, hr⟩ := chk_some hr
      obtain ⟨g4, g5, hr⟩ := bind_some hr
      obtain ⟨g6, hr⟩ := chk_some hr
      obtain ⟨g7, hr⟩ := chk_some hr
      refine W_draws mixed (by kernel_rfl) [PV.eq (vi jp), PV.eq (vi jp), PV.data (a0 : List Level), PV.eq (vi jq), PV.ptr (ky : Level), PV.ptr (ky.Mean : Int), PV.eq (vi (ky.Mean)), PV.eq (vi (2 * ky.Mean)), PV.eq (vi g1), PV.eq (vi (Int.tdiv jp g1)), PV.data (a0 : List Level), PV.eq (vi jq), PV.ptr (g4 : Level), PV.ptr (g4.Mean : Int), PV.eq (vi (g4.Mean)), PV.eq (vi (2 * g4.Mean)), PV.eq (vi ((Int.tdiv jp g1) * (2 * g4.Mean))), PV.eq (vi ((Int.tdiv jp g1) * (2 * g4.Mean)))] (Steps_cons ?_ (Steps_cons ?_ (Steps_cons ?_ (Steps_cons ?_ (Steps_cons ?_ (Steps_cons ?_ (Steps_cons ?_ (Steps_cons ?_ (Steps_cons ?_ (Steps_cons ?_ (Steps_cons ?_ (Steps_cons ?_ (Steps_cons ?_ (Steps_cons ?_ (Steps_cons ?_ (Steps_cons ?_ (Steps_cons ?_ (Steps_cons ?_ Steps_nil)))))))))))))))))) ?_
      ·intro g8 g9 ga gb gc Q gd; have gg : g8 8 = vi (jp) := (gc 8 (by kernel_rfl)).trans kw; exact mv gg (fin gd rfl)
      ·intro g8 g9 ga gb gc Q gd; have gg : g8 8 = vi (jp) := (gc 8 (by kernel_rfl)).trans kw; exact mv gg (fin gd rfl)
      ·intro g8 g9 ga gb gc Q gd; have gg : g8 0 = w0 := (gc 0 (by kernel_rfl)).trans kt; exact mv gg (fin gd (h0.mono (j3.le.trans (j9.le.trans (jw.trans (kj.le.trans ga.le))))))
      ·intro g8 g9 ga gb gc Q gd; have gg : g8 9 = vi (jq) := (gc 9 (by kernel_rfl)).trans kx; exact mv gg (fin gd rfl)
      ·intro g8 g9 ga gb gc Q gd; have gg : V _ (g8 39) (a0 : List Level) := gb 2 39 (by kernel_rfl) (by kernel_rfl); obtain ⟨gh, gi, gj⟩ : ∃ v, _ = v ∧ V _ v _ := ⟨_, rfl, gg⟩; have gk : g8 40 = vi (jq) := gb 3 40 (by kernel_rfl) (by kernel_rfl); exact ix Tryz.underlying37 ty128.inf gi gj gk kz (fun gl gm => fin gd gm)
      ·intro g8 g9 ga gb gc Q gd; have gg : Ptr _ (g8 41) (ky : Level) := gb 4 41 (by kernel_rfl) (by kernel_rfl); obtain ⟨gh, gi, gj⟩ : ∃ v, _ = v ∧ Ptr _ v _ := ⟨_, rfl, gg⟩; exact fa fld128_1 Level.of_Mean gi gj (fun gk gl => fin gd gl)
      ·intro g8 g9 ga gb gc Q gd; have gg : Ptr _ (g8 42) (ky.Mean : Int) := gb 5 42 (by kernel_rfl) (by kernel_rfl); obtain ⟨gh, gi, gj⟩ : ∃ v, _ = v ∧ Ptr _ v _ := ⟨_, rfl, gg⟩; exact li ty3 gi gj (fin gd rfl)
      ·intro g8 g9 ga gb gc Q gd; have gg : g8 43 = vi (ky.Mean) := gb 6 43 (by kernel_rfl) (by kernel_rfl); exact L_mul (rv (vi 2)) gg g0 (by decide) (fin gd rfl)
      ·intro g8 g9 ga gb gc Q gd; have gg : g8 38 = vi (jp) := gb 1 38 (by kernel_rfl) (by kernel_rfl); have gh : g8 44 = vi (2 * ky.Mean) := gb 7 44 (by kernel_rfl) (by kernel_rfl); refine L_calls cal118 (args2 gg gh) (ref14_common_ok N _ jp (2 * ky.Mean) g1 g2) (by decide) (fun gi gj gk gl => ?_); have gm := Tch.ext (Ext.refl g9) gk; obtain rfl := gl.int; exact L_nil (gd _ _ gm rfl)
      ·intro g8 g9 ga gb gc Q gd; have gg : g8 37 = vi (jp) := gb 0 37 (by kernel_rfl) (by kernel_rfl); have gh : g8 45 = vi (g1) := gb 8 45 (by kernel_rfl) (by kernel_rfl); exact L_quo gg gh g3.1 g3.2 (by decide) (fin gd rfl)
      ·intro g8 g9 ga gb gc Q gd; have gg : g8 0 = w0 := (gc 0 (by kernel_rfl)).trans kt; exact mv gg (fin gd (h0.mono (j3.le.trans (j9.le.trans (jw.trans (kj.le.trans ga.le))))))
      ·intro g8 g9 ga gb gc Q gd; have gg : g8 9 = vi (jq) := (gc 9 (by kernel_rfl)).trans kx; exact mv gg (fin gd rfl)
      ·intro g8 g9 ga gb gc Q gd; have gg : V _ (g8 47) (a0 : List Level) := gb 10 47 (by kernel_rfl) (by kernel_rfl); obtain ⟨gh, gi, gj⟩ : ∃ v, _ = v ∧ V _ v _ := ⟨_, rfl, gg⟩; have gk : g8 48 = vi (jq) := gb 11 48 (by kernel_rfl) (by kernel_rfl); exact ix Tryz.underlying37 ty128.inf gi gj gk g5 (fun gl gm => fin gd gm)
      ·intro g8 g9 ga gb gc Q gd; have gg : Ptr _ (g8 49) (g4 : Level) := gb 12 49 (by kernel_rfl) (by kernel_rfl); obtain ⟨gh, gi, gj⟩ : ∃ v, _ = v ∧ Ptr _ v _ := ⟨_, rfl, gg⟩; exact fa fld128_1 Level.of_Mean gi gj (fun gk gl => fin gd gl)
      ·intro g8 g9 ga gb gc Q gd; have gg : Ptr _ (g8 50) (g4.Mean : Int) := gb 13 50 (by kernel_rfl) (by kernel_rfl); obtain ⟨gh, gi, gj⟩ : ∃ v, _ = v ∧ Ptr _ v _ := ⟨_, rfl, gg⟩; exact li ty3 gi gj (fin gd rfl)
      ·intro g8 g9 ga gb gc Q gd; have gg : g8 51 = vi (g4.Mean) := gb 14 51 (by kernel_rfl) (by kernel_rfl); exact L_mul (rv (vi 2)) gg g6 (by decide) (fin gd rfl)
      ·intro g8 g9 ga gb gc Q gd; have gg : g8 46 = vi (Int.tdiv jp g1) := gb 9 46 (by kernel_rfl) (by kernel_rfl); have gh : g8 52 = vi (2 * g4.Mean) := gb 15 52 (by kernel_rfl) (by kernel_rfl); exact L_mul gg gh g7 (by decide) (fin gd rfl)
      ·intro g8 g9 ga gb gc Q gd; have gg : g8 53 = vi ((Int.tdiv jp g1) * (2 * g4.Mean)) := gb 16 53 (by kernel_rfl) (by kernel_rfl); exact asg gg (fin gd rfl)
      ·intro g8 g9 ga gb gc; have gd := Tch.ext ko ga; have gg : g8 0 = w0 := (gc 0 (by kernel_rfl)).trans kt; have gh : g8 2 = w2 := (gc 2 (by kernel_rfl)).trans ku; have gi : g8 6 = Value.pointer (some ⟨j2, 0, none⟩) := (gc 6 (by kernel_rfl)).trans kv; have gj : g8 7 = kp := (gc 7 (by kernel_rfl)).trans kq; have gk : g8 8 = vi ((Int.tdiv jp g1) * (2 * g4.Mean)) := gb 17 8 (by kernel_rfl); have gl : g8 9 = vi (jq) := (gc 9 (by kernel_rfl)).trans kx; refine block_n (then_n (W_region (mv gl ?_))); obtain ⟨gm, hr⟩ := chk_some hr; exact ad (rv (vi jq)) (rv (vi 1)) gm (asg (rv (vi (jq + 1))) (nn ⟨jr, Nat.lt_succ_self _, ⟨g9, kp, (jo ++ ([ka * kd] : List Int)), ((Int.tdiv jp g1) * (2 * g4.Mean)), (jq + 1), rfl, gd, (jw.trans (kj.le.trans ga.le)), hr, gj, (kr).ext ga, gk, rfl, gg, gh, gi, ((k4).tch kj (ent_one (k := 15) rfl rfl (fun h2 => (fun j2 hk hm => k5 j2 hm hk) _ rfl (Eq.mp (congrArg (fun v => own v j2) (jx : _ = jn)) h2)))).ext ga, (fun k hk hm => ks k hm hk)⟩⟩))
    ·have hr := ite_f k7 hr
     refine W_skip (then_n ?_)
     obtain ⟨k8, k9, hr⟩ := bind_some hr
     obtain ⟨ka, hr⟩ := chk_some hr
     obtain ⟨kb, kc, hr⟩ := bind_some hr
     obtain ⟨kd, hr⟩ := chk_some hr
     obtain ⟨ke, kf, hr⟩ := bind_some hr
     obtain ⟨kg, hr⟩ := chk_some hr
     obtain ⟨kh, hr⟩ := chk_some hr
     refine W_draws mixed (by kernel_rfl) [PV.eq (vi jp), PV.eq (vi jp), PV.data (a0 : List Level), PV.eq (vi jq), PV.ptr (k8 : Level), PV.ptr (k8.Mean : Int), PV.eq (vi (k8.Mean)), PV.eq (vi (2 * k8.Mean)), PV.eq (vi kb), PV.eq (vi (Int.tdiv jp kb)), PV.data (a0 : List Level), PV.eq (vi jq), PV.ptr (ke : Level), PV.ptr (ke.Mean : Int), PV.eq (vi (ke.Mean)), PV.eq (vi (2 * ke.Mean)), PV.eq (vi ((Int.tdiv jp kb) * (2 * ke.Mean))), PV.eq (vi ((Int.tdiv jp kb) * (2 * ke.Mean)))] (Steps_cons ?_ (Steps_cons ?_ (Steps_cons ?_ (Steps_cons ?_ (Steps_cons ?_ (Steps_cons ?_ (Steps_cons ?_ (Steps_cons ?_ (Steps_cons ?_ (Steps_cons ?_ (Steps_cons ?_ (Steps_cons ?_ (Steps_cons ?_ (Steps_cons ?_ (Steps_cons ?_ (Steps_cons ?_ (Steps_cons ?_ (Steps_cons ?_ Steps_nil)))))))))))))))))) ?_
     ·intro ki kj kk kl km Q kn; have ko : ki 8 = vi (jp) := (km 8 (by kernel_rfl)).trans jz; exact mv ko (fin kn rfl)
     ·intro ki kj kk kl km Q kn; have ko : ki 8 = vi (jp) := (km 8 (by kernel_rfl)).trans jz; exact mv ko (fin kn rfl)
     ·intro ki kj kk kl km Q kn; have ko : ki 0 = w0 := (km 0 (by kernel_rfl)).trans k1; exact mv ko (fin kn (h0.mono (j3.le.trans (j9.le.trans (jw.trans kk.le)))))
     ·intro ki kj kk kl km Q kn; have ko : ki 9 = vi (jq) := (km 9 (by kernel_rfl)).trans k0; exact mv ko (fin kn rfl)
     ·intro ki kj kk kl km Q kn; have ko : V _ (ki 39) (a0 : List Level) := kl 2 39 (by kernel_rfl) (by kernel_rfl); obtain ⟨kp, kq, kr⟩ : ∃ v, _ = v ∧ V _ v _ := ⟨_, rfl, ko⟩; have ks : ki 40 = vi (jq) := kl 3 40 (by kernel_rfl) (by kernel_rfl); exact ix Tryz.underlying37 ty128.inf kq kr ks k9 (fun kt ku => fin kn ku)
     ·intro ki kj kk kl km Q kn; have ko : Ptr _ (ki 41) (k8 : Level) := kl 4 41 (by kernel_rfl) (by kernel_rfl); obtain ⟨kp, kq, kr⟩ : ∃ v, _ = v ∧ Ptr _ v _ := ⟨_, rfl, ko⟩; exact fa fld128_1 Level.of_Mean kq kr (fun ks kt => fin kn kt)
     ·intro ki kj kk kl km Q kn; have ko : Ptr _ (ki 42) (k8.Mean : Int) := kl 5 42 (by kernel_rfl) (by kernel_rfl); obtain ⟨kp, kq, kr⟩ : ∃ v, _ = v ∧ Ptr _ v _ := ⟨_, rfl, ko⟩; exact li ty3 kq kr (fin kn rfl)
     ·intro ki kj kk kl km Q kn; have ko : ki 43 = vi (k8.Mean) := kl 6 43 (by kernel_rfl) (by kernel_rfl); exact L_mul (rv (vi 2)) ko ka (by decide) (fin kn rfl)
     ·intro ki kj kk kl km Q kn; have ko : ki 38 = vi (jp) := kl 1 38 (by kernel_rfl) (by kernel_rfl); have kp : ki 44 = vi (2 * k8.Mean) := kl 7 44 (by kernel_rfl) (by kernel_rfl); refine L_calls cal118 (args2 ko kp) (ref14_common_ok N _ jp (2 * k8.Mean) kb kc) (by decide) (fun kq kr ks kt => ?_); have ku := Tch.ext (Ext.refl kj) ks; obtain rfl := kt.int; exact L_nil (kn _ _ ku rfl)
     ·intro ki kj kk kl km Q kn; have ko : ki 37 = vi (jp) := kl 0 37 (by kernel_rfl) (by kernel_rfl); have kp : ki 45 = vi (kb) := kl 8 45 (by kernel_rfl) (by kernel_rfl); exact L_quo ko kp kd.1 kd.2 (by decide) (fin kn rfl)
     ·intro ki kj kk kl km Q kn; have ko : ki 0 = w0 := (km 0 (by kernel_rfl)).trans k1; exact mv ko (fin kn (h0.mono (j3.le.trans (j9.le.trans (jw.trans kk.le)))))
     ·intro ki kj kk kl km Q kn; have ko : ki 9 = vi (jq) := (km 9 (by kernel_rfl)).trans k0; exact mv ko (fin kn rfl)
     ·intro ki kj kk kl km Q kn; have ko : V _ (ki 47) (a0 : List Level) := kl 10 47 (by kernel_rfl) (by kernel_rfl); obtain ⟨kp, kq, kr⟩ : ∃ v, _ = v ∧ V _ v _ := ⟨_, rfl, ko⟩; have ks : ki 48 = vi (jq) := kl 11 48 (by kernel_rfl) (by kernel_rfl); exact ix Tryz.underlying37 ty128.inf kq kr ks kf (fun kt ku => fin kn ku)
     ·intro ki kj kk kl km Q kn; have ko : Ptr _ (ki 49) (ke : Level) := kl 12 49 (by kernel_rfl) (by kernel_rfl); obtain ⟨kp, kq, kr⟩ : ∃ v, _ = v ∧ Ptr _ v _ := ⟨_, rfl, ko⟩; exact fa fld128_1 Level.of_Mean kq kr (fun ks kt => fin kn kt)
     ·intro ki kj kk kl km Q kn; have ko : Ptr _ (ki 50) (ke.Mean : Int) := kl 13 50 (by kernel_rfl) (by kernel_rfl); obtain ⟨kp, kq, kr⟩ : ∃ v, _ = v ∧ Ptr _ v _ := ⟨_, rfl, ko⟩; exact li ty3 kq kr (fin kn rfl)
     ·intro ki kj kk kl km Q kn; have ko : ki 51 = vi (ke.Mean) := kl 14 51 (by kernel_rfl) (by kernel_rfl); exact L_mul (rv (vi 2)) ko kg (by decide) (fin kn rfl)
     ·intro ki kj kk kl km Q kn; have ko : ki 46 = vi (Int.tdiv jp kb) := kl 9 46 (by kernel_rfl) (by kernel_rfl); have kp : ki 52 = vi (2 * ke.Mean) := kl 15 52 (by kernel_rfl) (by kernel_rfl); exact L_mul ko kp kh (by decide) (fin kn rfl)
     ·intro ki kj kk kl km Q kn; have ko : ki 53 = vi ((Int.tdiv jp kb) * (2 * ke.Mean)) := kl 16 53 (by kernel_rfl) (by kernel_rfl); exact asg ko (fin kn rfl)
     ·intro ki kj kk kl km; have kn := Tch.ext jv kk; have ko : ki 0 = w0 := (km 0 (by kernel_rfl)).trans k1; have kp : ki 2 = w2 := (km 2 (by kernel_rfl)).trans k2; have kq : ki 6 = Value.pointer (some ⟨j2, 0, none⟩) := (km 6 (by kernel_rfl)).trans k3; have kr : ki 7 = jn := (km 7 (by kernel_rfl)).trans jx; have ks : ki 8 = vi ((Int.tdiv jp kb) * (2 * ke.Mean)) := kl 17 8 (by kernel_rfl); have kt : ki 9 = vi (jq) := (km 9 (by kernel_rfl)).trans k0; refine block_n (then_n (W_region (mv kt ?_))); obtain ⟨ku, hr⟩ := chk_some hr; exact ad (rv (vi jq)) (rv (vi 1)) ku (asg (rv (vi (jq + 1))) (nn ⟨jr, Nat.lt_succ_self _, ⟨kj, jn, jo, ((Int.tdiv jp kb) * (2 * ke.Mean)), (jq + 1), rfl, kn, (jw.trans kk.le), hr, kr, (jy).ext kk, ks, rfl, ko, kp, kq, (k4).ext kk, k5⟩⟩))
   ·have hr := ite_f k6 hr; refine W_exit (then_x (then_x (block_here ?_))); exact then_n ⟨ju, jn, jo, jp, rfl, jv, jw, Option.some.inj hr, jx, jy, jz, k1, k3, k4, k5⟩
 ·rintro jn jo ⟨jp, jk, jl, jm, rfl, jq, jr, ji, js, jt, ju, jv, jw, jx, jy⟩
  subst ji
  have hr := jj
  try dsimp only at hr
  refine then_n (sr (mv ju (mv js ?_)))
  have jz := (jt).toV
  refine mv jv (ln Tryz.underlying37 (rv w0) (h0.mono (j3.le.trans (j9.le.trans jr))) ?_)
  obtain ⟨k0, hr⟩ := chk_some hr
  refine L_sub (rv (vi ((a0.length : Int)))) (rv (vi 1)) k0 (by decide) ?_
  obtain ⟨k1, k2, hr⟩ := bind_some hr
  refine ix Tryz.underlying38 ty3.inf (rv jk) jz (rv (vi ((a0.length : Int) - 1))) k2 (fun k3 k4 => li ty3 (rv k3) k4 ?_)
  obtain ⟨k5, hr⟩ := chk_some hr
  refine L_mul (rv (vi jm)) (rv (vi k1)) k5 (by decide) (asg (rv (vi (jm * k1))) (nn (sr (asg (rv (vi 0)) (nn (W_seq (sr (asg (rv (vi 0)) (nn ?_)))))))))
  obtain ⟨k6, k7, k8⟩ := bind_some hr
  refine W_cut (fun f w => ∃ (s : St) (k9 : Int), s.w = w ∧ Ext s0 s ∧ Le jp s ∧ k9 = k6 ∧ f 10 = vi k9 ∧ f 6 = Value.pointer (some ⟨j2, 0, none⟩) ∧ f 8 = vi (jm * k1) ∧ Var s j2 45 (⟨0, 0⟩ : Loss)) ?_ ?_
  ·refine W_block (W_loop (fun m f w => ∃ (s : St) (ka : Int) (kb : Int), s.w = w ∧ Ext s0 s ∧ Le jp s ∧ ref14_loss_l2 N a0 jl jm k1 m ka kb = some k6 ∧ f 10 = vi ka ∧ f 11 = vi kb ∧ f 0 = w0 ∧ f 6 = Value.pointer (some ⟨j2, 0, none⟩) ∧ f 7 = jk ∧ f 8 = vi (jm * k1) ∧ Var s j2 45 (⟨0, 0⟩ : Loss) ∧ Bld s s0.w.heap.size 3 jk jl) N ⟨jp, 0, 0, rfl, jq, (Le.refl _), k7, rfl, rfl, jv, jw, js, rfl, jx, jt⟩ ?_)
   rintro kc kd ke ⟨kf, ka, kb, rfl, kg, kh, hr, ki, kj, kk, kl, km, kn, ko, kp⟩
   cases kc with
   | zero => exact absurd hr (by simp [ref14_loss_l2])
   | succ kc =>
    rw [ref14_loss_l2.eq_2] at hr
    refine W_seq (sr (mv kj (mv kk (ln Tryz.underlying37 (rv w0) (h0.mono (j3.le.trans (j9.le.trans (jr.trans kh)))) (ls (rv (vi kb)) (rv (vi ((a0.length : Int)))) (nn ?_))))))
    refine W_cond _ (rv (vb (decide (kb < (a0.length : Int))))) (fun kq => ?_) (fun kq => ?_)
    ·have hr := ite_t kq hr
     refine W_skip (then_n (W_seq (W_block ?_)))
     obtain ⟨kr, ks, hr⟩ := bind_some hr
     obtain ⟨kt, hr⟩ := chk_some hr
     obtain ⟨ku, kv, hr⟩ := bind_some hr
     obtain ⟨kw, hr⟩ := chk_some hr
     obtain ⟨kx, ky, hr⟩ := bind_some hr
     obtain ⟨kz, hr⟩ := chk_some hr
     obtain ⟨g0, hr⟩ := chk_some hr
     obtain ⟨g1, g2, hr⟩ := bind_some hr
     obtain ⟨g3, hr⟩ := chk_some hr
     obtain ⟨g4, hr⟩ := chk_some hr
     obtain ⟨g5, hr⟩ := chk_some hr
     refine W_draws mixed (by kernel_rfl) [PV.eq (vi ka), PV.eq (vi (jm * k1)), PV.data (jl : List Int), PV.eq (vi kb), PV.ptr (kr : Int), PV.eq (vi kr), PV.eq (vi (Int.tdiv (jm * k1) kr)), PV.data (a0 : List Level), PV.eq (vi kb), PV.ptr (ku : Level), PV.ptr (ku.Cost : Int), PV.eq (vi (ku.Cost)), PV.eq (vi ((Int.tdiv (jm * k1) kr) * ku.Cost)), PV.eq (vi (jm * k1)), PV.data (a0 : List Level), PV.eq (vi kb), PV.ptr (kx : Level), PV.ptr (kx.Mean : Int), PV.eq (vi (kx.Mean)), PV.eq (vi (2 * kx.Mean)), PV.eq (vi (Int.tdiv (jm * k1) (2 * kx.Mean))), PV.data (jl : List Int), PV.eq (vi kb), PV.ptr (g1 : Int), PV.eq (vi g1), PV.eq (vi ((Int.tdiv (jm * k1) (2 * kx.Mean)) * g1)), PV.eq (vi ((Int.tdiv (jm * k1) kr) * ku.Cost + ((Int.tdiv (jm * k1) (2 * kx.Mean)) * g1))), PV.eq (vi (ka + ((Int.tdiv (jm * k1) kr) * ku.Cost + ((Int.tdiv (jm * k1) (2 * kx.Mean)) * g1)))), PV.eq (vi (ka + ((Int.tdiv (jm * k1) kr) * ku.Cost + ((Int.tdiv (jm * k1) (2 * kx.Mean)) * g1))))] (Steps_cons ?_ (Steps_cons ?_ (Steps_cons ?_ (Steps_cons ?_ (Steps_cons ?_ (Steps_cons ?_ (Steps_cons ?_ (Steps_cons ?_ (Steps_cons ?_ (Steps_cons ?_ (Steps_cons ?_ (Steps_cons ?_ (Steps_cons ?_ (Steps_cons ?_ (Steps_cons ?_ (Steps_cons ?_ (Steps_cons ?_ (Steps_cons ?_ (Steps_cons ?_ (Steps_cons ?_ (Steps_cons ?_ (Steps_cons ?_ (Steps_cons ?_ (Steps_cons ?_ (Steps_cons ?_ (Steps_cons ?_ (Steps_cons ?_ (Steps_cons ?_ (Steps_cons ?_ Steps_nil))))))))))))))))))))))))))))) ?_
     ·intro g6 g7 g8 g9 ga Q gb; have gc : g6 10 = vi (ka) := (ga 10 (by kernel_rfl)).trans ki; exact mv gc (fin gb rfl)
     ·intro g6 g7 g8 g9 ga Q gb; have gc : g6 8 = vi (jm * k1) := (ga 8 (by kernel_rfl)).trans kn; exact mv gc (fin gb rfl)
     ·intro g6 g7 g8 g9 ga Q gb; have gc : g6 7 = jk := (ga 7 (by kernel_rfl)).trans km; refine mv gc ?_; have gd := ((kp).ext g8).toV; exact fin gb gd
     ·intro g6 g7 g8 g9 ga Q gb; have gc : g6 11 = vi (kb) := (ga 11 (by kernel_rfl)).trans kj; exact mv gc (fin gb rfl)
     ·intro g6 g7 g8 g9 ga Q gb; have gc : V _ (g6 70) (jl : List Int) := g9 2 70 (by kernel_rfl) (by kernel_rfl); obtain ⟨gd, gg, gh⟩ : ∃ v, _ = v ∧ V _ v _ := ⟨_, rfl, gc⟩; have gi : g6 71 = vi (kb) := g9 3 71 (by kernel_rfl) (by kernel_rfl); exact ix Tryz.underlying38 ty3.inf gg gh gi ks (fun gj gk => fin gb gk)
     ·intro g6 g7 g8 g9 ga Q gb; have gc : Ptr _ (g6 72) (kr : Int) := g9 4 72 (by kernel_rfl) (by kernel_rfl); obtain ⟨gd, gg, gh⟩ : ∃ v, _ = v ∧ Ptr _ v _ := ⟨_, rfl, gc⟩; exact li ty3 gg gh (fin gb rfl)
     ·intro g6 g7 g8 g9 ga Q gb; have gc : g6 69 = vi (jm * k1) := g9 1 69 (by kernel_rfl) (by kernel_rfl); have gd : g6 73 = vi (kr) := g9 5 73 (by kernel_rfl) (by kernel_rfl); exact L_quo gc gd kt.1 kt.2 (by decide) (fin gb rfl)
     ·intro g6 g7 g8 g9 ga Q gb; have gc : g6 0 = w0 := (ga 0 (by kernel_rfl)).trans kk; exact mv gc (fin gb (h0.mono (j3.le.trans (j9.le.trans (jr.trans (kh.trans g8.le))))))
     ·intro g6 g7 g8 g9 ga Q gb; have gc : g6 11 = vi (kb) := (ga 11 (by kernel_rfl)).trans kj; exact mv gc (fin gb rfl)
     ·intro g6 g7 g8 g9 ga Q gb; have gc : V _ (g6 75) (a0 : List Level) := g9 7 75 (by kernel_rfl) (by kernel_rfl); obtain ⟨gd, gg, gh⟩ : ∃ v, _ = v ∧ V _ v _ := ⟨_, rfl, gc⟩; have gi : g6 76 = vi (kb) := g9 8 76 (by kernel_rfl) (by kernel_rfl); exact ix Tryz.underlying37 ty128.inf gg gh gi kv (fun gj gk => fin gb gk)
     ·intro g6 g7 g8 g9 ga Q gb; have gc : Ptr _ (g6 77) (ku : Level) := g9 9 77 (by kernel_rfl) (by kernel_rfl); obtain ⟨gd, gg, gh⟩ : ∃ v, _ = v ∧ Ptr _ v _ := ⟨_, rfl, gc⟩; exact fa fld128_0 Level.of_Cost gg gh (fun gi gj => fin gb gj)
     ·intro g6 g7 g8 g9 ga Q gb; have gc : Ptr _ (g6 78) (ku.Cost : Int) := g9 10 78 (by kernel_rfl) (by kernel_rfl); obtain ⟨gd, gg, gh⟩ : ∃ v, _ = v ∧ Ptr _ v _ := ⟨_, rfl, gc⟩; exact li ty3 gg gh (fin gb rfl)
     ·intro g6 g7 g8 g9 ga Q gb; have gc : g6 74 = vi (Int.tdiv (jm * k1) kr) := g9 6 74 (by kernel_rfl) (by kernel_rfl); have gd : g6 79 = vi (ku.Cost) := g9 11 79 (by kernel_rfl) (by kernel_rfl); exact L_mul gc gd kw (by decide) (fin gb rfl)
     ·intro g6 g7 g8 g9 ga Q gb; have gc : g6 8 = vi (jm * k1) := (ga 8 (by kernel_rfl)).trans kn; exact mv gc (fin gb rfl)
     ·intro g6 g7 g8 g9 ga Q gb; have gc : g6 0 = w0 := (ga 0 (by kernel_rfl)).trans kk; exact mv gc (fin gb (h0.mono (j3.le.trans (j9.le.trans (jr.trans (kh.trans g8.le))))))
     ·intro g6 g7 g8 g9 ga Q gb; have gc : g6 11 = vi (kb) := (ga 11 (by kernel_rfl)).trans kj; exact mv gc (fin gb rfl)
     ·intro g6 g7 g8 g9 ga Q gb; have gc : V _ (g6 82) (a0 : List Level) := g9 14 82 (by kernel_rfl) (by kernel_rfl); obtain ⟨gd, gg, gh⟩ : ∃ v, _ = v ∧ V _ v _ := ⟨_, rfl, gc⟩; have gi : g6 83 = vi (kb) := g9 15 83 (by kernel_rfl) (by kernel_rfl); exact ix Tryz.underlying37 ty128.inf gg gh gi ky (fun gj gk => fin gb gk)
     ·intro g6 g7 g8 g9 ga Q gb; have gc : Ptr _ (g6 84) (kx : Level) := g9 16 84 (by kernel_rfl) (by kernel_rfl); obtain ⟨gd, gg, gh⟩ : ∃ v, _ = v ∧ Ptr _ v _ := ⟨_, rfl, gc⟩; exact fa fld128_1 Level.of_Mean gg gh (fun gi gj => fin gb gj)
     ·intro g6 g7 g8 g9 ga Q gb; have gc : Ptr _ (g6 85) (kx.Mean : Int) := g9 17 85 (by kernel_rfl) (by kernel_rfl); obtain ⟨gd, gg, gh⟩ : ∃ v, _ = v ∧ Ptr _ v _ := ⟨_, rfl, gc⟩; exact li ty3 gg gh (fin gb rfl)
     ·intro g6 g7 g8 g9 ga Q gb; have gc : g6 86 = vi (kx.Mean) := g9 18 86 (by kernel_rfl) (by kernel_rfl); exact L_mul (rv (vi 2)) gc kz (by decide) (fin gb rfl)
     ·intro g6 g7 g8 g9 ga Q gb; have gc : g6 81 = vi (jm * k1) := g9 13 81 (by kernel_rfl) (by kernel_rfl); have gd : g6 87 = vi (2 * kx.Mean) := g9 19 87 (by kernel_rfl) (by kernel_rfl); exact L_quo gc gd g0.1 g0.2 (by decide) (fin gb rfl)
     ·intro g6 g7 g8 g9 ga Q gb; have gc : g6 7 = jk := (ga 7 (by kernel_rfl)).trans km; refine mv gc ?_; have gd := ((kp).ext g8).toV; exact fin gb gd
     ·intro g6 g7 g8 g9 ga Q gb; have gc : g6 11 = vi (kb) := (ga 11 (by kernel_rfl)).trans kj; exact mv gc (fin gb rfl)
     ·intro g6 g7 g8 g9 ga Q gb; have gc : V _ (g6 89) (jl : List Int) := g9 21 89 (by kernel_rfl) (by kernel_rfl); obtain ⟨gd, gg, gh⟩ : ∃ v, _ = v ∧ V _ v _ := ⟨_, rfl, gc⟩; have gi : g6 90 = vi (kb) := g9 22 90 (by kernel_rfl) (by kernel_rfl); exact ix Tryz.underlying38 ty3.inf gg gh gi g2 (fun gj gk => fin gb gk)
     ·intro g6 g7 g8 g9 ga Q gb; have gc : Ptr _ (g6 91) (g1 : Int) := g9 23 91 (by kernel_rfl) (by kernel_rfl); obtain ⟨gd, gg, gh⟩ : ∃ v, _ = v ∧ Ptr _ v _ := ⟨_, rfl, gc⟩; exact li ty3 gg gh (fin gb rfl)
     ·intro g6 g7 g8 g9 ga Q gb; have gc : g6 88 = vi (Int.tdiv (jm * k1) (2 * kx.Mean)) := g9 20 88 (by kernel_rfl) (by kernel_rfl); have gd : g6 92 = vi (g1) := g9 24 92 (by kernel_rfl) (by kernel_rfl); exact L_mul gc gd g3 (by decide) (fin gb rfl)
     ·intro g6 g7 g8 g9 ga Q gb; have gc : g6 80 = vi ((Int.tdiv (jm * k1) kr) * ku.Cost) := g9 12 80 (by kernel_rfl) (by kernel_rfl); have gd : g6 93 = vi ((Int.tdiv (jm * k1) (2 * kx.Mean)) * g1) := g9 25 93 (by kernel_rfl) (by kernel_rfl); exact ad gc gd g4 (fin gb rfl)
     ·intro g6 g7 g8 g9 ga Q gb; have gc : g6 68 = vi (ka) := g9 0 68 (by kernel_rfl) (by kernel_rfl); have gd : g6 94 = vi ((Int.tdiv (jm * k1) kr) * ku.Cost + ((Int.tdiv (jm * k1) (2 * kx.Mean)) * g1)) := g9 26 94 (by kernel_rfl) (by kernel_rfl); exact ad gc gd g5 (fin gb rfl)
     ·intro g6 g7 g8 g9 ga Q gb; have gc : g6 95 = vi (ka + ((Int.tdiv (jm * k1) kr) * ku.Cost + ((Int.tdiv (jm * k1) (2 * kx.Mean)) * g1))) := g9 27 95 (by kernel_rfl) (by kernel_rfl); exact asg gc (fin gb rfl)
     ·intro g6 g7 g8 g9 ga; have gb := Tch.ext kg g8; have gc : g6 0 = w0 := (ga 0 (by kernel_rfl)).trans kk; have gd : g6 6 = Value.pointer (some ⟨j2, 0, none⟩) := (ga 6 (by kernel_rfl)).trans kl; have gg : g6 7 = jk := (ga 7 (by kernel_rfl)).trans km; have gh : g6 8 = vi (jm * k1) := (ga 8 (by kernel_rfl)).trans kn; have gi : g6 10 = vi (ka + ((Int.tdiv (jm * k1) kr) * ku.Cost + ((Int.tdiv (jm * k1) (2 * kx.Mean)) * g1))) := g9 28 10 (by kernel_rfl); have gj : g6 11 = vi (kb) := (ga 11 (by kernel_rfl)).trans kj; refine block_n (then_n (W_region (mv gj ?_))); obtain ⟨gk, hr⟩ := chk_some hr; exact ad (rv (vi kb)) (rv (vi 1)) gk (asg (rv (vi (kb + 1))) (nn ⟨kc, Nat.lt_succ_self _, ⟨g7, (ka + ((Int.tdiv (jm * k1) kr) * ku.Cost + ((Int.tdiv (jm * k1) (2 * kx.Mean)) * g1))), (kb + 1), rfl, gb, (kh.trans g8.le), hr, gi, rfl, gc, gd, gg, gh, (ko).ext g8, (kp).ext g8⟩⟩))
    ·have hr := ite_f kq hr; refine W_exit (then_x (then_x (block_here ?_))); exact then_n ⟨kf, ka, rfl, kg, kh, Option.some.inj hr, ki, kl, kn, ko⟩
  ·rintro ka kb ⟨kc, k9, rfl, kd, ke, k7, kf, kg, kh, ki⟩
   subst k7
   have hr := k8
   try dsimp only at hr
   refine then_n (sr (mv kf (mv kh ?_)))
   obtain ⟨kj, kk, hr⟩ := bind_some hr
   refine L_calls cal118 (args2 (rv (vi k9)) (rv (vi (jm * k1)))) (ref14_common_ok N _ k9 (jm * k1) kj kk) (by decide) (fun kl km kn ko => ?_)
   have kp := Tch.ext kd kn
   obtain rfl := ko.int
   refine asg (rv (vi kj)) (nn (W_seq ?_))
   obtain ⟨kq, hr⟩ := chk_some hr
   obtain ⟨kr, hr⟩ := chk_some hr
   refine W_drawO mixed 8 [PX.eq (vi k9), PX.eq (vi kj), PX.eq (vi (Int.tdiv k9 kj)), PX.eq (vi (jm * k1)), PX.eq (vi kj), PX.eq (vi (Int.tdiv (jm * k1) kj)), PX.data ((⟨Int.tdiv k9 kj, Int.tdiv (jm * k1) kj⟩ : Loss) : Loss), PX.var s0.w.heap.size 45 ((⟨Int.tdiv k9 kj, Int.tdiv (jm * k1) kj⟩ : Loss) : Loss), PX.var s0.w.heap.size 45 ((⟨0, 0⟩ : Loss) : Loss)] [99, 100, 101, 102, 103, 104, 105, 6, 6] [[], [], [], [], [], [], [], [8]] rfl (by kernel_rfl) (ent1 rfl ⟨j2, kg, (Nat.le_trans j0.size j4), (ki).ext kn⟩) (dis1 rfl) (StepsX_cons ?_ (StepsX_cons ?_ (StepsX_cons ?_ (StepsX_cons ?_ (StepsX_cons ?_ (StepsX_cons ?_ (StepsX_cons ?_ (StepsX_cons ?_ StepsX_nil)))))))) ?_
   ·intro ks kt ku kv kw kx Q ky; have kz : ks 10 = vi (k9) := (kw 10 (by kernel_rfl)).trans kf; exact mv kz (L_nil (ky _ _ No (Ext.refl kt) (fun _ h => h.elim) rfl (fun _ h => h.elim)))
   ·intro ks kt ku kv kw kx Q ky; have kz : ks 12 = vi (kj) := (kw 12 (by kernel_rfl)).trans rfl; exact mv kz (L_nil (ky _ _ No (Ext.refl kt) (fun _ h => h.elim) rfl (fun _ h => h.elim)))
   ·intro ks kt ku kv kw kx Q ky; have kz : ks 99 = vi (k9) := kv 0 (by kernel_rfl) (by show _ < 9; decide); have g0 : ks 100 = vi (kj) := kv 1 (by kernel_rfl) (by show _ < 9; decide); exact L_quo kz g0 kq.1 kq.2 (by decide) (L_nil (ky _ _ No (Ext.refl kt) (fun _ h => h.elim) rfl (fun _ h => h.elim)))
   ·intro ks kt ku kv kw kx Q ky; have kz : ks 8 = vi (jm * k1) := (kw 8 (by kernel_rfl)).trans kh; exact mv kz (L_nil (ky _ _ No (Ext.refl kt) (fun _ h => h.elim) rfl (fun _ h => h.elim)))
   ·intro ks kt ku kv kw kx Q ky; have kz : ks 12 = vi (kj) := (kw 12 (by kernel_rfl)).trans rfl; exact mv kz (L_nil (ky _ _ No (Ext.refl kt) (fun _ h => h.elim) rfl (fun _ h => h.elim)))
   ·intro ks kt ku kv kw kx Q ky; have kz : ks 102 = vi (jm * k1) := kv 3 (by kernel_rfl) (by show _ < 9; decide); have g0 : ks 103 = vi (kj) := kv 4 (by kernel_rfl) (by show _ < 9; decide); exact L_quo kz g0 kr.1 kr.2 (by decide) (L_nil (ky _ _ No (Ext.refl kt) (fun _ h => h.elim) rfl (fun _ h => h.elim)))
   ·intro ks kt ku kv kw kx Q ky; have kz : ks 101 = vi (Int.tdiv k9 kj) := kv 2 (by kernel_rfl) (by show _ < 9; decide); have g0 : ks 104 = vi (Int.tdiv (jm * k1) kj) := kv 5 (by kernel_rfl) (by show _ < 9; decide); exact L_bld45_0_1 (s := kt) kz g0 (Vint : V _ _ (Int.tdiv k9 kj : Int)) (Vint : V _ _ (Int.tdiv (jm * k1) kj : Int)) (by decide) (fun g1 g2 => L_nil (ky _ _ No (Ext.refl kt) (fun _ h => h.elim) g2 (fun _ h => h.elim)))
   ·intro ks kt ku kv kw kx Q ky
    obtain ⟨kz, g0, g1, g2⟩ : ∃ b, ks 6 = Value.pointer (some ⟨b, 0, none⟩) ∧ s0.w.heap.size ≤ b ∧ Var kt b 45 ((⟨0, 0⟩ : Loss) : Loss) := kv 8 (by kernel_rfl) (by show _ < 9; decide)
    have g3 : ks 6 = Value.pointer (some ⟨j2, 0, none⟩) := (kw 6 (by kernel_rfl)).trans kg
    have g4 : kz = j2 := by have jf := g0.symm.trans g3; cases jf; rfl
    rw [g4] at g1 g2
    have g5 : V _ (ks 105) ((⟨Int.tdiv k9 kj, Int.tdiv (jm * k1) kj⟩ : Loss) : Loss) := kv 6 (by kernel_rfl) (by show _ < 9; decide)
    obtain ⟨g6, g7, g8⟩ : ∃ v, _ = v ∧ V _ v _ := ⟨_, rfl, g5⟩
    exact L_store ty45 g3 g7 g8 (g2) (fun g9 ga gb => L_nil (ky undef _ _ ga (fun k h => ⟨8, (List.mem_singleton.2 rfl : (8 : Nat) ∈ [8]), (by show ownP (ks 6) k; rw [g3]; exact congrArg (fun z => Value.pointer (some ⟨z, 0, none⟩)) h.symm)⟩) ⟨_, g3, g1, gb⟩ (fun k h => Or.inl ⟨8, (List.mem_singleton.2 rfl : (8 : Nat) ∈ [8]), h⟩)))
   ·intro ks kt ku kv kw kx ky
    have kz := Tch.trans kp ku (fun k h => Or.inr (by have h2 := ent_is (k := 8) rfl rfl h; have jf := Eq.mp (congrArg (fun v => ownP v k) (kg : _ = Value.pointer (some ⟨j2, 0, none⟩))) h2; cases jf; exact (Nat.le_trans j0.size j4)))
    obtain ⟨g0, g1, g2, g3⟩ : ∃ b, ks 6 = Value.pointer (some ⟨b, 0, none⟩) ∧ s0.w.heap.size ≤ b ∧ Var kt b 45 ((⟨Int.tdiv k9 kj, Int.tdiv (jm * k1) kj⟩ : Loss) : Loss) := kv 7 (by show _ < 9; decide) (by kernel_rfl)
    have g4 : ks 6 = Value.pointer (some ⟨j2, 0, none⟩) := (ky 6 (by kernel_rfl)).trans kg
    have g5 : g0 = j2 := by have jf := g1.symm.trans g4; cases jf; rfl
    rw [g5] at g2 g3
    refine then_n (W_ret ?_)
    obtain rfl := Option.some.inj hr
    exact done_c (Or.inl rfl) Tryz.results68 ty45 g4 (g3) (fun v hv => ⟨_, _, rfl, rfl, kz, hv⟩)

theorem ref14_Lose_ok (N : Nat) (s0 : St) (w0 : Value) (a0 : List Level) (h0 : V s0 w0 a0) (a1 : Int) (w2 : Value) (a2 : List Int) (h2 : V s0 w2 a2) (r : Loss × Int) (hr : ref14_Lose N a0 a1 a2 = some r) :
    Calls Tryz.prog 23 #[w0, .int .i64 a1, w2] s0.w (Ret s0 fun v s => ∃ a b, v = .tuple #[a, b] ∧ V s a r.1 ∧ V s b r.2) := by
 unfold ref14_Lose at hr
 have j0 := Ext.refl s0
 refine Calls_of (n := 53) (args := [w0, .int .i64 a1, w2]) Tryz.func23 rfl rfl (by simp) (sr (L_alloc (α := Loss) (x := ⟨0, 0⟩) zero45 Loss.zero_rel (by decide) (fun j1 j2 j3 j4 j5 => ?_)))
 have j6 := Tch.ext j0 j3
 refine asg (rv (vi 0)) (nn (sr (mv (rv w0) ?_)))
 obtain ⟨j7, j8, hr⟩ := bind_some hr
 refine L_calls cal67 (args1 (rv w0)) (ref14_levels_ok N _ _ _ (h0.mono j3.le) j7 j8) (by decide) (fun j9 ja jb jc => ?_)
 have jd := Tch.ext j6 jb
 obtain rfl := jc.int
 refine asg (rv (vi j7)) (nn (W_seq (sr (mv (rv (vi j7)) (ne (rv (vi j7)) (rv (vi 0)) (nn ?_))))))
 refine W_cond _ (rv (vb (!decide (j7 = 0)))) (fun je => ?_) (fun je => ?_)
 ·have hr := ite_t je hr; refine sr (L_bld45_ (s := ja)   (by decide) (fun jf jg => mv (rv (vi j7)) (L_store ty45 (rv (Value.pointer (some ⟨j2, 0, none⟩))) (rv jf) jg ((j5).ext jb) (fun jh ji jj => ?_)))); have jk := Tch.trans jd ji (fun k hk => Or.inr (by subst hk; exact (Nat.le_trans j0.size j4))); refine asg (rv (vi j7)) (nn (W_ret (then_r ?_))); obtain rfl := Option.some.inj hr; exact done_ct (Or.inl rfl) Tryz.results23 ty45 rfl (jj) rfl (fun v hv => ⟨_, _, rfl, rfl, jk, _, _, rfl, hv, Vint⟩)
 ·have hr := ite_f je hr
  refine W_skip (then_n (W_seq ?_))
  obtain ⟨jf, jg, jh⟩ := bind_some hr
  refine W_seq_cut (fun f w => ∃ (s : St) (ji : Bool), s.w = w ∧ Ext s0 s ∧ Le ja s ∧ ji = jf ∧ f 21 = vb ji ∧ f 0 = w0 ∧ f 1 = vi (a1) ∧ f 2 = w2 ∧ f 6 = Value.pointer (some ⟨j2, 0, none⟩) ∧ Var s j2 45 (⟨0, 0⟩ : Loss)) ?_ ?_
  ·have hr := jg
   refine W_region (mv (rv (vi a1)) (ls (rv (vi a1)) (rv (vi 1)) (mv (rv (vb (decide (a1 < 1)))) ?_)))
   rcases tf (decide (a1 < 1)) with jj | jj
   ·have hr := ite_t jj hr; exact gf 18 (rv (vb (decide (a1 < 1)))) jj (gf 18 (rv (vb (decide (a1 < 1)))) jj (pt (rv (vb (decide (a1 < 1)))) jj (rv (vb true)) (nn ⟨ja, true, rfl, jd, (Le.refl _), Option.some.inj hr, rfl, rfl, rfl, rfl, rfl, (j5).ext jb⟩)))
   ·have hr := ite_f jj hr; exact gt 18 (rv (vb (decide (a1 < 1)))) jj (mv (rv (vi a1)) (gt 18 (rv (vb (decide (a1 < 1)))) jj (L_gtr (rv (vi a1)) (rv (vi 4096)) (by decide) (pf (rv (vb (decide (a1 < 1)))) jj (rv (vb (decide (4096 < a1)))) (nn ⟨ja, (decide (4096 < a1)), rfl, jd, (Le.refl _), Option.some.inj hr, rfl, rfl, rfl, rfl, rfl, (j5).ext jb⟩)))))
  ·rintro jj jk ⟨jl, ji, rfl, jm, jn, jg, jo, jp, jq, jr, js, jt⟩
   subst jg
   have hr := jh
   try dsimp only at hr
   refine W_cond _ jo (fun ju => ?_) (fun ju => ?_)
   ·have hr := ite_t ju hr; refine sr (L_bld45_ (s := jl)   (by decide) (fun jv jw => L_store ty45 js (rv jv) jw (jt) (fun jx jy jz => ?_))); have k0 := Tch.trans jm jy (fun k hk => Or.inr (by subst hk; exact (Nat.le_trans j0.size j4))); refine asg (rv (vi 3)) (nn (W_ret (then_r ?_))); obtain rfl := Option.some.inj hr; exact done_ct (Or.inl rfl) Tryz.results23 ty45 js (jz) rfl (fun v hv => ⟨_, _, rfl, rfl, k0, _, _, rfl, hv, Vint⟩)
   ·have hr := ite_f ju hr
    refine W_skip (then_n (W_seq (sr (mv jr (ln Tryz.underlying38 (rv w2) (h2.mono (j3.le.trans (jb.le.trans jn))) (mv jp (ln Tryz.underlying37 (rv w0) (h0.mono (j3.le.trans (jb.le.trans jn))) ?_)))))))
    obtain ⟨jv, hr⟩ := chk_some hr
    refine L_sub (rv (vi ((a0.length : Int)))) (rv (vi 1)) jv (by decide) (ne (rv (vi ((a2.length : Int)))) (rv (vi ((a0.length : Int) - 1))) (nn ?_))
    refine W_cond _ (rv (vb (!decide ((a2.length : Int) = ((a0.length : Int) - 1))))) (fun jw => ?_) (fun jw => ?_)
    ·have hr := ite_t jw hr; refine sr (L_bld45_ (s := jl)   (by decide) (fun jx jy => L_store ty45 js (rv jx) jy (jt) (fun jz k0 k1 => ?_))); have k2 := Tch.trans jm k0 (fun k hk => Or.inr (by subst hk; exact (Nat.le_trans j0.size j4))); refine asg (rv (vi 26)) (nn (W_ret (then_r ?_))); obtain rfl := Option.some.inj hr; exact done_ct (Or.inl rfl) Tryz.results23 ty45 js (k1) rfl (fun v hv => ⟨_, _, rfl, rfl, k2, _, _, rfl, hv, Vint⟩)
    ·have hr := ite_f jw hr
     refine W_skip (then_n (W_seq (sr (asg (rv (vi 0)) (nn ?_)))))
     obtain ⟨jx, jy, jz⟩ := bind_some hr
     refine W_cut (fun f w => ∃ (s : St) (k0 : Loss), s.w = w ∧ Ext s0 s ∧ Le jl s ∧ Sum.inl k0 = jx ∧ f 0 = w0 ∧ f 1 = vi (a1) ∧ f 2 = w2 ∧ f 6 = Value.pointer (some ⟨j2, 0, none⟩) ∧ Var s j2 45 k0) ?_ ?_
     ·refine W_block (W_loop (fun m f w => ∃ (s : St) (k1 : Int) (k2 : Loss), s.w = w ∧ Ext s0 s ∧ Le jl s ∧ ref14_Lose_l1 N a2 m k1 k2 = some jx ∧ f 9 = vi k1 ∧ f 0 = w0 ∧ f 1 = vi (a1) ∧ f 2 = w2 ∧ f 6 = Value.pointer (some ⟨j2, 0, none⟩) ∧ Var s j2 45 k2) N ⟨jl, 0, (⟨0, 0⟩ : Loss), rfl, jm, (Le.refl _), jy, rfl, jp, jq, jr, js, jt⟩ ?_)
      rintro k3 k4 k5 ⟨k6, k1, k2, rfl, k7, k8, hr, k9, ka, kb, kc, kd, ke⟩
      cases k3 with
      | zero => exact absurd hr (by simp [ref14_Lose_l1])
      | succ k3 =>
       rw [ref14_Lose_l1.eq_2] at hr
       refine W_seq (sr (mv k9 (mv kc (ln Tryz.underlying38 (rv w2) (h2.mono (j3.le.trans (jb.le.trans (jn.trans k8)))) (ls (rv (vi k1)) (rv (vi ((a2.length : Int)))) (nn ?_))))))
       refine W_cond _ (rv (vb (decide (k1 < (a2.length : Int))))) (fun kf => ?_) (fun kf => ?_)
       ·have hr := ite_t kf hr
        refine W_skip (then_n (W_seq (W_block ?_)))
        obtain ⟨kg, kh, ki⟩ := bind_some hr
        refine W_seq_cut (fun f w => ∃ (s : St) (kj : Bool), s.w = w ∧ Ext s0 s ∧ Le k6 s ∧ kj = kg ∧ f 47 = vb kj ∧ f 0 = w0 ∧ f 1 = vi (a1) ∧ f 2 = w2 ∧ f 6 = Value.pointer (some ⟨j2, 0, none⟩) ∧ f 9 = vi (k1) ∧ Var s j2 45 k2) ?_ ?_
        ·have hr := kh
         refine W_region (mv kc (mv k9 ?_))
         obtain ⟨kk, kl, hr⟩ := bind_some hr
         refine ix Tryz.underlying38 ty3.inf (rv w2) (h2.mono (j3.le.trans (jb.le.trans (jn.trans k8)))) (rv (vi k1)) kl (fun km kn => li ty3 (rv km) kn (ls (rv (vi kk)) (rv (vi 1)) (mv (rv (vb (decide (kk < 1)))) ?_)))
         rcases tf (decide (kk < 1)) with ko | ko
         ·have hr := ite_t ko hr; exact gf 41 (rv (vb (decide (kk < 1)))) ko (gf 41 (rv (vb (decide (kk < 1)))) ko (gf 41 (rv (vb (decide (kk < 1)))) ko (gf 41 (rv (vb (decide (kk < 1)))) ko (gf 41 (rv (vb (decide (kk < 1)))) ko (pt (rv (vb (decide (kk < 1)))) ko (rv (vb true)) (nn ⟨k6, true, rfl, k7, (Le.refl _), Option.some.inj hr, rfl, ka, kb, kc, kd, k9, ke⟩))))))
         ·have hr := ite_f ko hr; refine gt 41 (rv (vb (decide (kk < 1)))) ko (mv kc (gt 41 (rv (vb (decide (kk < 1)))) ko (mv k9 (gt 41 (rv (vb (decide (kk < 1)))) ko ?_)))); obtain ⟨kp, kq, hr⟩ := bind_some hr; exact ix Tryz.underlying38 ty3.inf (rv w2) (h2.mono (j3.le.trans (jb.le.trans (jn.trans k8)))) (rv (vi k1)) kq (fun kr ks => gt 41 (rv (vb (decide (kk < 1)))) ko (li ty3 (rv kr) ks (gt 41 (rv (vb (decide (kk < 1)))) ko (L_gtr (rv (vi kp)) (rv (vi 8)) (by decide) (pf (rv (vb (decide (kk < 1)))) ko (rv (vb (decide (8 < kp)))) (nn ⟨k6, (decide (8 < kp)), rfl, k7, (Le.refl _), Option.some.inj hr, rfl, ka, kb, kc, kd, k9, ke⟩))))))
        ·rintro kk kl ⟨km, kj, rfl, kn, ko, kh, kp, kq, kr, ks, kt, ku, kv⟩
         subst kh
         have hr := ki
         try dsimp only at hr
         refine W_cond _ kp (fun kw => ?_) (fun kw => ?_)
         ·have hr := ite_t kw hr; refine sr (L_bld45_ (s := km)   (by decide) (fun kx ky => L_store ty45 kt (rv kx) ky (kv) (fun kz g0 g1 => ?_))); have g2 := Tch.trans kn g0 (fun k hk => Or.inr (by subst hk; exact (Nat.le_trans j0.size j4))); refine asg (rv (vi 3)) (nn (W_ret (block_r (then_r (then_r (block_r ?_)))))); obtain rfl := Option.some.inj hr; have hr := jz; (try dsimp only at hr); refine then_r (then_r ?_); obtain rfl := Option.some.inj hr; exact done_ct (Or.inl rfl) Tryz.results23 ty45 kt (g1) rfl (fun v hv => ⟨_, _, rfl, rfl, g2, _, _, rfl, hv, Vint⟩)
         ·have hr := ite_f kw hr; refine W_skip (block_n (then_n (W_region (mv ku ?_)))); obtain ⟨kx, hr⟩ := chk_some hr; exact ad (rv (vi k1)) (rv (vi 1)) kx (asg (rv (vi (k1 + 1))) (nn ⟨k3, Nat.lt_succ_self _, ⟨km, (k1 + 1), k2, rfl, kn, (k8.trans ko), hr, rfl, kq, kr, ks, kt, kv⟩⟩))
       ·have hr := ite_f kf hr; refine W_exit (then_x (then_x (block_here ?_))); exact then_n ⟨k6, k2, rfl, k7, k8, Option.some.inj hr, ka, kb, kc, kd, ke⟩
     ·rintro k1 k2 ⟨k3, k0, rfl, k4, k5, jy, k6, k7, k8, k9, ka⟩; subst jy; have hr := jz; (try dsimp only at hr); refine then_n (sr (mv k6 (mv k7 (mv k8 ?_)))); obtain ⟨kb, kc, hr⟩ := bind_some hr; refine L_calls cal68 (args3 (rv w0) (rv (vi a1)) (rv w2)) (ref14_loss_ok N _ _ _ (h0.mono (j3.le.trans (jb.le.trans (jn.trans k5)))) a1 _ _ (h2.mono (j3.le.trans (jb.le.trans (jn.trans k5)))) kb kc) (by decide) (fun kd ke kf kg => ?_); have kh := Tch.ext k4 kf; refine L_store ty45 k9 (rv kd) kg ((ka).ext kf) (fun ki kj kk => ?_); have kl := Tch.trans kh kj (fun k hk => Or.inr (by subst hk; exact (Nat.le_trans j0.size j4))); refine asg (rv (vi 0)) (nn (W_ret ?_)); obtain rfl := Option.some.inj hr; exact done_ct (Or.inl rfl) Tryz.results23 ty45 k9 (kk) rfl (fun v hv => ⟨_, _, rfl, rfl, kl, _, _, rfl, hv, Vint⟩)

theorem slices_Clone_Lint_int_ok (N : Nat) (s0 : St) (w0 : Value) (a0 : List Int) (h0 : V s0 w0 a0) (r : (List Int)) (hr : slices_Clone_Lint_int N a0 = some r) :
    Calls Tryz.prog 74 #[w0] s0.w (Ret s0 fun v s => Bld s s0.w.heap.size 3 v r) := by
 unfold slices_Clone_Lint_int at hr
 have j0 := Ext.refl s0
 refine Calls_of (n := 8) (args := [w0]) Tryz.func74 rfl rfl (by simp) (sr (asg (rv (Value.slice none 0 0)) (nn (W_seq (sr (mv (rv w0) (L_eqNil Tryz.underlying38 (rv w0) h0 (by decide) (fun j1 j2 => nn ?_))))))))
 refine W_cond _ (rv (vb j1)) (fun j3 => ?_) (fun _ => ?_)
 ·obtain rfl := j2 j3; obtain ⟨_, hr⟩ := chk_some hr; refine sr (asg (rv (Value.slice none 0 0)) (nn (W_ret (then_r ?_)))); obtain rfl := Option.some.inj hr; exact done1 (Or.inl rfl) Tryz.results74 rfl ⟨_, _, rfl, rfl, j0, Bld.nil⟩
 ·refine W_skip (then_n (sr (L_buildSlice (xs := ([] : List Int)) Tryz.underlying38 tyz3 Parts_nil Vs.nil rfl (by decide) (by decide) (fun j4 j5 j6 j7 j8 => ?_)))); have j9 := Tch.ext j0 j6; refine mv (rv w0) ?_; obtain ⟨ja, hr⟩ := chk_some hr; refine L_append (xs := ([] : List Int)) (B := s0.w.heap.size) Tryz.underlying38 tyz3 (rv j5) (rv w0) ((j7.base j0.size)) (j9.size) (h0.mono j6.le) ja.1 ja.2 (by decide) (fun jb jc jd => ?_); have je := jd.tchM ((j7.base j0.size)) j9 (Nat.le_refl _); refine asg (rv jb) (nn (W_ret ?_)); obtain rfl := Option.some.inj hr; exact done1 (Or.inl rfl) Tryz.results74 rfl ⟨_, _, rfl, rfl, je, jd.bld⟩

theorem math_bits_Mul64_ok (N : Nat) (s0 : St) (a0 : U64) (a1 : U64) (r : U64 × U64) (hr : math_bits_Mul64 N a0 a1 = some r) :
    Calls Tryz.prog 120 #[.int .u64 a0.n, .int .u64 a1.n] s0.w (Ret s0 fun v s => ∃ a b, v = .tuple #[a, b] ∧ V s a r.1 ∧ V s b r.2) := by
 unfold math_bits_Mul64 at hr
 have j0 := Ext.refl s0
 refine Calls_of (n := 51) (args := [.int .u64 a0.n, .int .u64 a1.n]) Tryz.func120 rfl rfl (by simp) (sr (asg (rv (Value.int .u64 ((⟨0⟩ : U64)).n)) (asg (rv (Value.int .u64 ((⟨0⟩ : U64)).n)) (nn (sr (mv (rv (Value.int .u64 (a0).n)) (L_andK (rv (Value.int .u64 (a0).n)) (rv (Value.int .u64 ((⟨4294967295⟩ : U64)).n)) (by decide) (asg (rv (Value.int .u64 ((⟨andK .u64 a0.n (⟨4294967295⟩ : U64).n⟩ : U64)).n)) (nn (sr (mv (rv (Value.int .u64 (a0).n)) ?_)))))))))))
 obtain ⟨j1, hr⟩ := chk_some hr
 refine L_shrK (rv (Value.int .u64 (a0).n)) (rv (Value.int .u64 ((⟨32⟩ : U64)).n)) j1 (by decide) (asg (rv (Value.int .u64 ((⟨shrK .u64 a0.n (⟨32⟩ : U64).n⟩ : U64)).n)) (nn (sr (mv (rv (Value.int .u64 (a1).n)) (L_andK (rv (Value.int .u64 (a1).n)) (rv (Value.int .u64 ((⟨4294967295⟩ : U64)).n)) (by decide) (asg (rv (Value.int .u64 ((⟨andK .u64 a1.n (⟨4294967295⟩ : U64).n⟩ : U64)).n)) (nn (sr (mv (rv (Value.int .u64 (a1).n)) ?_)))))))))
 obtain ⟨j2, hr⟩ := chk_some hr
 refine L_shrK (rv (Value.int .u64 (a1).n)) (rv (Value.int .u64 ((⟨32⟩ : U64)).n)) j2 (by decide) (asg (rv (Value.int .u64 ((⟨shrK .u64 a1.n (⟨32⟩ : U64).n⟩ : U64)).n)) (nn (sr (mv (rv (Value.int .u64 ((⟨andK .u64 a0.n (⟨4294967295⟩ : U64).n⟩ : U64)).n)) (mv (rv (Value.int .u64 ((⟨andK .u64 a1.n (⟨4294967295⟩ : U64).n⟩ : U64)).n)) (L_mulK (rv (Value.int .u64 ((⟨andK .u64 a0.n (⟨4294967295⟩ : U64).n⟩ : U64)).n)) (rv (Value.int .u64 ((⟨andK .u64 a1.n (⟨4294967295⟩ : U64).n⟩ : U64)).n)) (by decide) (asg (rv (Value.int .u64 ((⟨mulK .u64 (⟨andK .u64 a0.n (⟨4294967295⟩ : U64).n⟩ : U64).n (⟨andK .u64 a1.n (⟨4294967295⟩ : U64).n⟩ : U64).n⟩ : U64)).n)) (nn (sr (mv (rv (Value.int .u64 ((⟨shrK .u64 a0.n (⟨32⟩ : U64).n⟩ : U64)).n)) (mv (rv (Value.int .u64 ((⟨andK .u64 a1.n (⟨4294967295⟩ : U64).n⟩ : U64)).n)) (L_mulK (rv (Value.int .u64 ((⟨shrK .u64 a0.n (⟨32⟩ : U64).n⟩ : U64)).n)) (rv (Value.int .u64 ((⟨andK .u64 a1.n (⟨4294967295⟩ : U64).n⟩ : U64)).n)) (by decide) (mv (rv (Value.int .u64 ((⟨mulK .u64 (⟨andK .u64 a0.n (⟨4294967295⟩ : U64).n⟩ : U64).n (⟨andK .u64 a1.n (⟨4294967295⟩ : U64).n⟩ : U64).n⟩ : U64)).n)) ?_)))))))))))))
 obtain ⟨j3, hr⟩ := chk_some hr
 refine L_shrK (rv (Value.int .u64 ((⟨mulK .u64 (⟨andK .u64 a0.n (⟨4294967295⟩ : U64).n⟩ : U64).n (⟨andK .u64 a1.n (⟨4294967295⟩ : U64).n⟩ : U64).n⟩ : U64)).n)) (rv (Value.int .u64 ((⟨32⟩ : U64)).n)) j3 (by decide) (L_addK (rv (Value.int .u64 ((⟨mulK .u64 (⟨shrK .u64 a0.n (⟨32⟩ : U64).n⟩ : U64).n (⟨andK .u64 a1.n (⟨4294967295⟩ : U64).n⟩ : U64).n⟩ : U64)).n)) (rfl : _ = Value.int .u64 ((⟨shrK .u64 (⟨mulK .u64 (⟨andK .u64 a0.n (⟨4294967295⟩ : U64).n⟩ : U64).n (⟨andK .u64 a1.n (⟨4294967295⟩ : U64).n⟩ : U64).n⟩ : U64).n (⟨32⟩ : U64).n⟩ : U64)).n) (by decide) (asg (rfl : _ = Value.int .u64 ((⟨addK .u64 (⟨mulK .u64 (⟨shrK .u64 a0.n (⟨32⟩ : U64).n⟩ : U64).n (⟨andK .u64 a1.n (⟨4294967295⟩ : U64).n⟩ : U64).n⟩ : U64).n (⟨shrK .u64 (⟨mulK .u64 (⟨andK .u64 a0.n (⟨4294967295⟩ : U64).n⟩ : U64).n (⟨andK .u64 a1.n (⟨4294967295⟩ : U64).n⟩ : U64).n⟩ : U64).n (⟨32⟩ : U64).n⟩ : U64).n⟩ : U64)).n) (nn (sr (mv (rfl : _ = Value.int .u64 ((⟨addK .u64 (⟨mulK .u64 (⟨shrK .u64 a0.n (⟨32⟩ : U64).n⟩ : U64).n (⟨andK .u64 a1.n (⟨4294967295⟩ : U64).n⟩ : U64).n⟩ : U64).n (⟨shrK .u64 (⟨mulK .u64 (⟨andK .u64 a0.n (⟨4294967295⟩ : U64).n⟩ : U64).n (⟨andK .u64 a1.n (⟨4294967295⟩ : U64).n⟩ : U64).n⟩ : U64).n (⟨32⟩ : U64).n⟩ : U64).n⟩ : U64)).n) (L_andK (rfl : _ = Value.int .u64 ((⟨addK .u64 (⟨mulK .u64 (⟨shrK .u64 a0.n (⟨32⟩ : U64).n⟩ : U64).n (⟨andK .u64 a1.n (⟨4294967295⟩ : U64).n⟩ : U64).n⟩ : U64).n (⟨shrK .u64 (⟨mulK .u64 (⟨andK .u64 a0.n (⟨4294967295⟩ : U64).n⟩ : U64).n (⟨andK .u64 a1.n (⟨4294967295⟩ : U64).n⟩ : U64).n⟩ : U64).n (⟨32⟩ : U64).n⟩ : U64).n⟩ : U64)).n) (rv (Value.int .u64 ((⟨4294967295⟩ : U64)).n)) (by decide) (asg (rfl : _ = Value.int .u64 ((⟨andK .u64 (⟨addK .u64 (⟨mulK .u64 (⟨shrK .u64 a0.n (⟨32⟩ : U64).n⟩ : U64).n (⟨andK .u64 a1.n (⟨4294967295⟩ : U64).n⟩ : U64).n⟩ : U64).n (⟨shrK .u64 (⟨mulK .u64 (⟨andK .u64 a0.n (⟨4294967295⟩ : U64).n⟩ : U64).n (⟨andK .u64 a1.n (⟨4294967295⟩ : U64).n⟩ : U64).n⟩ : U64).n (⟨32⟩ : U64).n⟩ : U64).n⟩ : U64).n (⟨4294967295⟩ : U64).n⟩ : U64)).n) (nn (sr (mv (rfl : _ = Value.int .u64 ((⟨addK .u64 (⟨mulK .u64 (⟨shrK .u64 a0.n (⟨32⟩ : U64).n⟩ : U64).n (⟨andK .u64 a1.n (⟨4294967295⟩ : U64).n⟩ : U64).n⟩ : U64).n (⟨shrK .u64 (⟨mulK .u64 (⟨andK .u64 a0.n (⟨4294967295⟩ : U64).n⟩ : U64).n (⟨andK .u64 a1.n (⟨4294967295⟩ : U64).n⟩ : U64).n⟩ : U64).n (⟨32⟩ : U64).n⟩ : U64).n⟩ : U64)).n) ?_))))))))))
 obtain ⟨j4, hr⟩ := chk_some hr
 refine L_shrK (rfl : _ = Value.int .u64 ((⟨addK .u64 (⟨mulK .u64 (⟨shrK .u64 a0.n (⟨32⟩ : U64).n⟩ : U64).n (⟨andK .u64 a1.n (⟨4294967295⟩ : U64).n⟩ : U64).n⟩ : U64).n (⟨shrK .u64 (⟨mulK .u64 (⟨andK .u64 a0.n (⟨4294967295⟩ : U64).n⟩ : U64).n (⟨andK .u64 a1.n (⟨4294967295⟩ : U64).n⟩ : U64).n⟩ : U64).n (⟨32⟩ : U64).n⟩ : U64).n⟩ : U64)).n) (rv (Value.int .u64 ((⟨32⟩ : U64)).n)) j4 (by decide) (asg (rfl : _ = Value.int .u64 ((⟨shrK .u64 (⟨addK .u64 (⟨mulK .u64 (⟨shrK .u64 a0.n (⟨32⟩ : U64).n⟩ : U64).n (⟨andK .u64 a1.n (⟨4294967295⟩ : U64).n⟩ : U64).n⟩ : U64).n (⟨shrK .u64 (⟨mulK .u64 (⟨andK .u64 a0.n (⟨4294967295⟩ : U64).n⟩ : U64).n (⟨andK .u64 a1.n (⟨4294967295⟩ : U64).n⟩ : U64).n⟩ : U64).n (⟨32⟩ : U64).n⟩ : U64).n⟩ : U64).n (⟨32⟩ : U64).n⟩ : U64)).n) (nn (sr (mv (rfl : _ = Value.int .u64 ((⟨andK .u64 (⟨addK .u64 (⟨mulK .u64 (⟨shrK .u64 a0.n (⟨32⟩ : U64).n⟩ : U64).n (⟨andK .u64 a1.n (⟨4294967295⟩ : U64).n⟩ : U64).n⟩ : U64).n (⟨shrK .u64 (⟨mulK .u64 (⟨andK .u64 a0.n (⟨4294967295⟩ : U64).n⟩ : U64).n (⟨andK .u64 a1.n (⟨4294967295⟩ : U64).n⟩ : U64).n⟩ : U64).n (⟨32⟩ : U64).n⟩ : U64).n⟩ : U64).n (⟨4294967295⟩ : U64).n⟩ : U64)).n) (mv (rv (Value.int .u64 ((⟨andK .u64 a0.n (⟨4294967295⟩ : U64).n⟩ : U64)).n)) (mv (rv (Value.int .u64 ((⟨shrK .u64 a1.n (⟨32⟩ : U64).n⟩ : U64)).n)) (L_mulK (rv (Value.int .u64 ((⟨andK .u64 a0.n (⟨4294967295⟩ : U64).n⟩ : U64)).n)) (rv (Value.int .u64 ((⟨shrK .u64 a1.n (⟨32⟩ : U64).n⟩ : U64)).n)) (by decide) (L_addK (rfl : _ = Value.int .u64 ((⟨andK .u64 (⟨addK .u64 (⟨mulK .u64 (⟨shrK .u64 a0.n (⟨32⟩ : U64).n⟩ : U64).n (⟨andK .u64 a1.n (⟨4294967295⟩ : U64).n⟩ : U64).n⟩ : U64).n (⟨shrK .u64 (⟨mulK .u64 (⟨andK .u64 a0.n (⟨4294967295⟩ : U64).n⟩ : U64).n (⟨andK .u64 a1.n (⟨4294967295⟩ : U64).n⟩ : U64).n⟩ : U64).n (⟨32⟩ : U64).n⟩ : U64).n⟩ : U64).n (⟨4294967295⟩ : U64).n⟩ : U64)).n) (rv (Value.int .u64 ((⟨mulK .u64 (⟨andK .u64 a0.n (⟨4294967295⟩ : U64).n⟩ : U64).n (⟨shrK .u64 a1.n (⟨32⟩ : U64).n⟩ : U64).n⟩ : U64)).n)) (by decide) (asg (rfl : _ = Value.int .u64 ((⟨addK .u64 (⟨andK .u64 (⟨addK .u64 (⟨mulK .u64 (⟨shrK .u64 a0.n (⟨32⟩ : U64).n⟩ : U64).n (⟨andK .u64 a1.n (⟨4294967295⟩ : U64).n⟩ : U64).n⟩ : U64).n (⟨shrK .u64 (⟨mulK .u64 (⟨andK .u64 a0.n (⟨4294967295⟩ : U64).n⟩ : U64).n (⟨andK .u64 a1.n (⟨4294967295⟩ : U64).n⟩ : U64).n⟩ : U64).n (⟨32⟩ : U64).n⟩ : U64).n⟩ : U64).n (⟨4294967295⟩ : U64).n⟩ : U64).n (⟨mulK .u64 (⟨andK .u64 a0.n (⟨4294967295⟩ : U64).n⟩ : U64).n (⟨shrK .u64 a1.n (⟨32⟩ : U64).n⟩ : U64).n⟩ : U64).n⟩ : U64)).n) (nn (sr (mv (rv (Value.int .u64 ((⟨shrK .u64 a0.n (⟨32⟩ : U64).n⟩ : U64)).n)) (mv (rv (Value.int .u64 ((⟨shrK .u64 a1.n (⟨32⟩ : U64).n⟩ : U64)).n)) ?_)))))))))))))
 refine L_mulK (rv (Value.int .u64 ((⟨shrK .u64 a0.n (⟨32⟩ : U64).n⟩ : U64)).n)) (rv (Value.int .u64 ((⟨shrK .u64 a1.n (⟨32⟩ : U64).n⟩ : U64)).n)) (by decide) (mv (rfl : _ = Value.int .u64 ((⟨shrK .u64 (⟨addK .u64 (⟨mulK .u64 (⟨shrK .u64 a0.n (⟨32⟩ : U64).n⟩ : U64).n (⟨andK .u64 a1.n (⟨4294967295⟩ : U64).n⟩ : U64).n⟩ : U64).n (⟨shrK .u64 (⟨mulK .u64 (⟨andK .u64 a0.n (⟨4294967295⟩ : U64).n⟩ : U64).n (⟨andK .u64 a1.n (⟨4294967295⟩ : U64).n⟩ : U64).n⟩ : U64).n (⟨32⟩ : U64).n⟩ : U64).n⟩ : U64).n (⟨32⟩ : U64).n⟩ : U64)).n) (L_addK (rv (Value.int .u64 ((⟨mulK .u64 (⟨shrK .u64 a0.n (⟨32⟩ : U64).n⟩ : U64).n (⟨shrK .u64 a1.n (⟨32⟩ : U64).n⟩ : U64).n⟩ : U64)).n)) (rfl : _ = Value.int .u64 ((⟨shrK .u64 (⟨addK .u64 (⟨mulK .u64 (⟨shrK .u64 a0.n (⟨32⟩ : U64).n⟩ : U64).n (⟨andK .u64 a1.n (⟨4294967295⟩ : U64).n⟩ : U64).n⟩ : U64).n (⟨shrK .u64 (⟨mulK .u64 (⟨andK .u64 a0.n (⟨4294967295⟩ : U64).n⟩ : U64).n (⟨andK .u64 a1.n (⟨4294967295⟩ : U64).n⟩ : U64).n⟩ : U64).n (⟨32⟩ : U64).n⟩ : U64).n⟩ : U64).n (⟨32⟩ : U64).n⟩ : U64)).n) (by decide) (mv (rfl : _ = Value.int .u64 ((⟨addK .u64 (⟨andK .u64 (⟨addK .u64 (⟨mulK .u64 (⟨shrK .u64 a0.n (⟨32⟩ : U64).n⟩ : U64).n (⟨andK .u64 a1.n (⟨4294967295⟩ : U64).n⟩ : U64).n⟩ : U64).n (⟨shrK .u64 (⟨mulK .u64 (⟨andK .u64 a0.n (⟨4294967295⟩ : U64).n⟩ : U64).n (⟨andK .u64 a1.n (⟨4294967295⟩ : U64).n⟩ : U64).n⟩ : U64).n (⟨32⟩ : U64).n⟩ : U64).n⟩ : U64).n (⟨4294967295⟩ : U64).n⟩ : U64).n (⟨mulK .u64 (⟨andK .u64 a0.n (⟨4294967295⟩ : U64).n⟩ : U64).n (⟨shrK .u64 a1.n (⟨32⟩ : U64).n⟩ : U64).n⟩ : U64).n⟩ : U64)).n) ?_)))
 obtain ⟨j5, hr⟩ := chk_some hr
 refine L_shrK (rfl : _ = Value.int .u64 ((⟨addK .u64 (⟨andK .u64 (⟨addK .u64 (⟨mulK .u64 (⟨shrK .u64 a0.n (⟨32⟩ : U64).n⟩ : U64).n (⟨andK .u64 a1.n (⟨4294967295⟩ : U64).n⟩ : U64).n⟩ : U64).n (⟨shrK .u64 (⟨mulK .u64 (⟨andK .u64 a0.n (⟨4294967295⟩ : U64).n⟩ : U64).n (⟨andK .u64 a1.n (⟨4294967295⟩ : U64).n⟩ : U64).n⟩ : U64).n (⟨32⟩ : U64).n⟩ : U64).n⟩ : U64).n (⟨4294967295⟩ : U64).n⟩ : U64).n (⟨mulK .u64 (⟨andK .u64 a0.n (⟨4294967295⟩ : U64).n⟩ : U64).n (⟨shrK .u64 a1.n (⟨32⟩ : U64).n⟩ : U64).n⟩ : U64).n⟩ : U64)).n) (rv (Value.int .u64 ((⟨32⟩ : U64)).n)) j5 (by decide) (L_addK (rfl : _ = Value.int .u64 ((⟨addK .u64 (⟨mulK .u64 (⟨shrK .u64 a0.n (⟨32⟩ : U64).n⟩ : U64).n (⟨shrK .u64 a1.n (⟨32⟩ : U64).n⟩ : U64).n⟩ : U64).n (⟨shrK .u64 (⟨addK .u64 (⟨mulK .u64 (⟨shrK .u64 a0.n (⟨32⟩ : U64).n⟩ : U64).n (⟨andK .u64 a1.n (⟨4294967295⟩ : U64).n⟩ : U64).n⟩ : U64).n (⟨shrK .u64 (⟨mulK .u64 (⟨andK .u64 a0.n (⟨4294967295⟩ : U64).n⟩ : U64).n (⟨andK .u64 a1.n (⟨4294967295⟩ : U64).n⟩ : U64).n⟩ : U64).n (⟨32⟩ : U64).n⟩ : U64).n⟩ : U64).n (⟨32⟩ : U64).n⟩ : U64).n⟩ : U64)).n) (rfl : _ = Value.int .u64 ((⟨shrK .u64 (⟨addK .u64 (⟨andK .u64 (⟨addK .u64 (⟨mulK .u64 (⟨shrK .u64 a0.n (⟨32⟩ : U64).n⟩ : U64).n (⟨andK .u64 a1.n (⟨4294967295⟩ : U64).n⟩ : U64).n⟩ : U64).n (⟨shrK .u64 (⟨mulK .u64 (⟨andK .u64 a0.n (⟨4294967295⟩ : U64).n⟩ : U64).n (⟨andK .u64 a1.n (⟨4294967295⟩ : U64).n⟩ : U64).n⟩ : U64).n (⟨32⟩ : U64).n⟩ : U64).n⟩ : U64).n (⟨4294967295⟩ : U64).n⟩ : U64).n (⟨mulK .u64 (⟨andK .u64 a0.n (⟨4294967295⟩ : U64).n⟩ : U64).n (⟨shrK .u64 a1.n (⟨32⟩ : U64).n⟩ : U64).n⟩ : U64).n⟩ : U64).n (⟨32⟩ : U64).n⟩ : U64)).n) (by decide) (asg (rfl : _ = Value.int .u64 ((⟨addK .u64 (⟨addK .u64 (⟨mulK .u64 (⟨shrK .u64 a0.n (⟨32⟩ : U64).n⟩ : U64).n (⟨shrK .u64 a1.n (⟨32⟩ : U64).n⟩ : U64).n⟩ : U64).n (⟨shrK .u64 (⟨addK .u64 (⟨mulK .u64 (⟨shrK .u64 a0.n (⟨32⟩ : U64).n⟩ : U64).n (⟨andK .u64 a1.n (⟨4294967295⟩ : U64).n⟩ : U64).n⟩ : U64).n (⟨shrK .u64 (⟨mulK .u64 (⟨andK .u64 a0.n (⟨4294967295⟩ : U64).n⟩ : U64).n (⟨andK .u64 a1.n (⟨4294967295⟩ : U64).n⟩ : U64).n⟩ : U64).n (⟨32⟩ : U64).n⟩ : U64).n⟩ : U64).n (⟨32⟩ : U64).n⟩ : U64).n⟩ : U64).n (⟨shrK .u64 (⟨addK .u64 (⟨andK .u64 (⟨addK .u64 (⟨mulK .u64 (⟨shrK .u64 a0.n (⟨32⟩ : U64).n⟩ : U64).n (⟨andK .u64 a1.n (⟨4294967295⟩ : U64).n⟩ : U64).n⟩ : U64).n (⟨shrK .u64 (⟨mulK .u64 (⟨andK .u64 a0.n (⟨4294967295⟩ : U64).n⟩ : U64).n (⟨andK .u64 a1.n (⟨4294967295⟩ : U64).n⟩ : U64).n⟩ : U64).n (⟨32⟩ : U64).n⟩ : U64).n⟩ : U64).n (⟨4294967295⟩ : U64).n⟩ : U64).n (⟨mulK .u64 (⟨andK .u64 a0.n (⟨4294967295⟩ : U64).n⟩ : U64).n (⟨shrK .u64 a1.n (⟨32⟩ : U64).n⟩ : U64).n⟩ : U64).n⟩ : U64).n (⟨32⟩ : U64).n⟩ : U64).n⟩ : U64)).n) (nn (sr (mv (rv (Value.int .u64 (a0).n)) (mv (rv (Value.int .u64 (a1).n)) (L_mulK (rv (Value.int .u64 (a0).n)) (rv (Value.int .u64 (a1).n)) (by decide) (asg (rv (Value.int .u64 ((⟨mulK .u64 a0.n a1.n⟩ : U64)).n)) (nn (W_ret ?_))))))))))
 obtain rfl := Option.some.inj hr
 exact done2 (Or.inl rfl) Tryz.results120 rfl rfl ⟨_, _, rfl, rfl, j0, _, _, rfl, Vu64, Vu64⟩

theorem math_bits_Mul_ok (N : Nat) (s0 : St) (a0 : U64) (a1 : U64) (r : U64 × U64) (hr : math_bits_Mul N a0 a1 = some r) :
    Calls Tryz.prog 127 #[.int .u64 a0.n, .int .u64 a1.n] s0.w (Ret s0 fun v s => ∃ a b, v = .tuple #[a, b] ∧ V s a r.1 ∧ V s b r.2) := by
 unfold math_bits_Mul at hr
 have j0 := Ext.refl s0
 refine Calls_of (n := 30) (args := [.int .u64 a0.n, .int .u64 a1.n]) Tryz.func127 rfl rfl (by simp) (sr (asg (rv (Value.int .u64 ((⟨0⟩ : U64)).n)) (asg (rv (Value.int .u64 ((⟨0⟩ : U64)).n)) (nn (W_seq ?_)))))
 refine W_cond _ (rv (vb false)) (fun h => absurd (h.symm.trans rfl) (by decide)) (fun _ => ?_)
 refine W_skip (then_n (sr (mv (rv (Value.int .u64 (a0).n)) (mv (rv (Value.int .u64 (a1).n)) ?_))))
 obtain ⟨j1, j2, hr⟩ := bind_some hr
 refine L_calls cal120 (args2 (rv (Value.int .u64 (a0).n)) (rv (Value.int .u64 (a1).n))) (math_bits_Mul64_ok N _ a0 a1 j1 j2) (by decide) (fun j3 j4 j5 j6 => ?_)
 have j7 := Tch.ext j0 j5
 obtain ⟨j8, j9, rfl, ja, jb⟩ := j6
 obtain rfl := ja.u64
 obtain rfl := jb.u64
 refine mv (rv (Value.tuple #[Value.int .u64 (j1.1).n, Value.int .u64 (j1.2).n])) (xt (rv (Value.tuple #[Value.int .u64 (j1.1).n, Value.int .u64 (j1.2).n])) (k := 0) rfl (xt (rv (Value.tuple #[Value.int .u64 (j1.1).n, Value.int .u64 (j1.2).n])) (k := 1) rfl (asg (rv (Value.int .u64 (j1.1).n)) (asg (rv (Value.int .u64 (j1.2).n)) (nn (sr (mv (rv (Value.int .u64 (j1.1).n)) (mv (rv (Value.int .u64 (j1.2).n)) (asg (rv (Value.int .u64 (j1.1).n)) (asg (rv (Value.int .u64 (j1.2).n)) (nn (W_ret ?_))))))))))))
 obtain rfl := Option.some.inj hr
 exact done2 (Or.inl rfl) Tryz.results127 rfl rfl ⟨_, _, rfl, rfl, j7, _, _, rfl, Vu64, Vu64⟩

theorem slices_Repeat_Lint_int_ok (N : Nat) (s0 : St) (w0 : Value) (a0 : List Int) (h0 : V s0 w0 a0) (a1 : Int) (r : (List Int)) (hr : slices_Repeat_Lint_int N a0 a1 = some r) :
    Calls Tryz.prog 119 #[w0, .int .i64 a1] s0.w (Ret s0 fun v s => ArrR s0.w.heap.size 3 s v r) := by
 unfold slices_Repeat_Lint_int at hr
 have j0 := Ext.refl s0
 refine Calls_of (n := 48) (args := [w0, .int .i64 a1]) Tryz.func119 rfl rfl (by simp) (sr (asg (rv (Value.slice none 0 0)) (nn (W_seq (sr (mv (rv (vi a1)) (ls (rv (vi a1)) (rv (vi 0)) (nn ?_))))))))
 refine W_cond _ (rv (vb (decide (a1 < 0)))) (fun j1 => ?_) (fun j1 => ?_)
 ·have hr := ite_t j1 hr
  refine W_region ?_
  cases hr
 ·have hr := ite_f j1 hr
  refine W_skip (then_n (sr (mv (rv w0) (ln Tryz.underlying38 (rv w0) h0 (L_convK Tryz.underlying3 Tryz.underlying114 (rv (vi ((a0.length : Int)))) (by decide) (mv (rv (vi a1)) (L_convK Tryz.underlying3 Tryz.underlying114 (rv (vi a1)) (by decide) ?_)))))))
  obtain ⟨j2, j3, hr⟩ := bind_some hr
  refine L_calls cal127 (args2 (rv (Value.int .u64 ((⟨convK .u64 (a0.length : Int)⟩ : U64)).n)) (rv (Value.int .u64 ((⟨convK .u64 a1⟩ : U64)).n))) (math_bits_Mul_ok N _ (⟨convK .u64 (a0.length : Int)⟩ : U64) (⟨convK .u64 a1⟩ : U64) j2 j3) (by decide) (fun j4 j5 j6 j7 => ?_)
  have j8 := Tch.ext j0 j6
  obtain ⟨j9, ja, rfl, jb, jc⟩ := j7
  obtain rfl := jb.u64
  obtain rfl := jc.u64
  refine mv (rv (Value.tuple #[Value.int .u64 (j2.1).n, Value.int .u64 (j2.2).n])) (xt (rv (Value.tuple #[Value.int .u64 (j2.1).n, Value.int .u64 (j2.2).n])) (k := 0) rfl (xt (rv (Value.tuple #[Value.int .u64 (j2.1).n, Value.int .u64 (j2.2).n])) (k := 1) rfl (asg (rv (Value.int .u64 (j2.1).n)) (asg (rv (Value.int .u64 (j2.2).n)) (nn (W_seq ?_))))))
  obtain ⟨jd, je, jf⟩ := bind_some hr
  refine W_seq_cut (fun f w => ∃ (s : St) (jg : Bool), s.w = w ∧ Ext s0 s ∧ Le j5 s ∧ jg = jd ∧ f 26 = vb jg ∧ f 0 = w0 ∧ f 6 = Value.int .u64 (j2.2).n) ?_ ?_
  ·have hr := je
   refine W_region (mv (rv (Value.int .u64 (j2.1).n)) (L_gtr (rv (Value.int .u64 (j2.1).n)) (rv (Value.int .u64 ((⟨0⟩ : U64)).n)) (by decide) (mv (rv (vb (decide ((⟨0⟩ : U64).n < j2.1.n)))) ?_)))
   rcases tf (decide ((⟨0⟩ : U64).n < j2.1.n)) with jh | jh
   ·have hr := ite_t jh hr; exact gf 23 (rv (vb (decide ((⟨0⟩ : U64).n < j2.1.n)))) jh (gf 23 (rv (vb (decide ((⟨0⟩ : U64).n < j2.1.n)))) jh (pt (rv (vb (decide ((⟨0⟩ : U64).n < j2.1.n)))) jh (rv (vb true)) (nn ⟨j5, true, rfl, j8, (Le.refl _), Option.some.inj hr, rfl, rfl, rfl⟩)))
   ·have hr := ite_f jh hr; exact gt 23 (rv (vb (decide ((⟨0⟩ : U64).n < j2.1.n)))) jh (mv (rv (Value.int .u64 (j2.2).n)) (gt 23 (rv (vb (decide ((⟨0⟩ : U64).n < j2.1.n)))) jh (L_gtr (rv (Value.int .u64 (j2.2).n)) (rv (Value.int .u64 ((⟨9223372036854775807⟩ : U64)).n)) (by decide) (pf (rv (vb (decide ((⟨0⟩ : U64).n < j2.1.n)))) jh (rv (vb (decide ((⟨9223372036854775807⟩ : U64).n < j2.2.n)))) (nn ⟨j5, (decide ((⟨9223372036854775807⟩ : U64).n < j2.2.n)), rfl, j8, (Le.refl _), Option.some.inj hr, rfl, rfl, rfl⟩)))))
  ·rintro jh ji ⟨jj, jg, rfl, jk, jl, je, jm, jn, jo⟩
   subst je
   have hr := jf
   try dsimp only at hr
   refine W_cond _ jm (fun jp => ?_) (fun jp => ?_)
   ·have hr := ite_t jp hr
    refine W_region ?_
    cases hr
   ·have hr := ite_f jp hr
    refine W_skip (then_n (sr (mv jo (L_convK Tryz.underlying114 Tryz.underlying3 (rv (Value.int .u64 (j2.2).n)) (by decide) ?_))))
    obtain ⟨jq, hr⟩ := chk_some hr
    refine L_makeArr (x0 := (0 : Int)) Tryz.underlying38 tyz3 (rv (vi (convK .i64 j2.2.n))) jq.1 jq.2.1 jq.2.2 (fun _ => rfl) (by decide) (fun jr js jt ju jv => ?_)
    have jw := Tch.ext jk jt
    refine asg (rv (Value.slice (some ⟨js, 0, none⟩) (convK .i64 j2.2.n).toNat (convK .i64 j2.2.n).toNat)) (nn (sr (mv (rv (Value.slice (some ⟨js, 0, none⟩) (convK .i64 j2.2.n).toNat (convK .i64 j2.2.n).toNat)) (mv jn (L_copyA (xs := (List.replicate (convK .i64 j2.2.n).toNat (0 : Int))) flat3 Tryz.underlying38 ty3.inf (rv (Value.slice (some ⟨js, 0, none⟩) (convK .i64 j2.2.n).toNat (convK .i64 j2.2.n).toNat)) (jv) (rv w0) (h0.mono (j6.le.trans (jl.trans jt.le))) (by decide) (fun jx jy jz => ?_))))))
    have k0 := Tch.trans jw jy (fun k hk => Or.inr (by subst hk; exact (Nat.le_trans jk.size ju)))
    refine asg (rfl : _ = vi (((min a0.length ((convK .i64 j2.2.n).toNat) : Nat) : Int))) (nn (W_seq ?_))
    obtain ⟨k1, k2, k3⟩ := bind_some hr
    refine W_cut (fun f w => ∃ (s : St) (k4 : List Int), s.w = w ∧ Ext s0 s ∧ Le jx s ∧ k4 = k1 ∧ f 7 = Value.slice (some ⟨js, 0, none⟩) (convK .i64 j2.2.n).toNat (convK .i64 j2.2.n).toNat ∧ Arr s js 3 (convK .i64 j2.2.n).toNat k4) ?_ ?_
    ·refine W_block (W_loop (fun m f w => ∃ (s : St) (k5 : Int) (k6 : List Int), s.w = w ∧ Ext s0 s ∧ Le jx s ∧ slices_Repeat_Lint_int_l1 N j2 m k5 k6 = some k1 ∧ f 8 = vi k5 ∧ f 7 = Value.slice (some ⟨js, 0, none⟩) (convK .i64 j2.2.n).toNat (convK .i64 j2.2.n).toNat ∧ Arr s js 3 (convK .i64 j2.2.n).toNat k6) N ⟨jx, ((min a0.length ((convK .i64 j2.2.n).toNat) : Nat) : Int), (cpy (List.replicate (convK .i64 j2.2.n).toNat (0 : Int)) 0 a0), rfl, k0, (Le.refl _), k2, rfl, rfl, jz⟩ ?_)
     rintro k7 k8 k9 ⟨ka, k5, k6, rfl, kb, kc, hr, kd, ke, kf⟩
     cases k7 with
     | zero => exact absurd hr (by simp [slices_Repeat_Lint_int_l1])
     | succ k7 =>
      rw [slices_Repeat_Lint_int_l1.eq_2] at hr
      refine W_seq (sr (mv kd (mv ke (L_lenA Tryz.underlying38 (rv (Value.slice (some ⟨js, 0, none⟩) (convK .i64 j2.2.n).toNat (convK .i64 j2.2.n).toNat)) (by decide) (ls (rv (vi k5)) (rv (vi ((((convK .i64 j2.2.n).toNat : Nat) : Int)))) (nn ?_))))))
      refine W_cond _ (rfl : _ = vb (decide (k5 < (((convK .i64 j2.2.n).toNat : Nat) : Int)))) (fun kg => ?_) (fun kg => ?_)
      ·have hr := ite_t kg hr
       refine W_skip (then_n (W_block ?_))
       obtain ⟨kh, hr⟩ := chk_some hr
       obtain ⟨ki, kj, hr⟩ := bind_some hr
       obtain ⟨kk, hr⟩ := chk_some hr
       refine W_drawO mixed 10 [PX.eq (vi k5), PX.eq (Value.slice (some ⟨js, 0, none⟩) (convK .i64 j2.2.n).toNat (convK .i64 j2.2.n).toNat), PX.eq (vi k5), PX.eq ((endV js ((convK .i64 j2.2.n).toNat) 1 (k5).toNat)), PX.eq (Value.slice (some ⟨js, 0, none⟩) (convK .i64 j2.2.n).toNat (convK .i64 j2.2.n).toNat), PX.eq (vi k5), PX.eq ((cutV js (convK .i64 j2.2.n).toNat 1 (k5))), PX.pin (vi (((min ki.length (((convK .i64 j2.2.n).toNat) - (k5).toNat) : Nat) : Int))) js 3 ((convK .i64 j2.2.n).toNat) (cpy k6 (k5).toNat ki : List Int), PX.eq (vi (k5 + ((min ki.length (((convK .i64 j2.2.n).toNat) - (k5).toNat) : Nat) : Int))), PX.eq (vi (k5 + ((min ki.length (((convK .i64 j2.2.n).toNat) - (k5).toNat) : Nat) : Int))), PX.arr js 3 ((convK .i64 j2.2.n).toNat) (k6 : List Int)] [38, 39, 40, 41, 42, 43, 44, 45, 46, 8, 7] [[], [], [], [], [], [], [], [10], [], []] rfl (by kernel_rfl) (ent1 rfl ⟨ke, kf⟩) (dis1 rfl) (StepsX_cons ?_ (StepsX_cons ?_ (StepsX_cons ?_ (StepsX_cons ?_ (StepsX_cons ?_ (StepsX_cons ?_ (StepsX_cons ?_ (StepsX_cons ?_ (StepsX_cons ?_ (StepsX_cons ?_ StepsX_nil)))))))))) ?_
       ·intro kl km kn ko kp kq Q kr; have ks : kl 8 = vi (k5) := (kp 8 (by kernel_rfl)).trans kd; exact mv ks (L_nil (kr _ _ No (Ext.refl km) (fun _ h => h.elim) rfl (fun _ h => h.elim)))
       ·intro kl km kn ko kp kq Q kr; have ks : kl 7 = Value.slice (some ⟨js, 0, none⟩) (convK .i64 j2.2.n).toNat (convK .i64 j2.2.n).toNat := (kp 7 (by kernel_rfl)).trans ke; exact mv ks (L_nil (kr _ _ No (Ext.refl km) (fun _ h => h.elim) rfl (fun _ h => h.elim)))
       ·intro kl km kn ko kp kq Q kr; have ks : kl 8 = vi (k5) := (kp 8 (by kernel_rfl)).trans kd; exact mv ks (L_nil (kr _ _ No (Ext.refl km) (fun _ h => h.elim) rfl (fun _ h => h.elim)))
       ·intro kl km kn ko kp kq Q kr; have ks : kl 39 = Value.slice (some ⟨js, 0, none⟩) (convK .i64 j2.2.n).toNat (convK .i64 j2.2.n).toNat := ko 1 (by kernel_rfl) (by show _ < 11; decide); have kt : kl 40 = vi (k5) := ko 2 (by kernel_rfl) (by show _ < 11; decide); obtain ⟨ku, kv⟩ : kl 7 = Value.slice (some ⟨js, 0, none⟩) ((convK .i64 j2.2.n).toNat) ((convK .i64 j2.2.n).toNat) ∧ Arr km js 3 ((convK .i64 j2.2.n).toNat) (k6 : List Int) := ko 10 (by kernel_rfl) (by show _ < 11; decide); exact L_sliceA_l (sz := 1) Tryz.underlying38 ty3.inf ks kt kh.1 kh.2 (by decide) (L_nil (kr _ _ No (Ext.refl km) (fun _ h => h.elim) rfl (fun _ h => h.elim)))
       ·intro kl km kn ko kp kq Q kr; have ks : kl 7 = Value.slice (some ⟨js, 0, none⟩) (convK .i64 j2.2.n).toNat (convK .i64 j2.2.n).toNat := (kp 7 (by kernel_rfl)).trans ke; exact mv ks (L_nil (kr _ _ No (Ext.refl km) (fun _ h => h.elim) rfl (fun _ h => h.elim)))
       ·intro kl km kn ko kp kq Q kr; have ks : kl 8 = vi (k5) := (kp 8 (by kernel_rfl)).trans kd; exact mv ks (L_nil (kr _ _ No (Ext.refl km) (fun _ h => h.elim) rfl (fun _ h => h.elim)))
       ·intro kl km kn ko kp kq Q kr; have ks : kl 42 = Value.slice (some ⟨js, 0, none⟩) (convK .i64 j2.2.n).toNat (convK .i64 j2.2.n).toNat := ko 4 (by kernel_rfl) (by show _ < 11; decide); have kt : kl 43 = vi (k5) := ko 5 (by kernel_rfl) (by show _ < 11; decide); obtain ⟨ku, kv⟩ : kl 7 = Value.slice (some ⟨js, 0, none⟩) ((convK .i64 j2.2.n).toNat) ((convK .i64 j2.2.n).toNat) ∧ Arr km js 3 ((convK .i64 j2.2.n).toNat) (k6 : List Int) := ko 10 (by kernel_rfl) (by show _ < 11; decide); exact L_sliceA_h (sz := 1) Tryz.underlying38 ty3.inf ks kt (cut_in kj).1 (by have := (cut_in kj).2; have := (kv).1; omega) (by decide) (L_nil (kr _ _ No (Ext.refl km) (fun _ h => h.elim) rfl (fun _ h => h.elim)))
       ·intro kl km kn ko kp kq Q kr; obtain ⟨ks, kt⟩ : kl 7 = Value.slice (some ⟨js, 0, none⟩) ((convK .i64 j2.2.n).toNat) ((convK .i64 j2.2.n).toNat) ∧ Arr km js 3 ((convK .i64 j2.2.n).toNat) (k6 : List Int) := ko 10 (by kernel_rfl) (by show _ < 11; decide); have ku : kl 41 = (endV js ((convK .i64 j2.2.n).toNat) 1 (k5).toNat) := ko 3 (by kernel_rfl) (by show _ < 11; decide); have kv : kl 44 = (cutV js (convK .i64 j2.2.n).toNat 1 (k5)) := ko 6 (by kernel_rfl) (by show _ < 11; decide); exact L_copyAA (xs := k6) (lo := k5) flat3 Tryz.underlying38 ty3.inf ku (kt) kh.2 kv kj (by decide) (fun kw kx ky => L_nil (kr _ _ _ kx (fun k h => ⟨10, (List.mem_singleton.2 rfl : (10 : Nat) ∈ [10]), (by show own (kl 7) k; rw [ks]; exact congrArg some h.symm)⟩) ⟨rfl, ky⟩ (fun k h => Or.inl ⟨10, (List.mem_singleton.2 rfl : (10 : Nat) ∈ [10]), (by show own (kl 7) k; rw [ks]; exact congrArg some h.symm)⟩)))
       ·intro kl km kn ko kp kq Q kr; have ks : kl 38 = vi (k5) := ko 0 (by kernel_rfl) (by show _ < 11; decide); obtain ⟨kt, ku⟩ : kl 45 = vi (((min ki.length (((convK .i64 j2.2.n).toNat) - (k5).toNat) : Nat) : Int)) ∧ Arr km js 3 ((convK .i64 j2.2.n).toNat) (cpy k6 (k5).toNat ki : List Int) := ko 7 (by kernel_rfl) (by show _ < 11; decide); exact ad ks kt kk (L_nil (kr _ _ No (Ext.refl km) (fun _ h => h.elim) rfl (fun _ h => h.elim)))
       ·intro kl km kn ko kp kq Q kr; have ks : kl 46 = vi (k5 + ((min ki.length (((convK .i64 j2.2.n).toNat) - (k5).toNat) : Nat) : Int)) := ko 8 (by kernel_rfl) (by show _ < 11; decide); exact asg ks (L_nil (kr _ _ No (Ext.refl km) (fun _ h => h.elim) rfl (fun _ h => h.elim)))
       ·intro kl km kn ko kp kq kr; have ks := Tch.trans kb kn (fun k h => Or.inr (by have kt := own_slice (ke : _ = Value.slice (some ⟨js, 0, none⟩) ((convK .i64 j2.2.n).toNat) ((convK .i64 j2.2.n).toNat)) (ent_is (k := 10) rfl rfl h); rw [kt]; exact (Nat.le_trans jk.size ju))); obtain ⟨ku, kv⟩ : kl 45 = vi (((min ki.length (((convK .i64 j2.2.n).toNat) - (k5).toNat) : Nat) : Int)) ∧ Arr km js 3 ((convK .i64 j2.2.n).toNat) (cpy k6 (k5).toNat ki : List Int) := ko 7 (by show _ < 11; decide) (by kernel_rfl); have kw : kl 7 = Value.slice (some ⟨js, 0, none⟩) (convK .i64 j2.2.n).toNat (convK .i64 j2.2.n).toNat := (kr 7 (by kernel_rfl)).trans ke; have kx : kl 8 = vi (k5 + ((min ki.length (((convK .i64 j2.2.n).toNat) - (k5).toNat) : Nat) : Int)) := ko 9 (by show _ < 11; decide) (by kernel_rfl); refine block_n ?_; exact then_n ⟨k7, Nat.lt_succ_self _, ⟨km, (k5 + ((min ki.length (((convK .i64 j2.2.n).toNat) - (k5).toNat) : Nat) : Int)), (cpy k6 (k5).toNat ki), rfl, ks, (kc.trans kn.le), hr, kx, kw, kv⟩⟩
      ·have hr := ite_f kg hr; refine W_exit (then_x (then_x (block_here ?_))); exact then_n ⟨ka, k6, rfl, kb, kc, Option.some.inj hr, ke, kf⟩
    ·rintro k5 k6 ⟨k7, k4, rfl, k8, k9, k2, ka, kb⟩; subst k2; have hr := k3; (try dsimp only at hr); refine then_n (sr (mv ka (asg (rv (Value.slice (some ⟨js, 0, none⟩) (convK .i64 j2.2.n).toNat (convK .i64 j2.2.n).toNat)) (nn (W_ret ?_))))); obtain rfl := Option.some.inj hr; exact done1 (Or.inl rfl) Tryz.results119 rfl ⟨_, _, rfl, rfl, k8, (kb).res (Nat.le_trans jk.size ju)⟩

theorem check_numbers_ok (N : Nat) (s0 : St) (a0 : Int) (a1 : Int) (I : Eff σ) (w2 : Value) (a2 : (List Int) → σ → Option σ) (h2 : FnE Tryz.prog s0 w2 I a2) (q0 : σ) (hq0 : EffAt I s0 q0) (r : σ) (hr : check_numbers N a0 a1 a2 q0 = some r) :
    Calls Tryz.prog 69 #[.int .i64 a0, .int .i64 a1, w2] s0.w (RetM I.M s0 fun _ s => EffAt I s r) := by
 unfold check_numbers at hr
 have j0 := Tch.refl I.M s0
 refine Calls_of (n := 40) (args := [.int .i64 a0, .int .i64 a1, w2]) Tryz.func69 rfl rfl (by simp) (sr (L_buildSlice (xs := ([1] : List Int)) Tryz.underlying38 tyz3 (Parts_cons rfl (rv (vi 1)) Parts_nil) (Vs.cons Vint Vs.nil) rfl (by decide) (by decide) (fun j1 j2 j3 j4 j5 => ?_)))
 have j6 := Tch.ext j0 j3
 refine mv (rv (vi a0)) ?_
 obtain ⟨j7, j8, hr⟩ := bind_some hr
 refine L_calls cal119 (args2 (rv j2) (rv (vi a0))) (slices_Repeat_Lint_int_ok N _ _ _ j5 a0 j7 j8) (by decide) (fun j9 ja jb jc => ?_)
 have jd := Tch.ext j6 jb
 obtain ⟨je, jf, rfl, jg⟩ := jc
 have jh : ∀ k, (I.M) k → ¬ (fun k => k = je) k := fun k ji h2 => by have jj := (fun k hk => ((hq0).ext j3).lt hk) k ji; have jk := jf; subst h2; omega
 refine asg (rv (Value.slice (some ⟨je, 0, none⟩) j7.length j7.length)) (nn ?_)
 obtain ⟨jl, jm, jn⟩ := bind_some hr
 refine W_cut (fun f w => ∃ (s : St) (jo : σ), s.w = w ∧ Tch I.M s0 s ∧ Le ja s ∧ Sum.inl jo = jl ∧ f 2 = w2 ∧ EffAt I s jo) ?_ ?_
 ·refine W_block (W_loop (fun m f w => ∃ (s : St) (jp : σ) (jq : List Int), s.w = w ∧ Tch I.M s0 s ∧ Le ja s ∧ check_numbers_l1 N a0 a1 a2 m jp jq = some jl ∧ f 0 = vi (a0) ∧ f 1 = vi (a1) ∧ f 2 = w2 ∧ f 6 = Value.slice (some ⟨je, 0, none⟩) j7.length j7.length ∧ EffAt I s jp ∧ Arr s je 3 j7.length jq) N ⟨ja, q0, j7, rfl, jd, (Le.refl _), jm, rfl, rfl, rfl, rfl, ((hq0).ext j3).ext jb, jg⟩ ?_)
  rintro jr js jt ⟨ju, jp, jq, rfl, jv, jw, hr, jx, jy, jz, k0, k1, k2⟩
  cases jr with
  | zero => exact absurd hr (by simp [check_numbers_l1])
  | succ jr =>
   rw [check_numbers_l1.eq_2] at hr
   refine W_block (sr (mv jz (mv k0 ?_)))
   obtain ⟨k3, k4, hr⟩ := bind_some hr
   obtain ⟨k5, k6, k7, k8⟩ := (k2).freeze
   refine L_calls_fzB flat3 cal74 (args1 (rv (Value.slice (some ⟨je, 0, none⟩) j7.length j7.length))) k6 k7 (fun k hk => by have k9 : k = je := hk; rw [k9]; exact (k2).g) (k2).lt (slices_Clone_Lint_int_ok N _ _ _ k8 k3 k4) (by decide) (fun ka kb kc kd => ?_)
   have ke := Tch.ext jv kc
   obtain ⟨kf, kg, hr⟩ := bind_some hr
   refine L_callE (rv w2) ((h2.mono (j3.le.trans (jb.le.trans (jw.trans kc.le))))) (rv ka) (((kd.base jv.size)).toV) ((k1).ext kc) kg (by decide) (fun kh => ?_)
   intro ki kj kk
   have kl := Tch.trans ke kj (fun k hk => Or.inl hk)
   refine nn (sr (mv jx ?_))
   obtain ⟨km, hr⟩ := chk_some hr
   refine L_sub (rv (vi a0)) (rv (vi 1)) km (by decide) (asg (rv (vi (a0 - 1))) (nn (W_seq ?_)))
   obtain ⟨kn, ko, kp⟩ := bind_some hr
   refine W_cut (fun f w => ∃ (s : St) (kq : Int) (kr : List Int), s.w = w ∧ Tch I.M s0 s ∧ Le ki s ∧ (kq, kr) = kn ∧ f 7 = vi kq ∧ f 0 = vi (a0) ∧ f 1 = vi (a1) ∧ f 2 = w2 ∧ f 6 = Value.slice (some ⟨je, 0, none⟩) j7.length j7.length ∧ EffAt I s kf ∧ Arr s je 3 j7.length kr) ?_ ?_
   ·refine W_block (W_loop (fun m f w => ∃ (s : St) (ks : Int) (kt : List Int), s.w = w ∧ Tch I.M s0 s ∧ Le ki s ∧ check_numbers_l2 N a1 m ks kt = some kn ∧ f 7 = vi ks ∧ f 0 = vi (a0) ∧ f 1 = vi (a1) ∧ f 2 = w2 ∧ f 6 = Value.slice (some ⟨je, 0, none⟩) j7.length j7.length ∧ EffAt I s kf ∧ Arr s je 3 j7.length kt) N ⟨ki, (a0 - 1), jq, rfl, kl, (Le.refl _), ko, rfl, jx, jy, jz, k0, kk, ((k2).ext kc).tch kj ((fun k hk hm => jh k hm hk) je rfl)⟩ ?_)
    rintro ku kv kw ⟨kx, ks, kt, rfl, ky, kz, hr, g0, g1, g2, g3, g4, g5, g6⟩
    cases ku with
    | zero => exact absurd hr (by simp [check_numbers_l2])
    | succ ku =>
     rw [check_numbers_l2.eq_2] at hr
     refine W_seq ?_
     obtain ⟨g7, g8, g9⟩ := bind_some hr
     refine W_seq_cut (fun f w => ∃ (s : St) (ga : Bool), s.w = w ∧ Tch I.M s0 s ∧ Le kx s ∧ ga = g7 ∧ f 26 = vb ga ∧ f 0 = vi (a0) ∧ f 1 = vi (a1) ∧ f 2 = w2 ∧ f 6 = Value.slice (some ⟨je, 0, none⟩) j7.length j7.length ∧ f 7 = vi (ks) ∧ EffAt I s kf ∧ Arr s je 3 j7.length kt) ?_ ?_
     ·have hr := g8
      refine W_region (mv g0 (L_geq (rv (vi ks)) (rv (vi 0)) (by decide) (mv (rv (vb (decide (0 ≤ ks)))) ?_)))
      rcases tf (decide (0 ≤ ks)) with gb | gb
      ·have hr := ite_t gb hr; refine gt 19 (rv (vb (decide (0 ≤ ks)))) gb (mv g4 (gt 19 (rv (vb (decide (0 ≤ ks)))) gb (mv g0 (gt 19 (rv (vb (decide (0 ≤ ks)))) gb ?_)))); obtain ⟨gc, gd, hr⟩ := bind_some hr; refine L_indexA (sz := 1) Tryz.underlying38 ty3.inf (rv (Value.slice (some ⟨je, 0, none⟩) j7.length j7.length)) (rv (vi ks)) (idx_some gd).1 (by have := (idx_some gd).2.1; have := (g6).1; omega) (by decide) (gt 19 (rv (vb (decide (0 ≤ ks)))) gb (L_loadA (xs := kt) ty3 (rv (Value.pointer (some ⟨je, (ks).toNat * 1, none⟩))) (g6) gd (by decide) (fun gg gh => ?_))); obtain rfl := gh.int; exact gt 19 (rv (vb (decide (0 ≤ ks)))) gb (mv g2 (gt 19 (rv (vb (decide (0 ≤ ks)))) gb (el (rv (vi gc)) (rv (vi a1)) (pt (rv (vb (decide (0 ≤ ks)))) gb (rv (vb (decide (gc = a1)))) (nn ⟨kx, (decide (gc = a1)), rfl, ky, (Le.refl _), Option.some.inj hr, rfl, g1, g2, g3, g4, g0, g5, g6⟩)))))
      ·have hr := ite_f gb hr; exact gf 19 (rv (vb (decide (0 ≤ ks)))) gb (gf 19 (rv (vb (decide (0 ≤ ks)))) gb (gf 19 (rv (vb (decide (0 ≤ ks)))) gb (gf 19 (rv (vb (decide (0 ≤ ks)))) gb (gf 19 (rv (vb (decide (0 ≤ ks)))) gb (gf 19 (rv (vb (decide (0 ≤ ks)))) gb (pf (rv (vb (decide (0 ≤ ks)))) gb (rv (vb false)) (nn ⟨kx, false, rfl, ky, (Le.refl _), Option.some.inj hr, rfl, g1, g2, g3, g4, g0, g5, g6⟩)))))))
     ·rintro gb gc ⟨gd, ga, rfl, gg, gh, g8, gi, gj, gk, gl, gm, gn, go, gp⟩
      subst g8
      have hr := g9
      try dsimp only at hr
      refine W_cond _ gi (fun gq => ?_) (fun gq => ?_)
      ·have hr := ite_t gq hr; refine W_skip (then_n (W_block (sr (mv gm (mv gn ?_))))); obtain ⟨gr, gs, hr⟩ := bind_some hr; refine L_indexA (sz := 1) Tryz.underlying38 ty3.inf (rv (Value.slice (some ⟨je, 0, none⟩) j7.length j7.length)) (rv (vi ks)) (idx_some gs).1 (by have := (idx_some gs).2.1; have := (gp).1; omega) (by decide) (L_storeA (xs := kt) ty3 (rv (Value.pointer (some ⟨je, (ks).toNat * 1, none⟩))) (rv (vi 1)) Vint (gp) gs (fun gu gv gw => ?_)); have gx := Tch.trans gg gv (fun k hk => Or.inr (by subst hk; exact (Nat.le_trans j6.size jf))); refine nn (W_region (mv gn ?_)); obtain ⟨gy, hr⟩ := chk_some hr; refine L_sub (rv (vi ks)) (rv (vi 1)) gy (by decide) (asg (rv (vi (ks - 1))) (L_nil (block_n ?_))); exact then_n ⟨ku, Nat.lt_succ_self _, ⟨gu, (ks - 1), (kt.set (ks).toNat 1), rfl, gx, (kz.trans (gh.trans gv.le)), hr, rfl, gj, gk, gl, gm, (go).tch gv (fun k hk => jh k hk), gw⟩⟩
      ·have hr := ite_f gq hr; refine W_exit (then_x (then_x (block_here ?_))); exact then_n ⟨gd, ks, kt, rfl, gg, (kz.trans gh), Option.some.inj hr, gn, gj, gk, gl, gm, go, gp⟩
   ·rintro ks kt ⟨ku, kq, kr, rfl, kv, kw, ko, kx, ky, kz, g0, g1, g2, g3⟩
    subst ko
    have hr := kp
    try dsimp only at hr
    refine then_n (W_seq (sr (mv kx (ls (rv (vi kq)) (rv (vi 0)) (nn ?_)))))
    refine W_cond _ (rv (vb (decide (kq < 0)))) (fun g4 => ?_) (fun g4 => ?_)
    ·have hr := ite_t g4 hr; refine W_ret (then_r (block_r (then_r (block_r ?_)))); obtain rfl := Option.some.inj hr; have hr := jn; (try dsimp only at hr); refine then_r ?_; obtain rfl := Option.some.inj hr; exact done0 (Or.inl rfl) Tryz.results69 ⟨_, _, rfl, rfl, kv, g2⟩
    ·have hr := ite_f g4 hr; refine W_skip (then_n (W_region (mv g1 (mv kx ?_)))); obtain ⟨g5, g6, hr⟩ := bind_some hr; refine L_indexA (sz := 1) Tryz.underlying38 ty3.inf (rv (Value.slice (some ⟨je, 0, none⟩) j7.length j7.length)) (rv (vi kq)) (idx_some g6).1 (by have := (idx_some g6).2.1; have := (g3).1; omega) (by decide) (L_loadA (xs := kr) ty3 (rv (Value.pointer (some ⟨je, (kq).toNat * 1, none⟩))) (g3) g6 (by decide) (fun g7 g8 => ?_)); obtain rfl := g8.int; obtain ⟨g9, hr⟩ := chk_some hr; refine ad (rv (vi g5)) (rv (vi 1)) g9 ?_; obtain ⟨ga, gb, hr⟩ := bind_some hr; refine L_indexA (sz := 1) Tryz.underlying38 ty3.inf (rv (Value.slice (some ⟨je, 0, none⟩) j7.length j7.length)) (rv (vi kq)) (idx_some gb).1 (by have := (idx_some gb).2.1; have := (g3).1; omega) (by decide) (L_storeA (xs := kr) ty3 (rv (Value.pointer (some ⟨je, (kq).toNat * 1, none⟩))) (rv (vi (g5 + 1))) Vint (g3) gb (fun gc gd gg => ?_)); have gh := Tch.trans kv gd (fun k hk => Or.inr (by subst hk; exact (Nat.le_trans j6.size jf))); refine L_nil (block_n ?_); exact then_n ⟨jr, Nat.lt_succ_self _, ⟨gc, kf, (kr.set (kq).toNat (g5 + 1)), rfl, gh, (jw.trans (kc.le.trans (kj.le.trans (kw.trans gd.le)))), hr, ky, kz, g0, g1, (g2).tch gd (fun k hk => jh k hk), gg⟩⟩
 ·rintro jp jq ⟨jr, jo, rfl, js, jt, jm, ju, jv⟩; subst jm; have hr := jn; (try dsimp only at hr); obtain rfl := Option.some.inj hr; exact done0 (Or.inr rfl) Tryz.results69 ⟨_, _, rfl, rfl, js, jv⟩

theorem cmp_Or_int_ok (N : Nat) (s0 : St) (w0 : Value) (a0 : List Int) (h0 : V s0 w0 a0) (r : Int) (hr : cmp_Or_int N a0 = some r) :
    Calls Tryz.prog 121 #[w0] s0.w (Ret s0 fun v s => V s v r) := by
 unfold cmp_Or_int at hr
 have j0 := Ext.refl s0
 refine Calls_of (n := 18) (args := [w0]) Tryz.func121 rfl rfl (by simp) (sr (asg (rv (vi 0)) (nn (sr (asg (rv (vi 0)) (nn (W_seq (sr (mv (rv w0) (ln Tryz.underlying38 (rv w0) h0 (mv (rv (vi 0)) (nn ?_))))))))))))
 obtain ⟨j1, j2, j3⟩ := bind_some hr
 refine W_cut (fun f w => ∃ (s : St), s.w = w ∧ Ext s0 s ∧ Le s0 s ∧ Sum.inl () = j1 ∧ f 3 = vi (0)) ?_ ?_
 ·refine W_block (W_loop (fun m f w => ∃ (s : St) (j4 : Int), s.w = w ∧ Ext s0 s ∧ Le s0 s ∧ cmp_Or_int_l1 N a0 m j4 = some j1 ∧ f 8 = vi j4 ∧ f 3 = vi (0) ∧ f 6 = w0 ∧ f 7 = vi ((a0.length : Int))) N ⟨s0, 0, rfl, j0, (Le.refl _), j2, rfl, rfl, rfl, rfl⟩ ?_)
  rintro j5 j6 j7 ⟨j8, j4, rfl, j9, ja, hr, jb, jc, jd, je⟩
  cases j5 with
  | zero => exact absurd hr (by simp [cmp_Or_int_l1])
  | succ j5 =>
   rw [cmp_Or_int_l1.eq_2] at hr
   refine sr (ls jb je (nn (W_seq ?_)))
   refine W_cond _ (rv (vb (decide (j4 < (a0.length : Int))))) (fun jf => ?_) (fun jf => ?_)
   ·have hr := ite_t jf hr
    refine W_skip (then_n (W_seq (W_block (sr ?_))))
    obtain ⟨jg, jh, hr⟩ := bind_some hr
    refine ix Tryz.underlying38 ty3.inf jd (h0.mono ja) jb jh (fun ji jj => li ty3 (rv ji) jj (asg (rv (vi jg)) (nn (sr (mv (rv (vi jg)) (mv jc (ne (rv (vi jg)) (rv (vi 0)) (nn ?_))))))))
    refine W_cond _ (rv (vb (!decide (jg = 0)))) (fun jk => ?_) (fun jk => ?_)
    ·have hr := ite_t jk hr; refine sr (mv (rv (vi jg)) (asg (rv (vi jg)) (nn (W_ret (block_r (then_r (then_r (block_r ?_)))))))); obtain rfl := Option.some.inj hr; have hr := j3; (try dsimp only at hr); refine then_r (then_r ?_); obtain rfl := Option.some.inj hr; exact done1 (Or.inl rfl) Tryz.results121 rfl ⟨_, _, rfl, rfl, j9, Vint⟩
    ·have hr := ite_f jk hr; refine W_skip (block_n (then_n (W_region ?_))); obtain ⟨jl, hr⟩ := chk_some hr; exact ad jb (rv (vi 1)) jl (mv (rv (vi (j4 + 1))) (nn ⟨j5, Nat.lt_succ_self _, ⟨j8, (j4 + 1), rfl, j9, ja, hr, rfl, jc, jd, je⟩⟩))
   ·have hr := ite_f jf hr; refine W_exit (then_x (then_x (block_here ?_))); exact then_n ⟨j8, rfl, j9, ja, Option.some.inj hr, jc⟩
 ·rintro j4 j5 ⟨j6, rfl, j7, j8, j2, j9⟩; subst j2; have hr := j3; (try dsimp only at hr); refine then_n (sr (mv j9 (asg (rv (vi 0)) (nn (W_ret ?_))))); obtain rfl := Option.some.inj hr; exact done1 (Or.inl rfl) Tryz.results121 rfl ⟨_, _, rfl, rfl, j7, Vint⟩

theorem cmp_isNaN_uint64_ok (N : Nat) (s0 : St) (a0 : U64) (r : Bool) (hr : cmp_isNaN_uint64 N a0 = some r) :
    Calls Tryz.prog 132 #[.int .u64 a0.n] s0.w (Ret s0 fun v s => V s v r) := by
 unfold cmp_isNaN_uint64 at hr
 have j0 := Ext.refl s0
 refine Calls_of (n := 6) (args := [.int .u64 a0.n]) Tryz.func132 rfl rfl (by simp) (sr (asg (rv (vb false)) (nn (sr (mv (rv (Value.int .u64 (a0).n)) (mv (rv (Value.int .u64 (a0).n)) (ne (rv (Value.int .u64 (a0).n)) (rv (Value.int .u64 (a0).n)) (asg (rv (vb (!decide (a0.n = a0.n)))) (nn (W_ret ?_))))))))))
 obtain rfl := Option.some.inj hr
 exact done1 (Or.inl rfl) Tryz.results132 rfl ⟨_, _, rfl, rfl, j0, Vbool⟩

theorem cmp_Compare_uint64_ok (N : Nat) (s0 : St) (a0 : U64) (a1 : U64) (r : Int) (hr : cmp_Compare_uint64 N a0 a1 = some r) :
    Calls Tryz.prog 122 #[.int .u64 a0.n, .int .u64 a1.n] s0.w (Ret s0 fun v s => V s v r) := by
 unfold cmp_Compare_uint64 at hr
 have j0 := Ext.refl s0
 refine Calls_of (n := 20) (args := [.int .u64 a0.n, .int .u64 a1.n]) Tryz.func122 rfl rfl (by simp) (sr (asg (rv (vi 0)) (nn (sr (mv (rv (Value.int .u64 (a0).n)) ?_)))))
 obtain ⟨j1, j2, hr⟩ := bind_some hr
 refine L_calls cal132 (args1 (rv (Value.int .u64 (a0).n))) (cmp_isNaN_uint64_ok N _ a0 j1 j2) (by decide) (fun j3 j4 j5 j6 => ?_)
 have j7 := Tch.ext j0 j5
 obtain rfl := j6.bool
 refine asg (rv (vb j1)) (nn (sr (mv (rv (Value.int .u64 (a1).n)) ?_)))
 obtain ⟨j8, j9, hr⟩ := bind_some hr
 refine L_calls cal132 (args1 (rv (Value.int .u64 (a1).n))) (cmp_isNaN_uint64_ok N _ a1 j8 j9) (by decide) (fun ja jb jc jd => ?_)
 have je := Tch.ext j7 jc
 obtain rfl := jd.bool
 refine asg (rv (vb j8)) (nn (W_seq (sr (mv (rv (vb j1)) (nn ?_)))))
 refine W_cond _ (rv (vb j1)) (fun jf => ?_) (fun jf => ?_)
 ·have hr := ite_t jf hr
  refine W_seq (sr (mv (rv (vb j8)) (nn ?_)))
  refine W_cond _ (rv (vb j8)) (fun jg => ?_) (fun jg => ?_)
  ·have hr := ite_t jg hr; refine sr (asg (rv (vi 0)) (nn (W_ret (then_r (then_r ?_))))); obtain rfl := Option.some.inj hr; exact done1 (Or.inl rfl) Tryz.results122 rfl ⟨_, _, rfl, rfl, je, Vint⟩
  ·have hr := ite_f jg hr; refine W_skip (then_n (sr (asg (rv (vi (-1))) (nn (W_ret (then_r ?_)))))); obtain rfl := Option.some.inj hr; exact done1 (Or.inl rfl) Tryz.results122 rfl ⟨_, _, rfl, rfl, je, Vint⟩
 ·have hr := ite_f jf hr
  refine W_skip (then_n (W_seq (sr (mv (rv (vb j8)) (nn ?_)))))
  refine W_cond _ (rv (vb j8)) (fun jg => ?_) (fun jg => ?_)
  ·have hr := ite_t jg hr; refine sr (asg (rv (vi 1)) (nn (W_ret (then_r ?_)))); obtain rfl := Option.some.inj hr; exact done1 (Or.inl rfl) Tryz.results122 rfl ⟨_, _, rfl, rfl, je, Vint⟩
  ·have hr := ite_f jg hr
   refine W_skip (then_n (W_seq (sr (mv (rv (Value.int .u64 (a0).n)) (mv (rv (Value.int .u64 (a1).n)) (ls (rv (Value.int .u64 (a0).n)) (rv (Value.int .u64 (a1).n)) (nn ?_)))))))
   refine W_cond _ (rv (vb (decide (a0.n < a1.n)))) (fun jh => ?_) (fun jh => ?_)
   ·have hr := ite_t jh hr; refine sr (asg (rv (vi (-1))) (nn (W_ret (then_r ?_)))); obtain rfl := Option.some.inj hr; exact done1 (Or.inl rfl) Tryz.results122 rfl ⟨_, _, rfl, rfl, je, Vint⟩
   ·have hr := ite_f jh hr
    refine W_skip (then_n (W_seq (sr (mv (rv (Value.int .u64 (a0).n)) (mv (rv (Value.int .u64 (a1).n)) (L_gtr (rv (Value.int .u64 (a0).n)) (rv (Value.int .u64 (a1).n)) (by decide) (nn ?_)))))))
    refine W_cond _ (rv (vb (decide (a1.n < a0.n)))) (fun ji => ?_) (fun ji => ?_)
    ·have hr := ite_t ji hr; refine sr (asg (rv (vi 1)) (nn (W_ret (then_r ?_)))); obtain rfl := Option.some.inj hr; exact done1 (Or.inl rfl) Tryz.results122 rfl ⟨_, _, rfl, rfl, je, Vint⟩
    ·have hr := ite_f ji hr; refine W_skip (then_n (sr (asg (rv (vi 0)) (nn (W_ret ?_))))); obtain rfl := Option.some.inj hr; exact done1 (Or.inl rfl) Tryz.results122 rfl ⟨_, _, rfl, rfl, je, Vint⟩

theorem check_Loss_compare_ok (N : Nat) (s0 : St) (w0 : Value) (a0 : Loss) (h0 : V s0 w0 a0) (w1 : Value) (a1 : Loss) (h1 : V s0 w1 a1) (r : Int) (hr : check_Loss_compare N a0 a1 = some r) :
    Calls Tryz.prog 71 #[w0, w1] s0.w (Ret s0 fun v s => V s v r) := by
 unfold check_Loss_compare at hr
 have j0 := Ext.refl s0
 refine Calls_of (n := 37) (args := [w0, w1]) Tryz.func71 rfl rfl (by simp) (sr (L_box (rv w0) h0 (by decide) (fun j1 j2 j3 j4 => ?_)))
 have j5 := Tch.ext j0 j3
 refine L_box (rv w1) (h1.mono j3.le) (by decide) (fun j6 j7 j8 j9 => ?_)
 have ja := Tch.ext j5 j8
 refine asg (rv (vi 0)) (nn (sr (fa fld40_0 Loss.of_Num (rv j2) (j4.mono j8.le) (fun jb jc => li ty3 (rv jb) jc (L_convK Tryz.underlying3 Tryz.underlying206 (rv (vi (a0.Num))) (by decide) (fa fld40_1 Loss.of_Den (rv j7) j9 (fun jd je => li ty3 (rv jd) je (L_convK Tryz.underlying3 Tryz.underlying206 (rv (vi (a1.Den))) (by decide) ?_))))))))
 obtain ⟨jf, jg, hr⟩ := bind_some hr
 refine L_calls cal120 (args2 (rv (Value.int .u64 ((⟨convK .u64 a0.Num⟩ : U64)).n)) (rv (Value.int .u64 ((⟨convK .u64 a1.Den⟩ : U64)).n))) (math_bits_Mul64_ok N _ (⟨convK .u64 a0.Num⟩ : U64) (⟨convK .u64 a1.Den⟩ : U64) jf jg) (by decide) (fun jh ji jj jk => ?_)
 have jl := Tch.ext ja jj
 obtain ⟨jm, jn, rfl, jo, jp⟩ := jk
 obtain rfl := jo.u64
 obtain rfl := jp.u64
 refine mv (rv (Value.tuple #[Value.int .u64 (jf.1).n, Value.int .u64 (jf.2).n])) (xt (rv (Value.tuple #[Value.int .u64 (jf.1).n, Value.int .u64 (jf.2).n])) (k := 0) rfl (xt (rv (Value.tuple #[Value.int .u64 (jf.1).n, Value.int .u64 (jf.2).n])) (k := 1) rfl (asg (rv (Value.int .u64 (jf.1).n)) (asg (rv (Value.int .u64 (jf.2).n)) (nn (sr (fa fld40_0 Loss.of_Num (rv j7) (j9.mono jj.le) (fun jq jr => li ty3 (rv jq) jr (L_convK Tryz.underlying3 Tryz.underlying206 (rv (vi (a1.Num))) (by decide) (fa fld40_1 Loss.of_Den (rv j2) (j4.mono (j8.le.trans jj.le)) (fun js jt => li ty3 (rv js) jt (L_convK Tryz.underlying3 Tryz.underlying206 (rv (vi (a0.Den))) (by decide) ?_))))))))))))
 obtain ⟨ju, jv, hr⟩ := bind_some hr
 refine L_calls cal120 (args2 (rv (Value.int .u64 ((⟨convK .u64 a1.Num⟩ : U64)).n)) (rv (Value.int .u64 ((⟨convK .u64 a0.Den⟩ : U64)).n))) (math_bits_Mul64_ok N _ (⟨convK .u64 a1.Num⟩ : U64) (⟨convK .u64 a0.Den⟩ : U64) ju jv) (by decide) (fun jw jx jy jz => ?_)
 have k0 := Tch.ext jl jy
 obtain ⟨k1, k2, rfl, k3, k4⟩ := jz
 obtain rfl := k3.u64
 obtain rfl := k4.u64
 refine mv (rv (Value.tuple #[Value.int .u64 (ju.1).n, Value.int .u64 (ju.2).n])) (xt (rv (Value.tuple #[Value.int .u64 (ju.1).n, Value.int .u64 (ju.2).n])) (k := 0) rfl (xt (rv (Value.tuple #[Value.int .u64 (ju.1).n, Value.int .u64 (ju.2).n])) (k := 1) rfl (asg (rv (Value.int .u64 (ju.1).n)) (asg (rv (Value.int .u64 (ju.2).n)) (nn (sr (mv (rv (Value.int .u64 (jf.1).n)) (mv (rv (Value.int .u64 (ju.1).n)) ?_))))))))
 obtain ⟨k5, k6, hr⟩ := bind_some hr
 refine L_calls cal122 (args2 (rv (Value.int .u64 (jf.1).n)) (rv (Value.int .u64 (ju.1).n))) (cmp_Compare_uint64_ok N _ jf.1 ju.1 k5 k6) (by decide) (fun k7 k8 k9 ka => ?_)
 have kb := Tch.ext k0 k9
 obtain rfl := ka.int
 refine mv (rv (Value.int .u64 (jf.2).n)) (mv (rv (Value.int .u64 (ju.2).n)) ?_)
 obtain ⟨kc, kd, hr⟩ := bind_some hr
 refine L_calls cal122 (args2 (rv (Value.int .u64 (jf.2).n)) (rv (Value.int .u64 (ju.2).n))) (cmp_Compare_uint64_ok N _ jf.2 ju.2 kc kd) (by decide) (fun ke kf kg kh => ?_)
 have ki := Tch.ext kb kg
 obtain rfl := kh.int
 refine L_buildSlice (xs := ([k5, kc] : List Int)) Tryz.underlying38 tyz3 (Parts_cons rfl (rv (vi k5)) (Parts_cons rfl (rv (vi kc)) Parts_nil)) (Vs.cons Vint (Vs.cons Vint Vs.nil)) rfl (by decide) (by decide) (fun kj kk kl km kn => ?_)
 have ko := Tch.ext ki kl
 obtain ⟨kp, kq, hr⟩ := bind_some hr
 refine L_calls cal121 (args1 (rv kk)) (cmp_Or_int_ok N _ _ _ kn kp kq) (by decide) (fun kr ks kt ku => ?_)
 have kv := Tch.ext ko kt
 obtain rfl := ku.int
 refine asg (rv (vi kp)) (nn (W_ret ?_))
 obtain rfl := Option.some.inj hr
 exact done1 (Or.inl rfl) Tryz.results71 rfl ⟨_, _, rfl, rfl, kv, Vint⟩

theorem check_Best_1_ok (N : Nat) (s0 : St) (w0 : Value) (a0 : List Int) (h0 : V s0 w0 a0) (w1 : Value) (a1 : List Level) (h1 : Ptr s0 w1 a1) (bc1 : Nat) (a2 : Int) (hc1 : Var s0 bc1 3 a2) (bc2 : Nat) (a3 : Int) (hc2 : Var s0 bc2 3 a3) (n1_2 : bc1 ≠ bc2) (bc3 : Nat) (a4 : Loss) (hc3 : Var s0 bc3 40 a4) (n1_3 : bc1 ≠ bc3) (n2_3 : bc2 ≠ bc3) (bc4 : Nat) (a5 : List Int) (hc4 : Var s0 bc4 38 a5) (n1_4 : bc1 ≠ bc4) (n2_4 : bc2 ≠ bc4) (n3_4 : bc3 ≠ bc4) (r : Int × Loss × (List Int)) (hr : check_Best_1 N a0 a1 a2 a3 a4 a5 = some r) :
    Calls Tryz.prog 70 #[w0, w1, .pointer (some ⟨bc1, 0, none⟩), .pointer (some ⟨bc2, 0, none⟩), .pointer (some ⟨bc3, 0, none⟩), .pointer (some ⟨bc4, 0, none⟩)] s0.w (RetM (fun k => k = bc1 ∨ k = bc2 ∨ k = bc3 ∨ k = bc4) s0 fun _ s => Var s bc2 3 r.1 ∧ Var s bc3 40 r.2.1 ∧ Var s bc4 38 r.2.2 ∧ Var s bc1 3 a2) := by
 unfold check_Best_1 at hr
 have j0 : ∀ k, (fun k => k = bc1) k → ¬ (fun k => k = bc2) k := fun k h1 j1 => n1_2 (h1.symm.trans j1)
 have j2 : ∀ k, (fun k => k = bc1) k → ¬ (fun k => k = bc3) k := fun k h1 j1 => n1_3 (h1.symm.trans j1)
 have j3 : ∀ k, (fun k => k = bc2) k → ¬ (fun k => k = bc3) k := fun k h1 j1 => n2_3 (h1.symm.trans j1)
 have j4 : ∀ k, (fun k => k = bc1) k → ¬ (fun k => k = bc4) k := fun k h1 j1 => n1_4 (h1.symm.trans j1)
 have j5 : ∀ k, (fun k => k = bc2) k → ¬ (fun k => k = bc4) k := fun k h1 j1 => n2_4 (h1.symm.trans j1)
 have j6 : ∀ k, (fun k => k = bc3) k → ¬ (fun k => k = bc4) k := fun k h1 j1 => n3_4 (h1.symm.trans j1)
 have j7 := Tch.refl (fun k => k = bc1 ∨ k = bc2 ∨ k = bc3 ∨ k = bc4) s0
 refine Calls_of (n := 23) (args := [w0, w1, .pointer (some ⟨bc1, 0, none⟩), .pointer (some ⟨bc2, 0, none⟩), .pointer (some ⟨bc3, 0, none⟩), .pointer (some ⟨bc4, 0, none⟩)]) Tryz.func70 rfl rfl (by simp) (sr (ld ty43 (rv w1) h1 (fun j8 j9 => L_load_var ty3 (rv (Value.pointer (some ⟨bc1, 0, none⟩))) (hc1) (by decide) (fun ja jb => ?_))))
 obtain rfl := jb.int
 refine mv (rv w0) ?_
 obtain ⟨jc, jd, hr⟩ := bind_some hr
 refine L_calls cal66 (args3 (rv j8) (rv (vi a2)) (rv w0)) (check_lose_ok N _ _ _ j9 a2 _ _ h0 jc jd) (by decide) (fun je jf jg jh => ?_)
 have ji := Tch.ext j7 jg
 refine L_alloc (α := Loss) (x := ⟨0, 0⟩) zero40 Loss.zero_rel (by decide) (fun jj jk jl jm jn => ?_)
 have jo := Tch.ext ji jl
 have jp : ∀ k, (fun k => k = bc1) k → ¬ (fun k => k = jk) k := fun k h1 j1 => by have jq := (fun k (hk : k = bc1) => lt_at hk ((hc1).ext jg).lt) k h1; have jr := jm; subst j1; omega
 have js : ∀ k, (fun k => k = bc2) k → ¬ (fun k => k = jk) k := fun k h1 j1 => by have jq := (fun k (hk : k = bc2) => lt_at hk ((hc2).ext jg).lt) k h1; have jr := jm; subst j1; omega
 have jt : ∀ k, (fun k => k = bc3) k → ¬ (fun k => k = jk) k := fun k h1 j1 => by have jq := (fun k (hk : k = bc3) => lt_at hk ((hc3).ext jg).lt) k h1; have jr := jm; subst j1; omega
 have ju : ∀ k, (fun k => k = bc4) k → ¬ (fun k => k = jk) k := fun k h1 j1 => by have jq := (fun k (hk : k = bc4) => lt_at hk ((hc4).ext jg).lt) k h1; have jr := jm; subst j1; omega
 refine L_store_ro ty40 (rv (Value.pointer (some ⟨jk, 0, none⟩))) (rv je) (jh.mono jl.le) (jn) (fun jv jw jx => ?_)
 have jy := Tch.trans jo jw (fun k hk => Or.inr (by subst hk; exact (Nat.le_trans ji.size jm)))
 refine nn ?_
 obtain ⟨jz, k0, k1⟩ := bind_some hr
 refine W_seq_cut (fun f w => ∃ (s : St) (k2 : Bool), s.w = w ∧ Tch (fun k => k = bc1 ∨ k = bc2 ∨ k = bc3 ∨ k = bc4) s0 s ∧ Le jv s ∧ k2 = jz ∧ f 19 = vb k2 ∧ f 0 = w0 ∧ f 2 = Value.pointer (some ⟨bc1, 0, none⟩) ∧ f 3 = Value.pointer (some ⟨bc2, 0, none⟩) ∧ f 4 = Value.pointer (some ⟨bc3, 0, none⟩) ∧ f 5 = Value.pointer (some ⟨bc4, 0, none⟩) ∧ f 7 = Value.pointer (some ⟨jk, 0, none⟩) ∧ Var s bc1 3 a2 ∧ Var s bc2 3 a3 ∧ Var s bc3 40 a4 ∧ Var s bc4 38 a5) ?_ ?_
 ·have hr := k0
  refine W_region (L_load_var ty3 (rv (Value.pointer (some ⟨bc2, 0, none⟩))) ((((hc2).ext jg).ext jl).tch jw ((fun k hk => js k hk) bc2 rfl)) (by decide) (fun k3 k4 => ?_))
  obtain rfl := k4.int
  refine el (rv (vi a3)) (rv (vi 0)) (mv (rv (vb (decide (a3 = 0)))) ?_)
  rcases tf (decide (a3 = 0)) with k5 | k5
  ·have hr := ite_t k5 hr; exact gf 14 (rv (vb (decide (a3 = 0)))) k5 (gf 14 (rv (vb (decide (a3 = 0)))) k5 (gf 14 (rv (vb (decide (a3 = 0)))) k5 (gf 14 (rv (vb (decide (a3 = 0)))) k5 (pt (rv (vb (decide (a3 = 0)))) k5 (rv (vb true)) (nn ⟨jv, true, rfl, jy, (Le.refl _), Option.some.inj hr, rfl, rfl, rfl, rfl, rfl, rfl, rfl, (((hc1).ext jg).ext jl).tch jw ((fun k hk => jp k hk) bc1 rfl), (((hc2).ext jg).ext jl).tch jw ((fun k hk => js k hk) bc2 rfl), (((hc3).ext jg).ext jl).tch jw ((fun k hk => jt k hk) bc3 rfl), (((hc4).ext jg).ext jl).tch jw ((fun k hk => ju k hk) bc4 rfl)⟩)))))
  ·have hr := ite_f k5 hr; refine gt 14 (rv (vb (decide (a3 = 0)))) k5 (ld ty40 (rv (Value.pointer (some ⟨jk, 0, none⟩))) jx (fun k6 k7 => gt 14 (rv (vb (decide (a3 = 0)))) k5 (L_load_var ty40 (rv (Value.pointer (some ⟨bc3, 0, none⟩))) ((((hc3).ext jg).ext jl).tch jw ((fun k hk => jt k hk) bc3 rfl)) (by decide) (fun k8 k9 => gt 14 (rv (vb (decide (a3 = 0)))) k5 ?_)))); obtain ⟨ka, kb, hr⟩ := bind_some hr; refine L_calls cal71 (args2 (rv k6) (rv k8)) (check_Loss_compare_ok N _ _ _ k7 _ _ k9 ka kb) (by decide) (fun kc kd ke kf => ?_); have kg := Tch.ext jy ke; obtain rfl := kf.int; exact gt 14 (rv (vb (decide (a3 = 0)))) k5 (ls (rv (vi ka)) (rv (vi 0)) (pf (rv (vb (decide (a3 = 0)))) k5 (rv (vb (decide (ka < 0)))) (nn ⟨kd, (decide (ka < 0)), rfl, kg, ke.le, Option.some.inj hr, rfl, rfl, rfl, rfl, rfl, rfl, rfl, ((((hc1).ext jg).ext jl).tch jw ((fun k hk => jp k hk) bc1 rfl)).ext ke, ((((hc2).ext jg).ext jl).tch jw ((fun k hk => js k hk) bc2 rfl)).ext ke, ((((hc3).ext jg).ext jl).tch jw ((fun k hk => jt k hk) bc3 rfl)).ext ke, ((((hc4).ext jg).ext jl).tch jw ((fun k hk => ju k hk) bc4 rfl)).ext ke⟩)))
 ·rintro k3 k4 ⟨k5, k2, rfl, k6, k7, k0, k8, k9, ka, kb, kc, kd, ke, kf, kg, kh, ki⟩
  subst k0
  have hr := k1
  try dsimp only at hr
  refine W_cond _ k8 (fun kj => ?_) (fun kj => ?_)
  ·have hr := ite_t kj hr
   refine W_drawO mixed 6 [PX.eq (vi a2), PX.data (a0 : List Int), PX.data (jc : Loss), PX.var 0 3 (a2 : Int), PX.var 0 38 (a0 : List Int), PX.var 0 40 (jc : Loss), PX.var 0 3 (a3 : Int), PX.var 0 38 (a5 : List Int), PX.var 0 40 (a4 : Loss), PX.var 0 3 (a2 : Int)] [20, 21, 22, 3, 5, 4, 3, 5, 4, 2] [[], [], [], [6], [7], [8]] rfl (by kernel_rfl) (ent4 rfl ⟨bc2, kb, Nat.zero_le _, kg⟩ ⟨bc4, kd, Nat.zero_le _, ki⟩ ⟨bc3, kc, Nat.zero_le _, kh⟩ ⟨bc1, ka, Nat.zero_le _, kf⟩) (dis4 rfl (fun k h1 j1 => j5 k (own_ptr (kb : _ = Value.pointer (some ⟨bc2, 0, none⟩)) h1) (own_ptr (kd : _ = Value.pointer (some ⟨bc4, 0, none⟩)) j1)) (fun k h1 j1 => (fun k hk hm => j5 k hm hk) k (own_ptr (kd : _ = Value.pointer (some ⟨bc4, 0, none⟩)) h1) (own_ptr (kb : _ = Value.pointer (some ⟨bc2, 0, none⟩)) j1)) (fun k h1 j1 => j3 k (own_ptr (kb : _ = Value.pointer (some ⟨bc2, 0, none⟩)) h1) (own_ptr (kc : _ = Value.pointer (some ⟨bc3, 0, none⟩)) j1)) (fun k h1 j1 => (fun k hk hm => j3 k hm hk) k (own_ptr (kc : _ = Value.pointer (some ⟨bc3, 0, none⟩)) h1) (own_ptr (kb : _ = Value.pointer (some ⟨bc2, 0, none⟩)) j1)) (fun k h1 j1 => (fun k hk hm => j0 k hm hk) k (own_ptr (kb : _ = Value.pointer (some ⟨bc2, 0, none⟩)) h1) (own_ptr (ka : _ = Value.pointer (some ⟨bc1, 0, none⟩)) j1)) (fun k h1 j1 => j0 k (own_ptr (ka : _ = Value.pointer (some ⟨bc1, 0, none⟩)) h1) (own_ptr (kb : _ = Value.pointer (some ⟨bc2, 0, none⟩)) j1)) (fun k h1 j1 => (fun k hk hm => j6 k hm hk) k (own_ptr (kd : _ = Value.pointer (some ⟨bc4, 0, none⟩)) h1) (own_ptr (kc : _ = Value.pointer (some ⟨bc3, 0, none⟩)) j1)) (fun k h1 j1 => j6 k (own_ptr (kc : _ = Value.pointer (some ⟨bc3, 0, none⟩)) h1) (own_ptr (kd : _ = Value.pointer (some ⟨bc4, 0, none⟩)) j1)) (fun k h1 j1 => (fun k hk hm => j4 k hm hk) k (own_ptr (kd : _ = Value.pointer (some ⟨bc4, 0, none⟩)) h1) (own_ptr (ka : _ = Value.pointer (some ⟨bc1, 0, none⟩)) j1)) (fun k h1 j1 => j4 k (own_ptr (ka : _ = Value.pointer (some ⟨bc1, 0, none⟩)) h1) (own_ptr (kd : _ = Value.pointer (some ⟨bc4, 0, none⟩)) j1)) (fun k h1 j1 => (fun k hk hm => j2 k hm hk) k (own_ptr (kc : _ = Value.pointer (some ⟨bc3, 0, none⟩)) h1) (own_ptr (ka : _ = Value.pointer (some ⟨bc1, 0, none⟩)) j1)) (fun k h1 j1 => j2 k (own_ptr (ka : _ = Value.pointer (some ⟨bc1, 0, none⟩)) h1) (own_ptr (kc : _ = Value.pointer (some ⟨bc3, 0, none⟩)) j1))) (StepsX_cons ?_ (StepsX_cons ?_ (StepsX_cons ?_ (StepsX_cons ?_ (StepsX_cons ?_ (StepsX_cons ?_ StepsX_nil)))))) ?_
   ·intro kk kl km kn ko kp Q kq
    obtain ⟨kr, ks, kt, ku⟩ : ∃ b, kk 2 = Value.pointer (some ⟨b, 0, none⟩) ∧ 0 ≤ b ∧ Var kl b 3 (a2 : Int) := kn 9 (by kernel_rfl) (by show _ < 10; decide)
    have kv : kk 2 = Value.pointer (some ⟨bc1, 0, none⟩) := (ko 2 (by kernel_rfl)).trans ka
    have kw : kr = bc1 := by have jq := ks.symm.trans kv; cases jq; rfl
    rw [kw] at kt ku
    refine L_load_var ty3 kv (ku) (by decide) (fun kx ky => ?_)
    obtain rfl := ky.int
    exact L_nil (kq _ _ No (Ext.refl kl) (fun _ h => h.elim) rfl (fun _ h => h.elim))
   ·intro kk kl km kn ko kp Q kq; have kr : kk 0 = w0 := (ko 0 (by kernel_rfl)).trans k9; exact mv kr (L_nil (kq _ _ No (Ext.refl kl) (fun _ h => h.elim) (h0.mono (jg.le.trans (jl.le.trans (jw.le.trans (k7.trans km.le))))) (fun _ h => h.elim)))
   ·intro kk kl km kn ko kp Q kq; have kr : kk 7 = Value.pointer (some ⟨jk, 0, none⟩) := (ko 7 (by kernel_rfl)).trans ke; exact ld ty40 kr (jx.mono (k7.trans km.le)) (fun ks kt => L_nil (kq _ _ No (Ext.refl kl) (fun _ h => h.elim) kt (fun _ h => h.elim)))
   ·intro kk kl km kn ko kp Q kq
    obtain ⟨kr, ks, kt, ku⟩ : ∃ b, kk 3 = Value.pointer (some ⟨b, 0, none⟩) ∧ 0 ≤ b ∧ Var kl b 3 (a3 : Int) := kn 6 (by kernel_rfl) (by show _ < 10; decide)
    have kv : kk 3 = Value.pointer (some ⟨bc2, 0, none⟩) := (ko 3 (by kernel_rfl)).trans kb
    have kw : kr = bc2 := by have jq := ks.symm.trans kv; cases jq; rfl
    rw [kw] at kt ku
    have kx : kk 20 = vi (a2) := kn 0 (by kernel_rfl) (by show _ < 10; decide)
    exact L_store ty3 kv kx Vint (ku) (fun ky kz g0 => L_nil (kq undef _ _ kz (fun k h => ⟨6, (List.mem_singleton.2 rfl : (6 : Nat) ∈ [6]), (by show ownP (kk 3) k; rw [kv]; exact congrArg (fun z => Value.pointer (some ⟨z, 0, none⟩)) h.symm)⟩) ⟨_, kv, kt, g0⟩ (fun k h => Or.inl ⟨6, (List.mem_singleton.2 rfl : (6 : Nat) ∈ [6]), h⟩)))
   ·intro kk kl km kn ko kp Q kq
    obtain ⟨kr, ks, kt, ku⟩ : ∃ b, kk 5 = Value.pointer (some ⟨b, 0, none⟩) ∧ 0 ≤ b ∧ Var kl b 38 (a5 : List Int) := kn 7 (by kernel_rfl) (by show _ < 10; decide)
    have kv : kk 5 = Value.pointer (some ⟨bc4, 0, none⟩) := (ko 5 (by kernel_rfl)).trans kd
    have kw : kr = bc4 := by have jq := ks.symm.trans kv; cases jq; rfl
    rw [kw] at kt ku
    have kx : V _ (kk 21) (a0 : List Int) := kn 1 (by kernel_rfl) (by show _ < 10; decide)
    obtain ⟨ky, kz, g0⟩ : ∃ v, _ = v ∧ V _ v _ := ⟨_, rfl, kx⟩
    exact L_store ty38 kv kz g0 (ku) (fun g1 g2 g3 => L_nil (kq undef _ _ g2 (fun k h => ⟨7, (List.mem_singleton.2 rfl : (7 : Nat) ∈ [7]), (by show ownP (kk 5) k; rw [kv]; exact congrArg (fun z => Value.pointer (some ⟨z, 0, none⟩)) h.symm)⟩) ⟨_, kv, kt, g3⟩ (fun k h => Or.inl ⟨7, (List.mem_singleton.2 rfl : (7 : Nat) ∈ [7]), h⟩)))
   ·intro kk kl km kn ko kp Q kq
    obtain ⟨kr, ks, kt, ku⟩ : ∃ b, kk 4 = Value.pointer (some ⟨b, 0, none⟩) ∧ 0 ≤ b ∧ Var kl b 40 (a4 : Loss) := kn 8 (by kernel_rfl) (by show _ < 10; decide)
    have kv : kk 4 = Value.pointer (some ⟨bc3, 0, none⟩) := (ko 4 (by kernel_rfl)).trans kc
    have kw : kr = bc3 := by have jq := ks.symm.trans kv; cases jq; rfl
    rw [kw] at kt ku
    have kx : V _ (kk 22) (jc : Loss) := kn 2 (by kernel_rfl) (by show _ < 10; decide)
    obtain ⟨ky, kz, g0⟩ : ∃ v, _ = v ∧ V _ v _ := ⟨_, rfl, kx⟩
    exact L_store ty40 kv kz g0 (ku) (fun g1 g2 g3 => L_nil (kq undef _ _ g2 (fun k h => ⟨8, (List.mem_singleton.2 rfl : (8 : Nat) ∈ [8]), (by show ownP (kk 4) k; rw [kv]; exact congrArg (fun z => Value.pointer (some ⟨z, 0, none⟩)) h.symm)⟩) ⟨_, kv, kt, g3⟩ (fun k h => Or.inl ⟨8, (List.mem_singleton.2 rfl : (8 : Nat) ∈ [8]), h⟩)))
   ·intro kk kl km kn ko kp kq
    have kr := Tch.trans k6 km (fun k h => (fun h => h.elim (fun j1 => Or.inl ((fun h => (Or.inr (Or.inl h))) (own_ptr (kb : _ = Value.pointer (some ⟨bc2, 0, none⟩)) j1))) (fun h => h.elim (fun j1 => Or.inl ((fun h => (Or.inr (Or.inr (Or.inr h)))) (own_ptr (kd : _ = Value.pointer (some ⟨bc4, 0, none⟩)) j1))) (fun h => h.elim (fun j1 => Or.inl ((fun h => (Or.inr (Or.inr (Or.inl h)))) (own_ptr (kc : _ = Value.pointer (some ⟨bc3, 0, none⟩)) j1))) (fun j1 => Or.inl ((fun h => (Or.inl h)) (own_ptr (ka : _ = Value.pointer (some ⟨bc1, 0, none⟩)) j1)))))) (ent_is4 (k := 6) rfl rfl h))
    obtain ⟨ks, kt, ku, kv⟩ : ∃ b, kk 3 = Value.pointer (some ⟨b, 0, none⟩) ∧ 0 ≤ b ∧ Var kl b 3 (a2 : Int) := kn 3 (by show _ < 10; decide) (by kernel_rfl)
    have kw : kk 3 = Value.pointer (some ⟨bc2, 0, none⟩) := (kq 3 (by kernel_rfl)).trans kb
    have kx : ks = bc2 := by have jq := kt.symm.trans kw; cases jq; rfl
    rw [kx] at ku kv
    obtain ⟨ky, kz, g0, g1⟩ : ∃ b, kk 5 = Value.pointer (some ⟨b, 0, none⟩) ∧ 0 ≤ b ∧ Var kl b 38 (a0 : List Int) := kn 4 (by show _ < 10; decide) (by kernel_rfl)
    have g2 : kk 5 = Value.pointer (some ⟨bc4, 0, none⟩) := (kq 5 (by kernel_rfl)).trans kd
    have g3 : ky = bc4 := by have jq := kz.symm.trans g2; cases jq; rfl
    rw [g3] at g0 g1
    obtain ⟨g4, g5, g6, g7⟩ : ∃ b, kk 4 = Value.pointer (some ⟨b, 0, none⟩) ∧ 0 ≤ b ∧ Var kl b 40 (jc : Loss) := kn 5 (by show _ < 10; decide) (by kernel_rfl)
    have g8 : kk 4 = Value.pointer (some ⟨bc3, 0, none⟩) := (kq 4 (by kernel_rfl)).trans kc
    have g9 : g4 = bc3 := by have jq := g5.symm.trans g8; cases jq; rfl
    rw [g9] at g6 g7
    obtain ⟨ga, gb, gc, gd⟩ : ∃ b, kk 2 = Value.pointer (some ⟨b, 0, none⟩) ∧ 0 ≤ b ∧ Var kl b 3 (a2 : Int) := kn 9 (by show _ < 10; decide) (by kernel_rfl)
    have gg : kk 2 = Value.pointer (some ⟨bc1, 0, none⟩) := (kq 2 (by kernel_rfl)).trans ka
    have gh : ga = bc1 := by have jq := gb.symm.trans gg; cases jq; rfl
    rw [gh] at gc gd
    obtain rfl := Option.some.inj hr
    exact done0 (Or.inr rfl) Tryz.results70 ⟨_, _, rfl, rfl, kr, kv, g7, g1, gd⟩
  ·have hr := ite_f kj hr; refine W_skip ?_; obtain rfl := Option.some.inj hr; exact done0 (Or.inr rfl) Tryz.results70 ⟨_, _, rfl, rfl, k6, kg, kh, ki, kf⟩

theorem check_Best_ok (N : Nat) (s0 : St) (w0 : Value) (a0 : List Level) (h0 : V s0 w0 a0) (a1 : Int) (a2 : Int) (r : Int × (List Int) × Int) (hr : check_Best N a0 a1 a2 = some r) :
    Calls Tryz.prog 24 #[w0, .int .i64 a1, .int .i64 a2] s0.w (Ret s0 fun v s => ∃ a b c, v = .tuple #[a, b, c] ∧ V s a r.1 ∧ V s b r.2.1 ∧ V s c r.2.2) := by
 unfold check_Best at hr
 have j0 := Ext.refl s0
 refine Calls_of (n := 48) (args := [w0, .int .i64 a1, .int .i64 a2]) Tryz.func24 rfl rfl (by simp) (sr (L_box (rv w0) h0 (by decide) (fun j1 j2 j3 j4 => ?_)))
 have j5 := Tch.ext j0 j3
 refine asg (rv (vi 0)) (asg (rv (Value.slice none 0 0)) (asg (rv (vi 0)) (nn (W_seq (sr (ld ty43 (rv j2) j4 (fun j6 j7 => ?_)))))))
 obtain ⟨j8, j9, hr⟩ := bind_some hr
 refine L_calls cal63 (args1 (rv j6)) (check_levelled_ok N _ _ _ j7 j8 j9) (by decide) (fun ja jb jc jd => ?_)
 have je := Tch.ext j5 jc
 obtain rfl := jd.int
 refine asg (rv (vi j8)) (nn (sr (mv (rv (vi j8)) (ne (rv (vi j8)) (rv (vi 0)) (nn ?_)))))
 refine W_cond _ (rv (vb (!decide (j8 = 0)))) (fun jf => ?_) (fun jf => ?_)
 ·have hr := ite_t jf hr; refine sr (mv (rv (vi j8)) (asg (rv (vi 0)) (asg (rv (Value.slice none 0 0)) (asg (rv (vi j8)) (nn (W_ret (then_r ?_))))))); obtain rfl := Option.some.inj hr; exact done3 (Or.inl rfl) Tryz.results24 rfl rfl rfl ⟨_, _, rfl, rfl, je, _, _, _, rfl, Vint, Vnil, Vint⟩
 ·have hr := ite_f jf hr
  refine W_skip (then_n (W_seq ?_))
  obtain ⟨jg, jh, ji⟩ := bind_some hr
  refine W_seq_cut (fun f w => ∃ (s : St) (jj : Bool), s.w = w ∧ Ext s0 s ∧ Le jb s ∧ jj = jg ∧ f 32 = vb jj ∧ f 1 = vi (a1) ∧ f 2 = vi (a2) ∧ f 3 = j2) ?_ ?_
  ·have hr := jh
   refine W_region (mv (rv (vi a1)) (ls (rv (vi a1)) (rv (vi 1)) (mv (rv (vb (decide (a1 < 1)))) ?_)))
   rcases tf (decide (a1 < 1)) with jk | jk
   ·have hr := ite_t jk hr; exact gf 21 (rv (vb (decide (a1 < 1)))) jk (gf 21 (rv (vb (decide (a1 < 1)))) jk (pt (rv (vb (decide (a1 < 1)))) jk (rv (vb true)) (mv (rv (vb true)) (gf 25 (rv (vb true)) rfl (gf 25 (rv (vb true)) rfl (pt (rv (vb true)) rfl (rv (vb true)) (mv (rv (vb true)) (gf 29 (rv (vb true)) rfl (gf 29 (rv (vb true)) rfl (pt (rv (vb true)) rfl (rv (vb true)) (nn ⟨jb, true, rfl, je, (Le.refl _), Option.some.inj hr, rfl, rfl, rfl, rfl⟩)))))))))))
   ·have hr := ite_f jk hr
    refine gt 21 (rv (vb (decide (a1 < 1)))) jk (mv (rv (vi a1)) (gt 21 (rv (vb (decide (a1 < 1)))) jk (L_gtr (rv (vi a1)) (rv (vi 4096)) (by decide) (pf (rv (vb (decide (a1 < 1)))) jk (rv (vb (decide (4096 < a1)))) (mv (rv (vb (decide (4096 < a1)))) ?_)))))
    rcases tf (decide (4096 < a1)) with jl | jl
    ·have hr := ite_t jl hr; exact gf 25 (rv (vb (decide (4096 < a1)))) jl (gf 25 (rv (vb (decide (4096 < a1)))) jl (pt (rv (vb (decide (4096 < a1)))) jl (rv (vb true)) (mv (rv (vb true)) (gf 29 (rv (vb true)) rfl (gf 29 (rv (vb true)) rfl (pt (rv (vb true)) rfl (rv (vb true)) (nn ⟨jb, true, rfl, je, (Le.refl _), Option.some.inj hr, rfl, rfl, rfl, rfl⟩)))))))
    ·have hr := ite_f jl hr
     refine gt 25 (rv (vb (decide (4096 < a1)))) jl (mv (rv (vi a2)) (gt 25 (rv (vb (decide (4096 < a1)))) jl (ls (rv (vi a2)) (rv (vi 1)) (pf (rv (vb (decide (4096 < a1)))) jl (rv (vb (decide (a2 < 1)))) (mv (rv (vb (decide (a2 < 1)))) ?_)))))
     rcases tf (decide (a2 < 1)) with jm | jm
     ·have hr := ite_t jm hr; exact gf 29 (rv (vb (decide (a2 < 1)))) jm (gf 29 (rv (vb (decide (a2 < 1)))) jm (pt (rv (vb (decide (a2 < 1)))) jm (rv (vb true)) (nn ⟨jb, true, rfl, je, (Le.refl _), Option.some.inj hr, rfl, rfl, rfl, rfl⟩)))
     ·have hr := ite_f jm hr; exact gt 29 (rv (vb (decide (a2 < 1)))) jm (mv (rv (vi a2)) (gt 29 (rv (vb (decide (a2 < 1)))) jm (L_gtr (rv (vi a2)) (rv (vi 8)) (by decide) (pf (rv (vb (decide (a2 < 1)))) jm (rv (vb (decide (8 < a2)))) (nn ⟨jb, (decide (8 < a2)), rfl, je, (Le.refl _), Option.some.inj hr, rfl, rfl, rfl, rfl⟩)))))
  ·rintro jk jl ⟨jm, jj, rfl, jn, jo, jh, jp, jq, jr, js⟩
   subst jh
   have hr := ji
   try dsimp only at hr
   refine W_cond _ jp (fun jt => ?_) (fun jt => ?_)
   ·have hr := ite_t jt hr; refine sr (asg (rv (vi 0)) (asg (rv (Value.slice none 0 0)) (asg (rv (vi 3)) (nn (W_ret (then_r ?_)))))); obtain rfl := Option.some.inj hr; exact done3 (Or.inl rfl) Tryz.results24 rfl rfl rfl ⟨_, _, rfl, rfl, jn, _, _, _, rfl, Vint, Vnil, Vint⟩
   ·have hr := ite_f jt hr
    refine W_skip (then_n (sr (L_buildSlice (xs := ([] : List Int)) Tryz.underlying38 tyz3 Parts_nil Vs.nil rfl (by decide) (by decide) (fun ju jv jw jx jy => ?_))))
    have jz := Tch.ext jn jw
    refine L_alloc (α := Int) (x := 0) zero3 (fun _ => rfl) (by decide) (fun k0 k1 k2 k3 k4 => ?_)
    have k5 := Tch.ext jz k2
    refine L_alloc (α := List Int) (x := []) zero38 (fun _ => ⟨none, 0, rfl, Nat.le_refl _, fun h => (h rfl).elim⟩) (by decide) (fun k6 k7 k8 k9 ka => ?_)
    have kb := Tch.ext k5 k8
    have kc : ∀ k, (fun k => k = k1) k → ¬ (fun k => k = k7) k := fun k kd ke => by have kf := (fun k (hk : k = k1) => lt_at hk (k4).lt) k kd; have kg := k9; subst ke; omega
    refine L_store ty3 (rv (Value.pointer (some ⟨k1, 0, none⟩))) (rv (vi 0)) Vint ((k4).ext k8) (fun kh ki kj => ?_)
    have kk := Tch.trans kb ki (fun k hk => Or.inr (by subst hk; exact (Nat.le_trans jz.size k3)))
    refine L_store ty38 (rv (Value.pointer (some ⟨k7, 0, none⟩))) (rv jv) (jy.mono (k2.le.trans (k8.le.trans ki.le))) ((ka).tch ki ((fun k hk hm => kc k hm hk) k7 rfl)) (fun kl km kn => ?_)
    have ko := Tch.trans kk km (fun k hk => Or.inr (by subst hk; exact (Nat.le_trans k5.size k9)))
    refine nn (sr (L_alloc (α := Loss) (x := ⟨0, 0⟩) zero40 Loss.zero_rel (by decide) (fun kp kq kr ks kt => ?_)))
    have ku := Tch.ext ko kr
    have kv : ∀ k, (fun k => k = k1) k → ¬ (fun k => k = kq) k := fun k kd ke => by have kf := (fun k (hk : k = k1) => lt_at hk ((kj).tch km ((fun k hk => kc k hk) k1 rfl)).lt) k kd; have kg := ks; subst ke; omega
    have kw : ∀ k, (fun k => k = k7) k → ¬ (fun k => k = kq) k := fun k kd ke => by have kf := (fun k (hk : k = k7) => lt_at hk (kn).lt) k kd; have kg := ks; subst ke; omega
    refine nn (W_seq (sr (L_alloc (α := Int) (x := 0) zero3 (fun _ => rfl) (by decide) (fun kx ky kz g0 g1 => ?_))))
    have g2 := Tch.ext ku kz
    have g3 : ∀ k, (fun k => k = k1) k → ¬ (fun k => k = ky) k := fun k kd ke => by have kf := (fun k (hk : k = k1) => lt_at hk (((kj).tch km ((fun k hk => kc k hk) k1 rfl)).ext kr).lt) k kd; have kg := g0; subst ke; omega
    have g4 : ∀ k, (fun k => k = k7) k → ¬ (fun k => k = ky) k := fun k kd ke => by have kf := (fun k (hk : k = k7) => lt_at hk ((kn).ext kr).lt) k kd; have kg := g0; subst ke; omega
    have g5 : ∀ k, (fun k => k = kq) k → ¬ (fun k => k = ky) k := fun k kd ke => by have kf := (fun k (hk : k = kq) => lt_at hk (kt).lt) k kd; have kg := g0; subst ke; omega
    refine L_store ty3 (rv (Value.pointer (some ⟨ky, 0, none⟩))) (rv (vi 1)) Vint (g1) (fun g6 g7 g8 => ?_)
    have g9 := Tch.trans g2 g7 (fun k hk => Or.inr (by subst hk; exact (Nat.le_trans ku.size g0)))
    refine nn ?_
    obtain ⟨ga, gb, gc⟩ := bind_some hr
    refine W_cut (fun f w => ∃ (s : St) (gd : Int) (gg : List Int), s.w = w ∧ Ext s0 s ∧ Le g6 s ∧ (gd, gg) = ga ∧ f 10 = Value.pointer (some ⟨k1, 0, none⟩) ∧ f 11 = Value.pointer (some ⟨k7, 0, none⟩) ∧ Var s k1 3 gd ∧ Var s k7 38 gg) ?_ ?_
    ·refine W_block (W_loop (fun m f w => ∃ (s : St) (gh : Nat) (gi : Int) (gj : Int) (gk : List Int) (gl : Loss), s.w = w ∧ Ext s0 s ∧ Le g6 s ∧ check_Best_l1 N a0 a1 a2 m gi gj gk gl = some ga ∧ f 13 = Value.pointer (some ⟨gh, 0, none⟩) ∧ s0.w.heap.size ≤ gh ∧ Var s gh 3 gi ∧ f 1 = vi (a1) ∧ f 2 = vi (a2) ∧ f 3 = j2 ∧ f 10 = Value.pointer (some ⟨k1, 0, none⟩) ∧ f 11 = Value.pointer (some ⟨k7, 0, none⟩) ∧ f 12 = Value.pointer (some ⟨kq, 0, none⟩) ∧ Var s k1 3 gj ∧ Var s k7 38 gk ∧ Var s kq 40 gl ∧ (∀ k, (fun k => k = gh) k → ¬ (fun k => k = k1) k) ∧ (∀ k, (fun k => k = gh) k → ¬ (fun k => k = k7) k) ∧ (∀ k, (fun k => k = gh) k → ¬ (fun k => k = kq) k)) N ⟨g6, ky, 1, 0, ([] : List Int), (⟨0, 0⟩ : Loss), rfl, g9, (Le.refl _), gb, rfl, (Nat.le_trans ku.size g0), g8, jq, jr, js, rfl, rfl, rfl, ((((kj).tch km ((fun k hk => kc k hk) k1 rfl)).ext kr).ext kz).tch g7 ((fun k hk => g3 k hk) k1 rfl), (((kn).ext kr).ext kz).tch g7 ((fun k hk => g4 k hk) k7 rfl), ((kt).ext kz).tch g7 ((fun k hk => g5 k hk) kq rfl), (fun k hk hm => g3 k hm hk), (fun k hk hm => g4 k hm hk), (fun k hk hm => g5 k hm hk)⟩ ?_)
     rintro gm gn go ⟨gp, gh, gi, gj, gk, gl, rfl, gq, gr, hr, gs, gu, gv, gw, gx, gy, gz, u0, u1, u2, u3, u4, u5, u6, u7⟩
     cases gm with
     | zero => exact absurd hr (by simp [check_Best_l1])
     | succ gm =>
      rw [check_Best_l1.eq_2] at hr
      refine W_seq (sr (L_load_var ty3 gs (gv) (by decide) (fun u9 ua => ?_)))
      obtain rfl := ua.int
      refine mv gw (L_leq (rv (vi gi)) (rv (vi a1)) (by decide) (nn ?_))
      refine W_cond _ (rv (vb (decide (gi ≤ a1)))) (fun ub => ?_) (fun ub => ?_)
      ·have hr := ite_t ub hr
       refine W_skip (then_n ?_)
       obtain ⟨uc, ud, ue⟩ := bind_some hr
       refine W_seq_cut (fun f w => ∃ (s : St) (uf : Int) (ug : List Int) (uh : Loss), s.w = w ∧ Ext s0 s ∧ Le gp s ∧ (uf, ug, uh) = uc ∧ f 1 = vi (a1) ∧ f 2 = vi (a2) ∧ f 3 = j2 ∧ f 10 = Value.pointer (some ⟨k1, 0, none⟩) ∧ f 11 = Value.pointer (some ⟨k7, 0, none⟩) ∧ f 12 = Value.pointer (some ⟨kq, 0, none⟩) ∧ f 13 = Value.pointer (some ⟨gh, 0, none⟩) ∧ Var s k1 3 uf ∧ Var s k7 38 ug ∧ Var s kq 40 uh ∧ Var s gh 3 gi) ?_ ?_
       ·have hr := ud; refine W_block (W_region (ld ty43 gy (j4.mono (jc.le.trans (jo.trans (jw.le.trans (k2.le.trans (k8.le.trans (ki.le.trans (km.le.trans (kr.le.trans (kz.le.trans (g7.le.trans gr))))))))))) (fun ui uj => ln Tryz.underlying43 (rv ui) uj ?_))); obtain ⟨uk, hr⟩ := chk_some hr; refine L_sub (rv (vi ((a0.length : Int)))) (rv (vi 1)) uk (by decide) (mv gx (L_makeFunc (args5 gy gs gz u1 u0) (by decide) ?_)); obtain ⟨ul, um, hr⟩ := bind_some hr; have un : FnE Tryz.prog gp (Value.func (.func 70) #[] #[j2, Value.pointer (some ⟨gh, 0, none⟩), Value.pointer (some ⟨k1, 0, none⟩), Value.pointer (some ⟨kq, 0, none⟩), Value.pointer (some ⟨k7, 0, none⟩)]) (Eff.vars4 gh 3 gi k1 3 kq 40 k7 38 : Eff (Int × Loss × (List Int))) (fun x q => check_Best_1 N x a0 gi q.1 q.2.1 q.2.2) := ⟨70, _, rfl, cal70, fun s vx x q r l hv hi hr => check_Best_1_ok N s vx x hv _ _ ((j4.mono (jc.le.trans (jo.trans (jw.le.trans (k2.le.trans (k8.le.trans (ki.le.trans (km.le.trans (kr.le.trans (kz.le.trans (g7.le.trans gr))))))))))).mono l) gh gi hi.2.2.2 k1 q.1 hi.1 (fun e => u5 _ rfl e) kq q.2.1 hi.2.1 (fun e => u7 _ rfl e) (fun e => (fun k hk => kv k hk) _ rfl e) k7 q.2.2 hi.2.2.1 (fun e => u6 _ rfl e) (fun e => (fun k hk => kc k hk) _ rfl e) (fun e => (fun k hk hm => kw k hm hk) _ rfl e) r hr⟩; refine L_calls_mut cal69 (args3 (rv (vi ((a0.length : Int) - 1))) (rv (vi a2)) (rv (Value.func (.func 70) #[] #[j2, Value.pointer (some ⟨gh, 0, none⟩), Value.pointer (some ⟨k1, 0, none⟩), Value.pointer (some ⟨kq, 0, none⟩), Value.pointer (some ⟨k7, 0, none⟩)]))) (check_numbers_ok N _ ((a0.length : Int) - 1) a2 (Eff.vars4 gh 3 gi k1 3 kq 40 k7 38 : Eff (Int × Loss × (List Int))) _ (fun x q => check_Best_1 N x a0 gi q.1 q.2.1 q.2.2) un (gj, gl, gk) ⟨u2, u4, u3, gv⟩ ul um) (by decide) (fun uo up uq ur => ?_); obtain ⟨us, ut, uu, uv⟩ := ur; have uw := Tch.trans gq uq (fun k hk => Or.inr (hk.elim (fun (h : k = gh) => by rw [h]; exact gu) (fun hk => (hk.elim (fun (h : k = k1) => by rw [h]; exact (Nat.le_trans jz.size k3)) (fun hk => (hk.elim (fun (h : k = kq) => by rw [h]; exact (Nat.le_trans ko.size ks)) (fun hk => ((fun (h : k = k7) => by rw [h]; exact (Nat.le_trans k5.size k9)) hk)))))))); refine L_nil (block_n ?_); exact then_n ⟨up, ul.1, ul.2.2, ul.2.1, rfl, uw, uq.le, Option.some.inj hr, gw, gx, gy, gz, u0, u1, gs, us, uu, ut, uv⟩
       ·rintro ui uj ⟨uk, uf, ug, uh, rfl, ul, um, ud, un, uo, up, uq, ur, us, ut, uu, uv, uw, ux⟩
        subst ud
        have hr := ue
        try dsimp only at hr
        refine W_seq (sr (L_load_var ty3 ut (ux) (by decide) (fun uy uz => ?_)))
        obtain rfl := uz.int
        refine nn (W_region (L_alloc (α := Int) (x := 0) zero3 (fun _ => rfl) (by decide) (fun t0 t1 t2 t3 t4 => ?_)))
        have t5 := Tch.ext ul t2
        have t6 : ∀ k, (fun k => k = k1) k → ¬ (fun k => k = t1) k := fun k kd ke => by have kf := (fun k (hk : k = k1) => lt_at hk (uu).lt) k kd; have kg := t3; subst ke; omega
        have t7 : ∀ k, (fun k => k = k7) k → ¬ (fun k => k = t1) k := fun k kd ke => by have kf := (fun k (hk : k = k7) => lt_at hk (uv).lt) k kd; have kg := t3; subst ke; omega
        have t8 : ∀ k, (fun k => k = kq) k → ¬ (fun k => k = t1) k := fun k kd ke => by have kf := (fun k (hk : k = kq) => lt_at hk (uw).lt) k kd; have kg := t3; subst ke; omega
        refine L_store ty3 (rv (Value.pointer (some ⟨t1, 0, none⟩))) (rv (vi gi)) Vint (t4) (fun t9 ta tb => ?_)
        have tc := Tch.trans t5 ta (fun k hk => Or.inr (by subst hk; exact (Nat.le_trans ul.size t3)))
        refine nn (W_region (L_load_var ty3 (rv (Value.pointer (some ⟨t1, 0, none⟩))) (tb) (by decide) (fun td te => ?_)))
        obtain rfl := te.int
        obtain ⟨tg, hr⟩ := chk_some hr
        refine ad (rv (vi gi)) (rv (vi 1)) tg (L_store ty3 (rv (Value.pointer (some ⟨t1, 0, none⟩))) (rv (vi (gi + 1))) Vint (tb) (fun th ti tj => ?_))
        have tk := Tch.trans tc ti (fun k hk => Or.inr (by subst hk; exact (Nat.le_trans ul.size t3)))
        exact nn ⟨gm, Nat.lt_succ_self _, ⟨th, t1, (gi + 1), uf, ug, uh, rfl, tk, (gr.trans (um.trans (t2.le.trans (ta.le.trans ti.le)))), hr, rfl, (Nat.le_trans ul.size t3), tj, un, uo, up, uq, ur, us, (((uu).ext t2).tch ta ((fun k hk => t6 k hk) k1 rfl)).tch ti ((fun k hk => t6 k hk) k1 rfl), (((uv).ext t2).tch ta ((fun k hk => t7 k hk) k7 rfl)).tch ti ((fun k hk => t7 k hk) k7 rfl), (((uw).ext t2).tch ta ((fun k hk => t8 k hk) kq rfl)).tch ti ((fun k hk => t8 k hk) kq rfl), (fun k hk hm => t6 k hm hk), (fun k hk hm => t7 k hm hk), (fun k hk hm => t8 k hm hk)⟩⟩
      ·have hr := ite_f ub hr; refine W_exit (then_x (then_x (block_here ?_))); exact then_n ⟨gp, gj, gk, rfl, gq, gr, Option.some.inj hr, gz, u0, u2, u3⟩
    ·rintro gh gi ⟨gj, gd, gg, rfl, gk, gl, gb, gm, gn, go, gp⟩
     subst gb
     have hr := gc
     try dsimp only at hr
     refine then_n (W_seq ?_)
     refine W_draws mixed (by kernel_rfl) [PV.eq (vi gd), PV.data (gg : List Int), PV.eq (vi gd), PV.data (gg : List Int), PV.eq (vi 0)] (Steps_cons ?_ (Steps_cons ?_ (Steps_cons ?_ (Steps_cons ?_ (Steps_cons ?_ Steps_nil))))) ?_
     ·intro gq gr gs gu gv Q gw; have gx : gq 10 = Value.pointer (some ⟨k1, 0, none⟩) := (gv 10 (by kernel_rfl)).trans gm; refine L_load_var ty3 gx ((go).ext gs) (by decide) (fun gy gz => ?_); obtain rfl := gz.int; exact fin gw rfl
     ·intro gq gr gs gu gv Q gw; have gx : gq 11 = Value.pointer (some ⟨k7, 0, none⟩) := (gv 11 (by kernel_rfl)).trans gn; exact L_load_var ty38 gx ((gp).ext gs) (by decide) (fun gy gz => fin gw gz)
     ·intro gq gr gs gu gv Q gw; have gx : gq 46 = vi (gd) := gu 0 46 (by kernel_rfl) (by kernel_rfl); exact asg gx (fin gw rfl)
     ·intro gq gr gs gu gv Q gw; have gx : V _ (gq 47) (gg : List Int) := gu 1 47 (by kernel_rfl) (by kernel_rfl); obtain ⟨gy, gz, u0⟩ : ∃ v, _ = v ∧ V _ v _ := ⟨_, rfl, gx⟩; exact asg gz (fin gw u0)
     ·intro gq gr gs gu gv Q gw; exact asg (rv (vi 0)) (fin gw rfl)
     ·intro gq gr gs gu gv; have gw := Tch.ext gk gs; have gx : gq 6 = vi (gd) := gu 2 6 (by kernel_rfl); have gy : V _ (gq 7) (gg : List Int) := gu 3 7 (by kernel_rfl); obtain ⟨gz, u0, u1⟩ : ∃ v, _ = v ∧ V _ v _ := ⟨_, rfl, gy⟩; have u2 : gq 8 = vi (0) := gu 4 8 (by kernel_rfl); refine then_n (W_ret ?_); obtain rfl := Option.some.inj hr; exact done3 (Or.inl rfl) Tryz.results24 gx u0 u2 ⟨_, _, rfl, rfl, gw, _, _, _, rfl, Vint, u1, Vint⟩

theorem ref14_Less_ok (N : Nat) (s0 : St) (w0 : Value) (a0 : Loss) (h0 : V s0 w0 a0) (w1 : Value) (a1 : Loss) (h1 : V s0 w1 a1) (r : Bool) (hr : ref14_Less N a0 a1 = some r) :
    Calls Tryz.prog 72 #[w0, w1] s0.w (Ret s0 fun v s => V s v r) := by
 cases N with
 | zero => cases hr
 | succ N =>
 rw [ref14_Less.eq_2] at hr
 have j0 := Ext.refl s0
 refine Calls_of (n := 56) (args := [w0, w1]) Tryz.func72 rfl rfl (by simp) (sr (L_box (rv w0) h0 (by decide) (fun j1 j2 j3 j4 => ?_)))
 have j5 := Tch.ext j0 j3
 refine L_box (rv w1) (h1.mono j3.le) (by decide) (fun j6 j7 j8 j9 => ?_)
 have ja := Tch.ext j5 j8
 refine asg (rv (vb false)) (nn (W_seq ?_))
 obtain ⟨jb, hr⟩ := chk_some hr
 obtain ⟨jc, hr⟩ := chk_some hr
 refine W_draws mixed (by kernel_rfl) [PV.ptr (a0.Num : Int), PV.eq (vi (a0.Num)), PV.ptr (a0.Den : Int), PV.eq (vi (a0.Den)), PV.eq (vi (Int.tdiv a0.Num a0.Den)), PV.ptr (a1.Num : Int), PV.eq (vi (a1.Num)), PV.ptr (a1.Den : Int), PV.eq (vi (a1.Den)), PV.eq (vi (Int.tdiv a1.Num a1.Den)), PV.eq (vi (Int.tdiv a0.Num a0.Den)), PV.eq (vi (Int.tdiv a1.Num a1.Den))] (Steps_cons ?_ (Steps_cons ?_ (Steps_cons ?_ (Steps_cons ?_ (Steps_cons ?_ (Steps_cons ?_ (Steps_cons ?_ (Steps_cons ?_ (Steps_cons ?_ (Steps_cons ?_ (Steps_cons ?_ (Steps_cons ?_ Steps_nil)))))))))))) ?_
 ·intro jd je jf jg jh Q ji; have jj : jd 2 = j2 := (jh 2 (by kernel_rfl)).trans rfl; exact fa fld45_0 Loss.of_Num jj (j4.mono (j8.le.trans jf.le)) (fun jk jl => fin ji jl)
 ·intro jd je jf jg jh Q ji; have jj : Ptr _ (jd 9) (a0.Num : Int) := jg 0 9 (by kernel_rfl) (by kernel_rfl); obtain ⟨jk, jl, jm⟩ : ∃ v, _ = v ∧ Ptr _ v _ := ⟨_, rfl, jj⟩; exact li ty3 jl jm (fin ji rfl)
 ·intro jd je jf jg jh Q ji; have jj : jd 2 = j2 := (jh 2 (by kernel_rfl)).trans rfl; exact fa fld45_1 Loss.of_Den jj (j4.mono (j8.le.trans jf.le)) (fun jk jl => fin ji jl)
 ·intro jd je jf jg jh Q ji; have jj : Ptr _ (jd 11) (a0.Den : Int) := jg 2 11 (by kernel_rfl) (by kernel_rfl); obtain ⟨jk, jl, jm⟩ : ∃ v, _ = v ∧ Ptr _ v _ := ⟨_, rfl, jj⟩; exact li ty3 jl jm (fin ji rfl)
 ·intro jd je jf jg jh Q ji; have jj : jd 10 = vi (a0.Num) := jg 1 10 (by kernel_rfl) (by kernel_rfl); have jk : jd 12 = vi (a0.Den) := jg 3 12 (by kernel_rfl) (by kernel_rfl); exact L_quo jj jk jb.1 jb.2 (by decide) (fin ji rfl)
 ·intro jd je jf jg jh Q ji; have jj : jd 3 = j7 := (jh 3 (by kernel_rfl)).trans rfl; exact fa fld45_0 Loss.of_Num jj (j9.mono jf.le) (fun jk jl => fin ji jl)
 ·intro jd je jf jg jh Q ji; have jj : Ptr _ (jd 14) (a1.Num : Int) := jg 5 14 (by kernel_rfl) (by kernel_rfl); obtain ⟨jk, jl, jm⟩ : ∃ v, _ = v ∧ Ptr _ v _ := ⟨_, rfl, jj⟩; exact li ty3 jl jm (fin ji rfl)
 ·intro jd je jf jg jh Q ji; have jj : jd 3 = j7 := (jh 3 (by kernel_rfl)).trans rfl; exact fa fld45_1 Loss.of_Den jj (j9.mono jf.le) (fun jk jl => fin ji jl)
 ·intro jd je jf jg jh Q ji; have jj : Ptr _ (jd 16) (a1.Den : Int) := jg 7 16 (by kernel_rfl) (by kernel_rfl); obtain ⟨jk, jl, jm⟩ : ∃ v, _ = v ∧ Ptr _ v _ := ⟨_, rfl, jj⟩; exact li ty3 jl jm (fin ji rfl)
 ·intro jd je jf jg jh Q ji; have jj : jd 15 = vi (a1.Num) := jg 6 15 (by kernel_rfl) (by kernel_rfl); have jk : jd 17 = vi (a1.Den) := jg 8 17 (by kernel_rfl) (by kernel_rfl); exact L_quo jj jk jc.1 jc.2 (by decide) (fin ji rfl)
 ·intro jd je jf jg jh Q ji; have jj : jd 13 = vi (Int.tdiv a0.Num a0.Den) := jg 4 13 (by kernel_rfl) (by kernel_rfl); exact asg jj (fin ji rfl)
 ·intro jd je jf jg jh Q ji; have jj : jd 18 = vi (Int.tdiv a1.Num a1.Den) := jg 9 18 (by kernel_rfl) (by kernel_rfl); exact asg jj (fin ji rfl)
 ·intro jd je jf jg jh
  have ji := Tch.ext ja jf
  have jj : jd 2 = j2 := (jh 2 (by kernel_rfl)).trans rfl
  have jk : jd 3 = j7 := (jh 3 (by kernel_rfl)).trans rfl
  have jl : jd 5 = vi (Int.tdiv a0.Num a0.Den) := jg 10 5 (by kernel_rfl)
  have jm : jd 6 = vi (Int.tdiv a1.Num a1.Den) := jg 11 6 (by kernel_rfl)
  refine then_n (W_seq (sr (mv jl (mv jm (ne (rv (vi (Int.tdiv a0.Num a0.Den))) (rv (vi (Int.tdiv a1.Num a1.Den))) (nn ?_))))))
  refine W_cond _ (rv (vb (!decide ((Int.tdiv a0.Num a0.Den) = (Int.tdiv a1.Num a1.Den))))) (fun jn => ?_) (fun jn => ?_)
  ·have hr := ite_t jn hr; refine sr (mv jl (mv jm (ls (rv (vi (Int.tdiv a0.Num a0.Den))) (rv (vi (Int.tdiv a1.Num a1.Den))) (asg (rv (vb (decide ((Int.tdiv a0.Num a0.Den) < (Int.tdiv a1.Num a1.Den))))) (nn (W_ret (then_r ?_))))))); obtain rfl := Option.some.inj hr; exact done1 (Or.inl rfl) Tryz.results72 rfl ⟨_, _, rfl, rfl, ji, Vbool⟩
  ·have hr := ite_f jn hr
   refine W_skip (then_n (W_seq ?_))
   obtain ⟨jo, hr⟩ := chk_some hr
   obtain ⟨jp, hr⟩ := chk_some hr
   refine W_draws mixed (by kernel_rfl) [PV.ptr (a0.Num : Int), PV.eq (vi (a0.Num)), PV.ptr (a0.Den : Int), PV.eq (vi (a0.Den)), PV.eq (vi (Int.tmod a0.Num a0.Den)), PV.ptr (a1.Num : Int), PV.eq (vi (a1.Num)), PV.ptr (a1.Den : Int), PV.eq (vi (a1.Den)), PV.eq (vi (Int.tmod a1.Num a1.Den)), PV.eq (vi (Int.tmod a0.Num a0.Den)), PV.eq (vi (Int.tmod a1.Num a1.Den))] (Steps_cons ?_ (Steps_cons ?_ (Steps_cons ?_ (Steps_cons ?_ (Steps_cons ?_ (Steps_cons ?_ (Steps_cons ?_ (Steps_cons ?_ (Steps_cons ?_ (Steps_cons ?_ (Steps_cons ?_ (Steps_cons ?_ Steps_nil)))))))))))) ?_
   ·intro jq jr js jt ju Q jv; have jw : jq 2 = j2 := (ju 2 (by kernel_rfl)).trans jj; exact fa fld45_0 Loss.of_Num jw (j4.mono (j8.le.trans (jf.le.trans js.le))) (fun jx jy => fin jv jy)
   ·intro jq jr js jt ju Q jv; have jw : Ptr _ (jq 25) (a0.Num : Int) := jt 0 25 (by kernel_rfl) (by kernel_rfl); obtain ⟨jx, jy, jz⟩ : ∃ v, _ = v ∧ Ptr _ v _ := ⟨_, rfl, jw⟩; exact li ty3 jy jz (fin jv rfl)
   ·intro jq jr js jt ju Q jv; have jw : jq 2 = j2 := (ju 2 (by kernel_rfl)).trans jj; exact fa fld45_1 Loss.of_Den jw (j4.mono (j8.le.trans (jf.le.trans js.le))) (fun jx jy => fin jv jy)
   ·intro jq jr js jt ju Q jv; have jw : Ptr _ (jq 27) (a0.Den : Int) := jt 2 27 (by kernel_rfl) (by kernel_rfl); obtain ⟨jx, jy, jz⟩ : ∃ v, _ = v ∧ Ptr _ v _ := ⟨_, rfl, jw⟩; exact li ty3 jy jz (fin jv rfl)
   ·intro jq jr js jt ju Q jv; have jw : jq 26 = vi (a0.Num) := jt 1 26 (by kernel_rfl) (by kernel_rfl); have jx : jq 28 = vi (a0.Den) := jt 3 28 (by kernel_rfl) (by kernel_rfl); exact L_rem jw jx jo (by decide) (fin jv rfl)
   ·intro jq jr js jt ju Q jv; have jw : jq 3 = j7 := (ju 3 (by kernel_rfl)).trans jk; exact fa fld45_0 Loss.of_Num jw (j9.mono (jf.le.trans js.le)) (fun jx jy => fin jv jy)
   ·intro jq jr js jt ju Q jv; have jw : Ptr _ (jq 30) (a1.Num : Int) := jt 5 30 (by kernel_rfl) (by kernel_rfl); obtain ⟨jx, jy, jz⟩ : ∃ v, _ = v ∧ Ptr _ v _ := ⟨_, rfl, jw⟩; exact li ty3 jy jz (fin jv rfl)
   ·intro jq jr js jt ju Q jv; have jw : jq 3 = j7 := (ju 3 (by kernel_rfl)).trans jk; exact fa fld45_1 Loss.of_Den jw (j9.mono (jf.le.trans js.le)) (fun jx jy => fin jv jy)
   ·intro jq jr js jt ju Q jv; have jw : Ptr _ (jq 32) (a1.Den : Int) := jt 7 32 (by kernel_rfl) (by kernel_rfl); obtain ⟨jx, jy, jz⟩ : ∃ v, _ = v ∧ Ptr _ v _ := ⟨_, rfl, jw⟩; exact li ty3 jy jz (fin jv rfl)
   ·intro jq jr js jt ju Q jv; have jw : jq 31 = vi (a1.Num) := jt 6 31 (by kernel_rfl) (by kernel_rfl); have jx : jq 33 = vi (a1.Den) := jt 8 33 (by kernel_rfl) (by kernel_rfl); exact L_rem jw jx jp (by decide) (fin jv rfl)
   ·intro jq jr js jt ju Q jv; have jw : jq 29 = vi (Int.tmod a0.Num a0.Den) := jt 4 29 (by kernel_rfl) (by kernel_rfl); exact asg jw (fin jv rfl)
   ·intro jq jr js jt ju Q jv; have jw : jq 34 = vi (Int.tmod a1.Num a1.Den) := jt 9 34 (by kernel_rfl) (by kernel_rfl); exact asg jw (fin jv rfl)
   ·intro jq jr js jt ju
    have jv := Tch.ext ji js
    have jw : jq 2 = j2 := (ju 2 (by kernel_rfl)).trans jj
    have jx : jq 3 = j7 := (ju 3 (by kernel_rfl)).trans jk
    have jy : jq 7 = vi (Int.tmod a0.Num a0.Den) := jt 10 7 (by kernel_rfl)
    have jz : jq 8 = vi (Int.tmod a1.Num a1.Den) := jt 11 8 (by kernel_rfl)
    refine then_n (W_seq ?_)
    obtain ⟨k0, k1, k2⟩ := bind_some hr
    refine W_seq_cut (fun f w => ∃ (s : St) (k3 : Bool), s.w = w ∧ Ext s0 s ∧ Le jr s ∧ k3 = k0 ∧ f 40 = vb k3 ∧ f 2 = j2 ∧ f 3 = j7 ∧ f 7 = vi (Int.tmod a0.Num a0.Den) ∧ f 8 = vi (Int.tmod a1.Num a1.Den)) ?_ ?_
    ·have hr := k1
     refine W_region (mv jy (el (rv (vi (Int.tmod a0.Num a0.Den))) (rv (vi 0)) (mv (rv (vb (decide ((Int.tmod a0.Num a0.Den) = 0)))) ?_)))
     rcases tf (decide ((Int.tmod a0.Num a0.Den) = 0)) with k4 | k4
     ·have hr := ite_t k4 hr; exact gf 37 (rv (vb (decide ((Int.tmod a0.Num a0.Den) = 0)))) k4 (gf 37 (rv (vb (decide ((Int.tmod a0.Num a0.Den) = 0)))) k4 (pt (rv (vb (decide ((Int.tmod a0.Num a0.Den) = 0)))) k4 (rv (vb true)) (nn ⟨jr, true, rfl, jv, (Le.refl _), Option.some.inj hr, rfl, jw, jx, jy, jz⟩)))
     ·have hr := ite_f k4 hr; exact gt 37 (rv (vb (decide ((Int.tmod a0.Num a0.Den) = 0)))) k4 (mv jz (gt 37 (rv (vb (decide ((Int.tmod a0.Num a0.Den) = 0)))) k4 (el (rv (vi (Int.tmod a1.Num a1.Den))) (rv (vi 0)) (pf (rv (vb (decide ((Int.tmod a0.Num a0.Den) = 0)))) k4 (rv (vb (decide ((Int.tmod a1.Num a1.Den) = 0)))) (nn ⟨jr, (decide ((Int.tmod a1.Num a1.Den) = 0)), rfl, jv, (Le.refl _), Option.some.inj hr, rfl, jw, jx, jy, jz⟩)))))
    ·rintro k4 k5 ⟨k6, k3, rfl, k7, k8, k1, k9, ka, kb, kc, kd⟩
     subst k1
     have hr := k2
     try dsimp only at hr
     refine W_cond _ k9 (fun ke => ?_) (fun ke => ?_)
     ·have hr := ite_t ke hr
      obtain ⟨kf, kg, kh⟩ := bind_some hr
      refine W_seq_cut (fun f w => ∃ (s : St) (ki : Bool), s.w = w ∧ Ext s0 s ∧ Le k6 s ∧ ki = kf ∧ f 4 = vb ki) ?_ ?_
      ·have hr := kg
       refine W_region (mv kc (el (rv (vi (Int.tmod a0.Num a0.Den))) (rv (vi 0)) (mv (rv (vb (decide ((Int.tmod a0.Num a0.Den) = 0)))) ?_)))
       rcases tf (decide ((Int.tmod a0.Num a0.Den) = 0)) with kj | kj
       ·have hr := ite_t kj hr; exact gt 43 (rv (vb (decide ((Int.tmod a0.Num a0.Den) = 0)))) kj (mv kd (gt 43 (rv (vb (decide ((Int.tmod a0.Num a0.Den) = 0)))) kj (ne (rv (vi (Int.tmod a1.Num a1.Den))) (rv (vi 0)) (pt (rv (vb (decide ((Int.tmod a0.Num a0.Den) = 0)))) kj (rv (vb (!decide ((Int.tmod a1.Num a1.Den) = 0)))) (asg (rv (vb (!decide ((Int.tmod a1.Num a1.Den) = 0)))) (nn ⟨k6, (!decide ((Int.tmod a1.Num a1.Den) = 0)), rfl, k7, (Le.refl _), Option.some.inj hr, rfl⟩))))))
       ·have hr := ite_f kj hr; exact gf 43 (rv (vb (decide ((Int.tmod a0.Num a0.Den) = 0)))) kj (gf 43 (rv (vb (decide ((Int.tmod a0.Num a0.Den) = 0)))) kj (pf (rv (vb (decide ((Int.tmod a0.Num a0.Den) = 0)))) kj (rv (vb false)) (asg (rv (vb false)) (nn ⟨k6, false, rfl, k7, (Le.refl _), Option.some.inj hr, rfl⟩))))
      ·rintro kj kk ⟨kl, ki, rfl, km, kn, kg, ko⟩; subst kg; have hr := kh; (try dsimp only at hr); refine W_ret (then_r ?_); obtain rfl := Option.some.inj hr; exact done1 (Or.inl rfl) Tryz.results72 ko ⟨_, _, rfl, rfl, km, Vbool⟩
     ·have hr := ite_f ke hr; refine W_skip (then_n (sr (fa fld45_1 Loss.of_Den kb (j9.mono (jf.le.trans (js.le.trans k8))) (fun kf kg => li ty3 (rv kf) kg (mv kd (L_bld45_0_1 (s := k6) (rv (vi (a1.Den))) (rv (vi (Int.tmod a1.Num a1.Den))) (Vint : V _ _ (a1.Den : Int)) (Vint : V _ _ (Int.tmod a1.Num a1.Den : Int)) (by decide) (fun kh ki => fa fld45_1 Loss.of_Den ka (j4.mono (j8.le.trans (jf.le.trans (js.le.trans k8)))) (fun kj kk => li ty3 (rv kj) kk (mv kc (L_bld45_0_1 (s := k6) (rv (vi (a0.Den))) (rv (vi (Int.tmod a0.Num a0.Den))) (Vint : V _ _ (a0.Den : Int)) (Vint : V _ _ (Int.tmod a0.Num a0.Den : Int)) (by decide) (fun kl km => ?_))))))))))); obtain ⟨kn, ko, hr⟩ := bind_some hr; refine L_calls cal72 (args2 (rv kh) (rv kl)) (ref14_Less_ok N _ _ _ ki _ _ km kn ko) (by decide) (fun kp kq kr ks => ?_); have kt := Tch.ext k7 kr; obtain rfl := ks.bool; refine asg (rv (vb kn)) (nn (W_ret ?_)); obtain rfl := Option.some.inj hr; exact done1 (Or.inl rfl) Tryz.results72 rfl ⟨_, _, rfl, rfl, kt, Vbool⟩

theorem ref14_Best_ok (N : Nat) (s0 : St) (w0 : Value) (a0 : List Level) (h0 : V s0 w0 a0) (a1 : Int) (a2 : Int) (r : Int × (List Int) × Int) (hr : ref14_Best N a0 a1 a2 = some r) :
    Calls Tryz.prog 25 #[w0, .int .i64 a1, .int .i64 a2] s0.w (Ret s0 fun v s => ∃ a b c, v = .tuple #[a, b, c] ∧ V s a r.1 ∧ V s b r.2.1 ∧ V s c r.2.2) := by
 unfold ref14_Best at hr
 have j0 := Ext.refl s0
 refine Calls_of (n := 100) (args := [w0, .int .i64 a1, .int .i64 a2]) Tryz.func25 rfl rfl (by simp) (sr (asg (rv (vi 0)) (asg (rv (Value.slice none 0 0)) (asg (rv (vi 0)) (nn (sr (mv (rv w0) ?_)))))))
 obtain ⟨j1, j2, hr⟩ := bind_some hr
 refine L_calls cal67 (args1 (rv w0)) (ref14_levels_ok N _ _ _ h0 j1 j2) (by decide) (fun j3 j4 j5 j6 => ?_)
 have j7 := Tch.ext j0 j5
 obtain rfl := j6.int
 refine asg (rv (vi j1)) (nn (W_seq (sr (mv (rv (vi j1)) (ne (rv (vi j1)) (rv (vi 0)) (nn ?_))))))
 refine W_cond _ (rv (vb (!decide (j1 = 0)))) (fun j8 => ?_) (fun j8 => ?_)
 ·have hr := ite_t j8 hr; refine sr (mv (rv (vi j1)) (asg (rv (vi 0)) (asg (rv (Value.slice none 0 0)) (asg (rv (vi j1)) (nn (W_ret (then_r ?_))))))); obtain rfl := Option.some.inj hr; exact done3 (Or.inl rfl) Tryz.results25 rfl rfl rfl ⟨_, _, rfl, rfl, j7, _, _, _, rfl, Vint, Vnil, Vint⟩
 ·have hr := ite_f j8 hr
  refine W_skip (then_n (W_seq ?_))
  obtain ⟨j9, ja, jb⟩ := bind_some hr
  refine W_seq_cut (fun f w => ∃ (s : St) (jc : Bool), s.w = w ∧ Ext s0 s ∧ Le j4 s ∧ jc = j9 ∧ f 36 = vb jc ∧ f 0 = w0 ∧ f 1 = vi (a1) ∧ f 2 = vi (a2)) ?_ ?_
  ·have hr := ja
   refine W_region (mv (rv (vi a1)) (ls (rv (vi a1)) (rv (vi 1)) (mv (rv (vb (decide (a1 < 1)))) ?_)))
   rcases tf (decide (a1 < 1)) with jd | jd
   ·have hr := ite_t jd hr; exact gf 25 (rv (vb (decide (a1 < 1)))) jd (gf 25 (rv (vb (decide (a1 < 1)))) jd (pt (rv (vb (decide (a1 < 1)))) jd (rv (vb true)) (mv (rv (vb true)) (gf 29 (rv (vb true)) rfl (gf 29 (rv (vb true)) rfl (pt (rv (vb true)) rfl (rv (vb true)) (mv (rv (vb true)) (gf 33 (rv (vb true)) rfl (gf 33 (rv (vb true)) rfl (pt (rv (vb true)) rfl (rv (vb true)) (nn ⟨j4, true, rfl, j7, (Le.refl _), Option.some.inj hr, rfl, rfl, rfl, rfl⟩)))))))))))
   ·have hr := ite_f jd hr
    refine gt 25 (rv (vb (decide (a1 < 1)))) jd (mv (rv (vi a1)) (gt 25 (rv (vb (decide (a1 < 1)))) jd (L_gtr (rv (vi a1)) (rv (vi 4096)) (by decide) (pf (rv (vb (decide (a1 < 1)))) jd (rv (vb (decide (4096 < a1)))) (mv (rv (vb (decide (4096 < a1)))) ?_)))))
    rcases tf (decide (4096 < a1)) with je | je
    ·have hr := ite_t je hr; exact gf 29 (rv (vb (decide (4096 < a1)))) je (gf 29 (rv (vb (decide (4096 < a1)))) je (pt (rv (vb (decide (4096 < a1)))) je (rv (vb true)) (mv (rv (vb true)) (gf 33 (rv (vb true)) rfl (gf 33 (rv (vb true)) rfl (pt (rv (vb true)) rfl (rv (vb true)) (nn ⟨j4, true, rfl, j7, (Le.refl _), Option.some.inj hr, rfl, rfl, rfl, rfl⟩)))))))
    ·have hr := ite_f je hr
     refine gt 29 (rv (vb (decide (4096 < a1)))) je (mv (rv (vi a2)) (gt 29 (rv (vb (decide (4096 < a1)))) je (ls (rv (vi a2)) (rv (vi 1)) (pf (rv (vb (decide (4096 < a1)))) je (rv (vb (decide (a2 < 1)))) (mv (rv (vb (decide (a2 < 1)))) ?_)))))
     rcases tf (decide (a2 < 1)) with jf | jf
     ·have hr := ite_t jf hr; exact gf 33 (rv (vb (decide (a2 < 1)))) jf (gf 33 (rv (vb (decide (a2 < 1)))) jf (pt (rv (vb (decide (a2 < 1)))) jf (rv (vb true)) (nn ⟨j4, true, rfl, j7, (Le.refl _), Option.some.inj hr, rfl, rfl, rfl, rfl⟩)))
     ·have hr := ite_f jf hr; exact gt 33 (rv (vb (decide (a2 < 1)))) jf (mv (rv (vi a2)) (gt 33 (rv (vb (decide (a2 < 1)))) jf (L_gtr (rv (vi a2)) (rv (vi 8)) (by decide) (pf (rv (vb (decide (a2 < 1)))) jf (rv (vb (decide (8 < a2)))) (nn ⟨j4, (decide (8 < a2)), rfl, j7, (Le.refl _), Option.some.inj hr, rfl, rfl, rfl, rfl⟩)))))
  ·rintro jd je ⟨jf, jc, rfl, jg, jh, ja, ji, jj, jk, jl⟩
   subst ja
   have hr := jb
   try dsimp only at hr
   refine W_cond _ ji (fun jm => ?_) (fun jm => ?_)
   ·have hr := ite_t jm hr; refine sr (asg (rv (vi 0)) (asg (rv (Value.slice none 0 0)) (asg (rv (vi 3)) (nn (W_ret (then_r ?_)))))); obtain rfl := Option.some.inj hr; exact done3 (Or.inl rfl) Tryz.results25 rfl rfl rfl ⟨_, _, rfl, rfl, jg, _, _, _, rfl, Vint, Vnil, Vint⟩
   ·have hr := ite_f jm hr
    refine W_skip (then_n (sr (L_bld45_ (s := jf)   (by decide) (fun jn jo => L_alloc (α := Loss) (x := ⟨0, 0⟩) zero45 Loss.zero_rel (by decide) (fun jp jq jr js jt => ?_)))))
    have ju := Tch.ext jg jr
    refine asg (rv (vi 0)) (L_store ty45 (rv (Value.pointer (some ⟨jq, 0, none⟩))) (rv jn) (jo.mono jr.le) (jt) (fun jv jw jx => ?_))
    have jy := Tch.trans ju jw (fun k hk => Or.inr (by subst hk; exact (Nat.le_trans jg.size js)))
    refine nn (sr (asg (rv (Value.slice none 0 0)) (nn (W_seq (sr (asg (rv (vi 1)) (nn ?_)))))))
    obtain ⟨jz, k0, k1⟩ := bind_some hr
    refine W_cut (fun f w => ∃ (s : St) (k2 : Int) (k3 : Value) (k4 : List Int), s.w = w ∧ Ext s0 s ∧ Le jv s ∧ (k2, k4) = jz ∧ f 10 = vi k2 ∧ f 12 = k3 ∧ V s k3 k4) ?_ ?_
    ·refine W_block (W_loop (fun m f w => ∃ (s : St) (k5 : Int) (k6 : Value) (k7 : List Int) (k8 : Int) (k9 : Loss), s.w = w ∧ Ext s0 s ∧ Le jv s ∧ ref14_Best_l1 N a0 a1 a2 m k5 k7 k8 k9 = some jz ∧ f 10 = vi k5 ∧ f 12 = k6 ∧ V s k6 k7 ∧ f 13 = vi k8 ∧ f 0 = w0 ∧ f 1 = vi (a1) ∧ f 2 = vi (a2) ∧ f 11 = Value.pointer (some ⟨jq, 0, none⟩) ∧ Var s jq 45 k9) N ⟨jv, 0, (Value.slice none 0 0), ([]), 1, (⟨0, 0⟩ : Loss), rfl, jy, (Le.refl _), k0, rfl, rfl, Vnil, rfl, jj, jk, jl, rfl, jx⟩ ?_)
     rintro ka kb kc ⟨kd, k5, k6, k7, k8, k9, rfl, ke, kf, hr, kg, kh, ki, kj, kk, kl, km, kn, ko⟩
     cases ka with
     | zero => exact absurd hr (by simp [ref14_Best_l1])
     | succ ka =>
      rw [ref14_Best_l1.eq_2] at hr
      refine W_seq (sr (mv kj (mv kl (L_leq (rv (vi k8)) (rv (vi a1)) (by decide) (nn ?_)))))
      refine W_cond _ (rv (vb (decide (k8 ≤ a1)))) (fun kp => ?_) (fun kp => ?_)
      ·have hr := ite_t kp hr
       refine W_skip (then_n (W_seq (W_block (sr (mv kk (ln Tryz.underlying37 (rv w0) (h0.mono (j5.le.trans (jh.trans (jr.le.trans (jw.le.trans kf))))) ?_))))))
       obtain ⟨kq, hr⟩ := chk_some hr
       refine L_sub (rv (vi ((a0.length : Int)))) (rv (vi 1)) kq (by decide) ?_
       obtain ⟨kr, hr⟩ := chk_some hr
       refine L_makeArr (x0 := (0 : Int)) Tryz.underlying38 tyz3 (rv (vi ((a0.length : Int) - 1))) kr.1 kr.2.1 kr.2.2 (fun _ => rfl) (by decide) (fun ks kt ku kv kw => ?_)
       have kx := Tch.ext ke ku
       have ky : ∀ k, (fun k => k = jq) k → ¬ (fun k => k = kt) k := fun k kz g0 => by have g1 := (fun k (hk : k = jq) => lt_at hk (ko).lt) k kz; have g2 := kv; subst g0; omega
       refine asg (rv (Value.slice (some ⟨kt, 0, none⟩) ((a0.length : Int) - 1).toNat ((a0.length : Int) - 1).toNat)) (nn (W_seq (sr (asg (rv (vi 0)) (nn ?_)))))
       obtain ⟨g3, g4, g5⟩ := bind_some hr
       refine W_cut (fun f w => ∃ (s : St) (g6 : List Int), s.w = w ∧ Ext s0 s ∧ Le ks s ∧ g6 = g3 ∧ f 0 = w0 ∧ f 1 = vi (a1) ∧ f 2 = vi (a2) ∧ f 10 = vi (k5) ∧ f 11 = Value.pointer (some ⟨jq, 0, none⟩) ∧ f 12 = k6 ∧ f 13 = vi (k8) ∧ f 14 = Value.slice (some ⟨kt, 0, none⟩) ((a0.length : Int) - 1).toNat ((a0.length : Int) - 1).toNat ∧ Var s jq 45 k9 ∧ Arr s kt 3 ((a0.length : Int) - 1).toNat g6) ?_ ?_
       ·refine W_block (W_loop (fun m f w => ∃ (s : St) (g7 : Int) (g8 : List Int), s.w = w ∧ Ext s0 s ∧ Le ks s ∧ ref14_Best_l2 N a0 m g7 g8 = some g3 ∧ f 15 = vi g7 ∧ f 0 = w0 ∧ f 1 = vi (a1) ∧ f 2 = vi (a2) ∧ f 10 = vi (k5) ∧ f 11 = Value.pointer (some ⟨jq, 0, none⟩) ∧ f 12 = k6 ∧ f 13 = vi (k8) ∧ f 14 = Value.slice (some ⟨kt, 0, none⟩) ((a0.length : Int) - 1).toNat ((a0.length : Int) - 1).toNat ∧ Var s jq 45 k9 ∧ Arr s kt 3 ((a0.length : Int) - 1).toNat g8) N ⟨ks, 0, (List.replicate ((a0.length : Int) - 1).toNat (0 : Int)), rfl, kx, (Le.refl _), g4, rfl, kk, kl, km, kg, kn, kh, kj, rfl, (ko).ext ku, kw⟩ ?_)
        rintro g9 ga gb ⟨gc, g7, g8, rfl, gd, gg, hr, gh, gi, gj, gk, gl, gm, gn, go, gp, gq, gr⟩
        cases g9 with
        | zero => exact absurd hr (by simp [ref14_Best_l2])
        | succ g9 =>
         rw [ref14_Best_l2.eq_2] at hr
         refine W_seq (sr (mv gh (mv gp (L_lenA Tryz.underlying38 (rv (Value.slice (some ⟨kt, 0, none⟩) ((a0.length : Int) - 1).toNat ((a0.length : Int) - 1).toNat)) (by decide) (ls (rv (vi g7)) (rfl : _ = vi (((((a0.length : Int) - 1).toNat : Nat) : Int))) (nn ?_))))))
         refine W_cond _ (rfl : _ = vb (decide (g7 < ((((a0.length : Int) - 1).toNat : Nat) : Int)))) (fun gs => ?_) (fun gs => ?_)
         ·have hr := ite_t gs hr; refine W_skip (then_n (W_seq (W_block (W_region (mv gp (mv gh ?_)))))); obtain ⟨gu, gv, hr⟩ := bind_some hr; refine L_indexA (sz := 1) Tryz.underlying38 ty3.inf (rv (Value.slice (some ⟨kt, 0, none⟩) ((a0.length : Int) - 1).toNat ((a0.length : Int) - 1).toNat)) (rv (vi g7)) (idx_some gv).1 (by have := (idx_some gv).2.1; have := (gr).1; omega) (by decide) (L_storeA (xs := g8) ty3 (rv (Value.pointer (some ⟨kt, (g7).toNat * 1, none⟩))) (rv (vi 1)) Vint (gr) gv (fun gw gx gy => ?_)); have gz := Tch.trans gd gx (fun k hk => Or.inr (by subst hk; exact (Nat.le_trans ke.size kv))); refine L_nil (block_n (then_n (W_region (mv gh ?_)))); obtain ⟨u0, hr⟩ := chk_some hr; exact ad (rv (vi g7)) (rv (vi 1)) u0 (asg (rv (vi (g7 + 1))) (nn ⟨g9, Nat.lt_succ_self _, ⟨gw, (g7 + 1), (g8.set (g7).toNat 1), rfl, gz, (gg.trans gx.le), hr, rfl, gi, gj, gk, gl, gm, gn, go, gp, (gq).tch gx ((fun k hk => ky k hk) jq rfl), gy⟩⟩))
         ·have hr := ite_f gs hr; refine W_exit (then_x (then_x (block_here ?_))); exact then_n ⟨gc, g8, rfl, gd, gg, Option.some.inj hr, gi, gj, gk, gl, gm, gn, go, gp, gq, gr⟩
       ·rintro g7 g8 ⟨g9, g6, rfl, ga, gb, g4, gc, gd, gg, gh, gi, gj, gk, gl, gm, gn⟩
        subst g4
        have hr := g5
        try dsimp only at hr
        refine then_n ?_
        obtain ⟨go, gp, gq⟩ := bind_some hr
        refine W_cut (fun f w => ∃ (s : St) (gr : Int) (gs : Value) (gu : List Int) (gv : Loss), s.w = w ∧ Ext s0 s ∧ Le g9 s ∧ (gr, gu, gv) = go ∧ f 10 = vi gr ∧ f 12 = gs ∧ V s gs gu ∧ f 0 = w0 ∧ f 1 = vi (a1) ∧ f 2 = vi (a2) ∧ f 11 = Value.pointer (some ⟨jq, 0, none⟩) ∧ f 13 = vi (k8) ∧ Var s jq 45 gv) ?_ ?_
        ·refine W_block (W_loop (fun m f w => ∃ (s : St) (gw : Int) (gx : Value) (gy : List Int) (gz : Loss) (u0 : List Int), s.w = w ∧ Ext s0 s ∧ Le g9 s ∧ ref14_Best_l3 N a0 a2 k8 m gw gy gz u0 = some go ∧ f 10 = vi gw ∧ f 12 = gx ∧ V s gx gy ∧ f 0 = w0 ∧ f 1 = vi (a1) ∧ f 2 = vi (a2) ∧ f 11 = Value.pointer (some ⟨jq, 0, none⟩) ∧ f 13 = vi (k8) ∧ f 14 = Value.slice (some ⟨kt, 0, none⟩) ((a0.length : Int) - 1).toNat ((a0.length : Int) - 1).toNat ∧ Var s jq 45 gz ∧ Arr s kt 3 ((a0.length : Int) - 1).toNat u0) N ⟨g9, k5, k6, k7, k9, g6, rfl, ga, (Le.refl _), gp, gh, gj, (ki.mono (ku.le.trans gb)), gc, gd, gg, gi, gk, gl, gm, gn⟩ ?_)
         rintro u1 u2 u3 ⟨u4, gw, gx, gy, gz, u0, rfl, u5, u6, hr, u7, u9, ua, ub, uc, ud, ue, uf, ug, uh, ui⟩
         cases u1 with
         | zero => exact absurd hr (by simp [ref14_Best_l3])
         | succ u1 =>
          rw [ref14_Best_l3.eq_2] at hr
          refine W_block (sr (mv ub (mv uf (mv ug ?_))))
          obtain ⟨uj, uk, hr⟩ := bind_some hr
          obtain ⟨ul, um, un, uo⟩ := (ui).freeze
          refine L_calls_fz cal68 (args3 (rv w0) (rv (vi k8)) (rv (Value.slice (some ⟨kt, 0, none⟩) ((a0.length : Int) - 1).toNat ((a0.length : Int) - 1).toNat))) um un (fun k hk => by have up : k = kt := hk; rw [up]; exact (ui).g) (ref14_loss_ok N _ _ _ (h0.mono (j5.le.trans (jh.trans (jr.le.trans (jw.le.trans (kf.trans (ku.le.trans (gb.trans (u6.trans un.le))))))))) k8 _ _ uo uj uk) (by decide) (fun uq ur us ut uu uv => ?_)
          have uw := Tch.ext u5 uu
          obtain rfl := Loss.val uv
          have ux : V us (Value.agg #[vi uj.Num, vi uj.Den]) uj := Loss.mk_V Vint Vint
          refine L_alloc (α := Loss) (x := ⟨0, 0⟩) zero45 Loss.zero_rel (by decide) (fun uy uz t0 t1 t2 => ?_)
          have t3 := Tch.ext uw t0
          have t4 : ∀ k, (fun k => k = jq) k → ¬ (fun k => k = uz) k := fun k kz g0 => by have g1 := (fun k (hk : k = jq) => lt_at hk ((uh).ext uu).lt) k kz; have g2 := t1; subst g0; omega
          have t5 : ∀ k, (fun k => k = kt) k → ¬ (fun k => k = uz) k := fun k kz g0 => by have g1 := (fun k (hk : k = kt) => lt_at hk ((ui).ext uu).lt) k kz; have g2 := t1; subst g0; omega
          refine L_store_ro ty45 (rv (Value.pointer (some ⟨uz, 0, none⟩))) (rv ((Value.agg #[vi uj.Num, vi uj.Den]))) (ux.mono t0.le) (t2) (fun t6 t7 t8 => ?_)
          have t9 := Tch.trans t3 t7 (fun k hk => Or.inr (by subst hk; exact (Nat.le_trans uw.size t1)))
          refine nn (W_seq ?_)
          obtain ⟨ta, tb, tc⟩ := bind_some hr
          refine W_seq_cut (fun f w => ∃ (s : St) (td : Bool), s.w = w ∧ Ext s0 s ∧ Le t6 s ∧ td = ta ∧ f 66 = vb td ∧ f 0 = w0 ∧ f 1 = vi (a1) ∧ f 2 = vi (a2) ∧ f 10 = vi (gw) ∧ f 11 = Value.pointer (some ⟨jq, 0, none⟩) ∧ f 12 = gx ∧ f 13 = vi (k8) ∧ f 14 = Value.slice (some ⟨kt, 0, none⟩) ((a0.length : Int) - 1).toNat ((a0.length : Int) - 1).toNat ∧ f 16 = Value.pointer (some ⟨uz, 0, none⟩) ∧ Var s jq 45 gz ∧ Arr s kt 3 ((a0.length : Int) - 1).toNat u0) ?_ ?_
          ·have hr := tb
           refine W_region (mv u7 (el (rv (vi gw)) (rv (vi 0)) (mv (rv (vb (decide (gw = 0)))) ?_)))
           rcases tf (decide (gw = 0)) with te | te
           ·have hr := ite_t te hr; exact gf 62 (rv (vb (decide (gw = 0)))) te (gf 62 (rv (vb (decide (gw = 0)))) te (gf 62 (rv (vb (decide (gw = 0)))) te (pt (rv (vb (decide (gw = 0)))) te (rv (vb true)) (nn ⟨t6, true, rfl, t9, (Le.refl _), Option.some.inj hr, rfl, ub, uc, ud, u7, ue, u9, uf, ug, rfl, (((uh).ext uu).ext t0).tch t7 ((fun k hk => t4 k hk) jq rfl), (((ui).ext uu).ext t0).tch t7 ((fun k hk => t5 k hk) kt rfl)⟩))))
           ·have hr := ite_f te hr; refine gt 62 (rv (vb (decide (gw = 0)))) te (ld ty45 (rv (Value.pointer (some ⟨uz, 0, none⟩))) t8 (fun tg th => gt 62 (rv (vb (decide (gw = 0)))) te (L_load_var ty45 ue ((((uh).ext uu).ext t0).tch t7 ((fun k hk => t4 k hk) jq rfl)) (by decide) (fun ti tj => gt 62 (rv (vb (decide (gw = 0)))) te ?_)))); obtain ⟨tk, tl, hr⟩ := bind_some hr; refine L_calls cal72 (args2 (rv tg) (rv ti)) (ref14_Less_ok N _ _ _ th _ _ tj tk tl) (by decide) (fun tm tn tp tq => ?_); have tr := Tch.ext t9 tp; obtain rfl := tq.bool; exact pf (rv (vb (decide (gw = 0)))) te (rv (vb tk)) (nn ⟨tn, tk, rfl, tr, tp.le, Option.some.inj hr, rfl, ub, uc, ud, u7, ue, u9, uf, ug, rfl, ((((uh).ext uu).ext t0).tch t7 ((fun k hk => t4 k hk) jq rfl)).ext tp, ((((ui).ext uu).ext t0).tch t7 ((fun k hk => t5 k hk) kt rfl)).ext tp⟩)
          ·rintro te tg ⟨th, td, rfl, ti, tj, tb, tk, tl, tm, tn, tp, tq, tr, ts, tt, tu, tv, tw⟩
           subst tb
           have hr := tc
           try dsimp only at hr
           refine W_cond _ tk (fun tx => ?_) (fun tx => ?_)
           ·have hr := ite_t tx hr
            obtain ⟨ty, hr⟩ := chk_some hr
            refine W_drawO mixed 8 [PX.eq (vi k8), PX.data (uj : Loss), PX.bld s0.w.heap.size 3 (([] : List Int) : List Int), PX.eq (Value.slice (some ⟨kt, 0, none⟩) ((a0.length : Int) - 1).toNat ((a0.length : Int) - 1).toNat), PX.bld s0.w.heap.size 3 (([] : List Int) ++ u0 : List Int), PX.eq (vi k8), PX.var s0.w.heap.size 45 (uj : Loss), PX.bld s0.w.heap.size 3 (([] : List Int) ++ u0 : List Int), PX.var s0.w.heap.size 45 (gz : Loss), PX.arr kt 3 (((a0.length : Int) - 1).toNat) (u0 : List Int)] [67, 68, 69, 70, 71, 10, 11, 12, 11, 14] [[], [], [], [], [2], [], [8], [4]] rfl (by kernel_rfl) (ent2 rfl ⟨jq, tq, (Nat.le_trans jg.size js), tv⟩ ⟨tt, tw⟩) (dis2 rfl (fun k kz g0 => (fun k hk => ky k hk) k (own_ptr (tq : _ = Value.pointer (some ⟨jq, 0, none⟩)) kz) (own_slice (tt : _ = Value.slice (some ⟨kt, 0, none⟩) (((a0.length : Int) - 1).toNat) (((a0.length : Int) - 1).toNat)) g0)) (fun k kz g0 => (fun k hk hm => ky k hm hk) k (own_slice (tt : _ = Value.slice (some ⟨kt, 0, none⟩) (((a0.length : Int) - 1).toNat) (((a0.length : Int) - 1).toNat)) kz) (own_ptr (tq : _ = Value.pointer (some ⟨jq, 0, none⟩)) g0))) (StepsX_cons ?_ (StepsX_cons ?_ (StepsX_cons ?_ (StepsX_cons ?_ (StepsX_cons ?_ (StepsX_cons ?_ (StepsX_cons ?_ (StepsX_cons ?_ StepsX_nil)))))))) ?_
            ·intro tz c0 c1 c2 c3 c4 Q c5; have c6 : tz 13 = vi (k8) := (c3 13 (by kernel_rfl)).trans ts; exact mv c6 (L_nil (c5 _ _ No (Ext.refl c0) (fun _ h => h.elim) rfl (fun _ h => h.elim)))
            ·intro tz c0 c1 c2 c3 c4 Q c5; have c6 : tz 16 = Value.pointer (some ⟨uz, 0, none⟩) := (c3 16 (by kernel_rfl)).trans tu; exact ld ty45 c6 (t8.mono (tj.trans c1.le)) (fun c7 c8 => L_nil (c5 _ _ No (Ext.refl c0) (fun _ h => h.elim) c8 (fun _ h => h.elim)))
            ·intro tz c0 c1 c2 c3 c4 Q c5; refine L_buildSlice (xs := ([] : List Int)) Tryz.underlying38 tyz3 Parts_nil Vs.nil rfl (by decide) (by decide) (fun c6 c7 c8 c9 ca => ?_); have cb := Tch.ext (Ext.refl c0) c8; exact L_nil (c5 _ _ No cb (fun _ h => h.elim) (c9.base (Nat.le_trans ti.size c1.size)) (fun k h => Or.inr ((c9.lt h).1)))
            ·intro tz c0 c1 c2 c3 c4 Q c5; have c6 : tz 14 = Value.slice (some ⟨kt, 0, none⟩) ((a0.length : Int) - 1).toNat ((a0.length : Int) - 1).toNat := (c3 14 (by kernel_rfl)).trans tt; exact mv c6 (L_nil (c5 _ _ No (Ext.refl c0) (fun _ h => h.elim) rfl (fun _ h => h.elim)))
            ·intro tz c0 c1 c2 c3 c4 Q c5; obtain ⟨c6, c7, c8⟩ : ∃ v, tz 69 = v ∧ Bld c0 s0.w.heap.size 3 v (([] : List Int) : List Int) := ⟨_, rfl, c2 2 (by kernel_rfl) (by show _ < 10; decide)⟩; have c9 : tz 70 = Value.slice (some ⟨kt, 0, none⟩) ((a0.length : Int) - 1).toNat ((a0.length : Int) - 1).toNat := c2 3 (by kernel_rfl) (by show _ < 10; decide); obtain ⟨ca, cb⟩ : tz 14 = Value.slice (some ⟨kt, 0, none⟩) (((a0.length : Int) - 1).toNat) (((a0.length : Int) - 1).toNat) ∧ Arr c0 kt 3 (((a0.length : Int) - 1).toNat) (u0 : List Int) := c2 9 (by kernel_rfl) (by show _ < 10; decide); have cc : ∀ k, (fun k => k = kt) k → ¬ (own c6) k := fun k kz g0 => c4 9 2 (by kernel_rfl) (by kernel_rfl) (by show _ < 10; decide) (by show _ < 10; decide) (by decide) k (by show own (tz 14) k; rw [ca]; exact congrArg some (show kt = k from kz.symm)) (by show own (tz 69) k; rw [c7]; exact g0); exact L_appendA (xs := ([] : List Int)) (ys := u0) (B := s0.w.heap.size) flat3 Tryz.underlying38 tyz3 c7 c9 (c8) (Nat.le_trans ti.size c1.size) (cb) (cc _ rfl) ty.1 ty.2 (by decide) (fun cd ce cf => L_nil (c5 _ _ _ cf.tch (fun k h => ⟨2, (List.mem_singleton.2 rfl : (2 : Nat) ∈ [2]), (by show own (tz 69) k; rw [c7]; exact h)⟩) cf.bld (fun k h => (cf.own k h).imp (fun h => ⟨2, (List.mem_singleton.2 rfl : (2 : Nat) ∈ [2]), (by show own (tz 69) k; rw [c7]; exact h)⟩) (fun h => h))))
            ·intro tz c0 c1 c2 c3 c4 Q c5; have c6 : tz 67 = vi (k8) := c2 0 (by kernel_rfl) (by show _ < 10; decide); exact asg c6 (L_nil (c5 _ _ No (Ext.refl c0) (fun _ h => h.elim) rfl (fun _ h => h.elim)))
            ·intro tz c0 c1 c2 c3 c4 Q c5
             obtain ⟨c6, c7, c8, c9⟩ : ∃ b, tz 11 = Value.pointer (some ⟨b, 0, none⟩) ∧ s0.w.heap.size ≤ b ∧ Var c0 b 45 (gz : Loss) := c2 8 (by kernel_rfl) (by show _ < 10; decide)
             have ca : tz 11 = Value.pointer (some ⟨jq, 0, none⟩) := (c3 11 (by kernel_rfl)).trans tq
             have cb : c6 = jq := by have g1 := c7.symm.trans ca; cases g1; rfl
             rw [cb] at c8 c9
             have cc : V _ (tz 68) (uj : Loss) := c2 1 (by kernel_rfl) (by show _ < 10; decide)
             obtain ⟨cd, ce, cf⟩ : ∃ v, _ = v ∧ V _ v _ := ⟨_, rfl, cc⟩
             exact L_store ty45 ca ce cf (c9) (fun cg ch ci => L_nil (c5 undef _ _ ch (fun k h => ⟨8, (List.mem_singleton.2 rfl : (8 : Nat) ∈ [8]), (by show ownP (tz 11) k; rw [ca]; exact congrArg (fun z => Value.pointer (some ⟨z, 0, none⟩)) h.symm)⟩) ⟨_, ca, c8, ci⟩ (fun k h => Or.inl ⟨8, (List.mem_singleton.2 rfl : (8 : Nat) ∈ [8]), h⟩)))
            ·intro tz c0 c1 c2 c3 c4 Q c5; obtain ⟨c6, c7, c8⟩ : ∃ v, tz 71 = v ∧ Bld c0 s0.w.heap.size 3 v (([] : List Int) ++ u0 : List Int) := ⟨_, rfl, c2 4 (by kernel_rfl) (by show _ < 10; decide)⟩; exact asg c7 (L_nil (c5 _ _ No (Ext.refl c0) (fun _ h => h.elim) c8 (fun k h => Or.inl ⟨4, (List.mem_singleton.2 rfl : (4 : Nat) ∈ [4]), (by show own (tz 71) k; rw [c7]; exact h)⟩)))
            ·intro tz c0 c1 c2 c3 c4 c5
             have c6 := Tch.trans ti c1 (fun k h => Or.inr ((ent_is2 (k := 8) rfl rfl h).elim (fun g0 => (by have g1 := (own_ptr (tq : _ = Value.pointer (some ⟨jq, 0, none⟩)) g0); rw [g1]; exact (Nat.le_trans jg.size js))) (fun g0 => (by have g1 := (own_slice (tt : _ = Value.slice (some ⟨kt, 0, none⟩) (((a0.length : Int) - 1).toNat) (((a0.length : Int) - 1).toNat)) g0); rw [g1]; exact (Nat.le_trans ke.size kv)))))
             obtain ⟨c7, c8, c9, ca⟩ : ∃ b, tz 11 = Value.pointer (some ⟨b, 0, none⟩) ∧ s0.w.heap.size ≤ b ∧ Var c0 b 45 (uj : Loss) := c2 6 (by show _ < 10; decide) (by kernel_rfl)
             have cb : tz 11 = Value.pointer (some ⟨jq, 0, none⟩) := (c5 11 (by kernel_rfl)).trans tq
             have cc : c7 = jq := by have g1 := c8.symm.trans cb; cases g1; rfl
             rw [cc] at c9 ca
             obtain ⟨cd, ce, cf⟩ : ∃ v, tz 12 = v ∧ Bld c0 s0.w.heap.size 3 v (([] : List Int) ++ u0 : List Int) := ⟨_, rfl, c2 7 (by show _ < 10; decide) (by kernel_rfl)⟩
             obtain ⟨cg, ch⟩ : tz 14 = Value.slice (some ⟨kt, 0, none⟩) (((a0.length : Int) - 1).toNat) (((a0.length : Int) - 1).toNat) ∧ Arr c0 kt 3 (((a0.length : Int) - 1).toNat) (u0 : List Int) := c2 9 (by show _ < 10; decide) (by kernel_rfl)
             have ci : ∀ k, (fun k => k = jq) k → ¬ (fun k => k = kt) k := fun k kz g0 => c3 6 9 (by show _ < 10; decide) (by show _ < 10; decide) (by kernel_rfl) (by kernel_rfl) (by decide) k (by show ownP (tz 11) k; rw [cb]; exact congrArg (fun z => Value.pointer (some ⟨z, 0, none⟩)) kz.symm) (by show own (tz 14) k; rw [cg]; exact congrArg some g0.symm)
             have cj : ∀ k, (own cd) k → ¬ (fun k => k = kt) k := fun k kz g0 => c3 7 9 (by show _ < 10; decide) (by show _ < 10; decide) (by kernel_rfl) (by kernel_rfl) (by decide) k (by show own (tz 12) k; rw [ce]; exact kz) (by show own (tz 14) k; rw [cg]; exact congrArg some g0.symm)
             have ck : tz 0 = w0 := (c5 0 (by kernel_rfl)).trans tl
             have cl : tz 1 = vi (a1) := (c5 1 (by kernel_rfl)).trans tm
             have cm : tz 2 = vi (a2) := (c5 2 (by kernel_rfl)).trans tn
             have cn : tz 10 = vi (k8) := c2 5 (by show _ < 10; decide) (by kernel_rfl)
             have co : tz 13 = vi (k8) := (c5 13 (by kernel_rfl)).trans ts
             refine then_n (sr (mv cg (L_lenA Tryz.underlying38 (rv (Value.slice (some ⟨kt, 0, none⟩) ((a0.length : Int) - 1).toNat ((a0.length : Int) - 1).toNat)) (by decide) ?_)))
             obtain ⟨cp, hr⟩ := chk_some hr
             refine L_sub (rfl : _ = vi (((((a0.length : Int) - 1).toNat : Nat) : Int))) (rv (vi 1)) cp (by decide) (asg (rfl : _ = vi (((((a0.length : Int) - 1).toNat : Nat) : Int) - 1)) (nn (W_seq ?_)))
             obtain ⟨cq, cr, cs⟩ := bind_some hr
             refine W_cut (fun f w => ∃ (s : St) (ct : Int) (cu : List Int), s.w = w ∧ Ext s0 s ∧ Le c0 s ∧ (ct, cu) = cq ∧ f 17 = vi ct ∧ f 0 = w0 ∧ f 1 = vi (a1) ∧ f 2 = vi (a2) ∧ f 10 = vi (k8) ∧ f 11 = Value.pointer (some ⟨jq, 0, none⟩) ∧ f 12 = cd ∧ f 13 = vi (k8) ∧ f 14 = Value.slice (some ⟨kt, 0, none⟩) ((a0.length : Int) - 1).toNat ((a0.length : Int) - 1).toNat ∧ Var s jq 45 uj ∧ Bld s s0.w.heap.size 3 cd (([] : List Int) ++ u0) ∧ Arr s kt 3 ((a0.length : Int) - 1).toNat cu) ?_ ?_
             ·refine W_block (W_loop (fun m f w => ∃ (s : St) (cv : Int) (cw : List Int), s.w = w ∧ Ext s0 s ∧ Le c0 s ∧ ref14_Best_l4 N a2 m cv cw = some cq ∧ f 17 = vi cv ∧ f 0 = w0 ∧ f 1 = vi (a1) ∧ f 2 = vi (a2) ∧ f 10 = vi (k8) ∧ f 11 = Value.pointer (some ⟨jq, 0, none⟩) ∧ f 12 = cd ∧ f 13 = vi (k8) ∧ f 14 = Value.slice (some ⟨kt, 0, none⟩) ((a0.length : Int) - 1).toNat ((a0.length : Int) - 1).toNat ∧ Var s jq 45 uj ∧ Bld s s0.w.heap.size 3 cd (([] : List Int) ++ u0) ∧ Arr s kt 3 ((a0.length : Int) - 1).toNat cw) N ⟨c0, (((((a0.length : Int) - 1).toNat : Nat) : Int) - 1), u0, rfl, c6, (Le.refl _), cr, rfl, ck, cl, cm, cn, cb, ce, co, cg, ca, cf, ch⟩ ?_)
              rintro cx cy cz ⟨d0, cv, cw, rfl, d1, d2, hr, d3, d4, d5, d6, d7, d8, d9, da, db, dc, dd, de⟩
              cases cx with
              | zero => exact absurd hr (by simp [ref14_Best_l4])
              | succ cx =>
               rw [ref14_Best_l4.eq_2] at hr
               refine W_seq ?_
               obtain ⟨df, dg, dh⟩ := bind_some hr
               refine W_seq_cut (fun f w => ∃ (s : St) (di : Bool), s.w = w ∧ Ext s0 s ∧ Le d0 s ∧ di = df ∧ f 84 = vb di ∧ f 0 = w0 ∧ f 1 = vi (a1) ∧ f 2 = vi (a2) ∧ f 10 = vi (k8) ∧ f 11 = Value.pointer (some ⟨jq, 0, none⟩) ∧ f 12 = cd ∧ f 13 = vi (k8) ∧ f 14 = Value.slice (some ⟨kt, 0, none⟩) ((a0.length : Int) - 1).toNat ((a0.length : Int) - 1).toNat ∧ f 17 = vi (cv) ∧ Var s jq 45 uj ∧ Bld s s0.w.heap.size 3 cd (([] : List Int) ++ u0) ∧ Arr s kt 3 ((a0.length : Int) - 1).toNat cw) ?_ ?_
               ·have hr := dg
                refine W_region (mv d3 (L_geq (rv (vi cv)) (rv (vi 0)) (by decide) (mv (rv (vb (decide (0 ≤ cv)))) ?_)))
                rcases tf (decide (0 ≤ cv)) with dj | dj
                ·have hr := ite_t dj hr; refine gt 77 (rv (vb (decide (0 ≤ cv)))) dj (mv db (gt 77 (rv (vb (decide (0 ≤ cv)))) dj (mv d3 (gt 77 (rv (vb (decide (0 ≤ cv)))) dj ?_)))); obtain ⟨dk, dl, hr⟩ := bind_some hr; refine L_indexA (sz := 1) Tryz.underlying38 ty3.inf (rv (Value.slice (some ⟨kt, 0, none⟩) ((a0.length : Int) - 1).toNat ((a0.length : Int) - 1).toNat)) (rv (vi cv)) (idx_some dl).1 (by have := (idx_some dl).2.1; have := (de).1; omega) (by decide) (gt 77 (rv (vb (decide (0 ≤ cv)))) dj (L_loadA (xs := cw) ty3 (rv (Value.pointer (some ⟨kt, (cv).toNat * 1, none⟩))) (de) dl (by decide) (fun dm dn => ?_))); obtain rfl := dn.int; exact gt 77 (rv (vb (decide (0 ≤ cv)))) dj (mv d6 (gt 77 (rv (vb (decide (0 ≤ cv)))) dj (el (rv (vi dk)) (rv (vi a2)) (pt (rv (vb (decide (0 ≤ cv)))) dj (rv (vb (decide (dk = a2)))) (nn ⟨d0, (decide (dk = a2)), rfl, d1, (Le.refl _), Option.some.inj hr, rfl, d4, d5, d6, d7, d8, d9, da, db, d3, dc, dd, de⟩)))))
                ·have hr := ite_f dj hr; exact gf 77 (rv (vb (decide (0 ≤ cv)))) dj (gf 77 (rv (vb (decide (0 ≤ cv)))) dj (gf 77 (rv (vb (decide (0 ≤ cv)))) dj (gf 77 (rv (vb (decide (0 ≤ cv)))) dj (gf 77 (rv (vb (decide (0 ≤ cv)))) dj (gf 77 (rv (vb (decide (0 ≤ cv)))) dj (pf (rv (vb (decide (0 ≤ cv)))) dj (rv (vb false)) (nn ⟨d0, false, rfl, d1, (Le.refl _), Option.some.inj hr, rfl, d4, d5, d6, d7, d8, d9, da, db, d3, dc, dd, de⟩)))))))
               ·rintro dj dk ⟨dl, di, rfl, dm, dn, dg, dp, dq, dr, ds, dt, du, dv, dw, dx, dy, dz, p0, p1⟩
                subst dg
                have hr := dh
                try dsimp only at hr
                refine W_cond _ dp (fun p2 => ?_) (fun p2 => ?_)
                ·have hr := ite_t p2 hr; refine W_skip (then_n (W_block (sr (mv dx (mv dy ?_))))); obtain ⟨p3, p4, hr⟩ := bind_some hr; refine L_indexA (sz := 1) Tryz.underlying38 ty3.inf (rv (Value.slice (some ⟨kt, 0, none⟩) ((a0.length : Int) - 1).toNat ((a0.length : Int) - 1).toNat)) (rv (vi cv)) (idx_some p4).1 (by have := (idx_some p4).2.1; have := (p1).1; omega) (by decide) (L_storeA (xs := cw) ty3 (rv (Value.pointer (some ⟨kt, (cv).toNat * 1, none⟩))) (rv (vi 1)) Vint (p1) p4 (fun p5 p6 p7 => ?_)); have p8 := Tch.trans dm p6 (fun k hk => Or.inr (by subst hk; exact (Nat.le_trans ke.size kv))); refine nn (W_region (mv dy ?_)); obtain ⟨p9, hr⟩ := chk_some hr; refine L_sub (rv (vi cv)) (rv (vi 1)) p9 (by decide) (asg (rv (vi (cv - 1))) (L_nil (block_n ?_))); exact then_n ⟨cx, Nat.lt_succ_self _, ⟨p5, (cv - 1), (cw.set (cv).toNat 1), rfl, p8, (d2.trans (dn.trans p6.le)), hr, rfl, dq, dr, ds, dt, du, dv, dw, dx, (dz).tch p6 (ci jq rfl), (p0).tch p6 cj, p7⟩⟩
                ·have hr := ite_f p2 hr; refine W_exit (then_x (then_x (block_here ?_))); exact then_n ⟨dl, cv, cw, rfl, dm, (d2.trans dn), Option.some.inj hr, dy, dq, dr, ds, dt, du, dv, dw, dx, dz, p0, p1⟩
             ·rintro cv cw ⟨cx, ct, cu, rfl, cy, cz, cr, d0, d1, d2, d3, d4, d5, d6, d7, d8, d9, da, db⟩
              subst cr
              have hr := cs
              try dsimp only at hr
              refine then_n (W_seq (sr (mv d0 (ls (rv (vi ct)) (rv (vi 0)) (nn ?_)))))
              refine W_cond _ (rv (vb (decide (ct < 0)))) (fun dc => ?_) (fun dc => ?_)
              ·have hr := ite_t dc hr; refine W_exit (then_x (block_x (by decide) (then_x (block_here ?_)))); exact then_n ⟨cx, k8, cd, (([] : List Int) ++ u0), uj, rfl, cy, (u6.trans (uu.le.trans (t0.le.trans (t7.le.trans (tj.trans (c1.le.trans cz)))))), Option.some.inj hr, d4, d6, (da).toV, d1, d2, d3, d5, d7, d9⟩
              ·have hr := ite_f dc hr; refine W_skip (then_n (W_region (mv d8 (mv d0 ?_)))); obtain ⟨dd, de, hr⟩ := bind_some hr; refine L_indexA (sz := 1) Tryz.underlying38 ty3.inf (rv (Value.slice (some ⟨kt, 0, none⟩) ((a0.length : Int) - 1).toNat ((a0.length : Int) - 1).toNat)) (rv (vi ct)) (idx_some de).1 (by have := (idx_some de).2.1; have := (db).1; omega) (by decide) (L_loadA (xs := cu) ty3 (rv (Value.pointer (some ⟨kt, (ct).toNat * 1, none⟩))) (db) de (by decide) (fun df dg => ?_)); obtain rfl := dg.int; obtain ⟨dh, hr⟩ := chk_some hr; refine ad (rv (vi dd)) (rv (vi 1)) dh ?_; obtain ⟨di, dj, hr⟩ := bind_some hr; refine L_indexA (sz := 1) Tryz.underlying38 ty3.inf (rv (Value.slice (some ⟨kt, 0, none⟩) ((a0.length : Int) - 1).toNat ((a0.length : Int) - 1).toNat)) (rv (vi ct)) (idx_some dj).1 (by have := (idx_some dj).2.1; have := (db).1; omega) (by decide) (L_storeA (xs := cu) ty3 (rv (Value.pointer (some ⟨kt, (ct).toNat * 1, none⟩))) (rv (vi (dd + 1))) Vint (db) dj (fun dk dl dm => ?_)); have dn := Tch.trans cy dl (fun k hk => Or.inr (by subst hk; exact (Nat.le_trans ke.size kv))); refine L_nil (block_n ?_); exact then_n ⟨u1, Nat.lt_succ_self _, ⟨dk, k8, cd, (([] : List Int) ++ u0), uj, (cu.set (ct).toNat (dd + 1)), rfl, dn, (u6.trans (uu.le.trans (t0.le.trans (t7.le.trans (tj.trans (c1.le.trans (cz.trans dl.le))))))), hr, d4, d6, ((da).tch dl cj).toV, d1, d2, d3, d5, d7, d8, (d9).tch dl (ci jq rfl), dm⟩⟩
           ·have hr := ite_f tx hr
            refine W_skip (then_n (sr (mv tt (L_lenA Tryz.underlying38 (rv (Value.slice (some ⟨kt, 0, none⟩) ((a0.length : Int) - 1).toNat ((a0.length : Int) - 1).toNat)) (by decide) ?_))))
            obtain ⟨ty, hr⟩ := chk_some hr
            refine L_sub (rfl : _ = vi (((((a0.length : Int) - 1).toNat : Nat) : Int))) (rv (vi 1)) ty (by decide) (asg (rfl : _ = vi (((((a0.length : Int) - 1).toNat : Nat) : Int) - 1)) (nn (W_seq ?_)))
            obtain ⟨tz, c0, c1⟩ := bind_some hr
            refine W_cut (fun f w => ∃ (s : St) (c2 : Int) (c3 : List Int), s.w = w ∧ Ext s0 s ∧ Le th s ∧ (c2, c3) = tz ∧ f 17 = vi c2 ∧ f 0 = w0 ∧ f 1 = vi (a1) ∧ f 2 = vi (a2) ∧ f 10 = vi (gw) ∧ f 11 = Value.pointer (some ⟨jq, 0, none⟩) ∧ f 12 = gx ∧ f 13 = vi (k8) ∧ f 14 = Value.slice (some ⟨kt, 0, none⟩) ((a0.length : Int) - 1).toNat ((a0.length : Int) - 1).toNat ∧ Var s jq 45 gz ∧ Arr s kt 3 ((a0.length : Int) - 1).toNat c3) ?_ ?_
            ·refine W_block (W_loop (fun m f w => ∃ (s : St) (c4 : Int) (c5 : List Int), s.w = w ∧ Ext s0 s ∧ Le th s ∧ ref14_Best_l5 N a2 m c4 c5 = some tz ∧ f 17 = vi c4 ∧ f 0 = w0 ∧ f 1 = vi (a1) ∧ f 2 = vi (a2) ∧ f 10 = vi (gw) ∧ f 11 = Value.pointer (some ⟨jq, 0, none⟩) ∧ f 12 = gx ∧ f 13 = vi (k8) ∧ f 14 = Value.slice (some ⟨kt, 0, none⟩) ((a0.length : Int) - 1).toNat ((a0.length : Int) - 1).toNat ∧ Var s jq 45 gz ∧ Arr s kt 3 ((a0.length : Int) - 1).toNat c5) N ⟨th, (((((a0.length : Int) - 1).toNat : Nat) : Int) - 1), u0, rfl, ti, (Le.refl _), c0, rfl, tl, tm, tn, tp, tq, tr, ts, tt, tv, tw⟩ ?_)
             rintro c6 c7 c8 ⟨c9, c4, c5, rfl, ca, cb, hr, cc, cd, ce, cf, cg, ch, ci, cj, ck, cl, cm⟩
             cases c6 with
             | zero => exact absurd hr (by simp [ref14_Best_l5])
             | succ c6 =>
              rw [ref14_Best_l5.eq_2] at hr
              refine W_seq ?_
              obtain ⟨cn, co, cp⟩ := bind_some hr
              refine W_seq_cut (fun f w => ∃ (s : St) (cq : Bool), s.w = w ∧ Ext s0 s ∧ Le c9 s ∧ cq = cn ∧ f 84 = vb cq ∧ f 0 = w0 ∧ f 1 = vi (a1) ∧ f 2 = vi (a2) ∧ f 10 = vi (gw) ∧ f 11 = Value.pointer (some ⟨jq, 0, none⟩) ∧ f 12 = gx ∧ f 13 = vi (k8) ∧ f 14 = Value.slice (some ⟨kt, 0, none⟩) ((a0.length : Int) - 1).toNat ((a0.length : Int) - 1).toNat ∧ f 17 = vi (c4) ∧ Var s jq 45 gz ∧ Arr s kt 3 ((a0.length : Int) - 1).toNat c5) ?_ ?_
              ·have hr := co
               refine W_region (mv cc (L_geq (rv (vi c4)) (rv (vi 0)) (by decide) (mv (rv (vb (decide (0 ≤ c4)))) ?_)))
               rcases tf (decide (0 ≤ c4)) with cr | cr
               ·have hr := ite_t cr hr; refine gt 77 (rv (vb (decide (0 ≤ c4)))) cr (mv ck (gt 77 (rv (vb (decide (0 ≤ c4)))) cr (mv cc (gt 77 (rv (vb (decide (0 ≤ c4)))) cr ?_)))); obtain ⟨cs, ct, hr⟩ := bind_some hr; refine L_indexA (sz := 1) Tryz.underlying38 ty3.inf (rv (Value.slice (some ⟨kt, 0, none⟩) ((a0.length : Int) - 1).toNat ((a0.length : Int) - 1).toNat)) (rv (vi c4)) (idx_some ct).1 (by have := (idx_some ct).2.1; have := (cm).1; omega) (by decide) (gt 77 (rv (vb (decide (0 ≤ c4)))) cr (L_loadA (xs := c5) ty3 (rv (Value.pointer (some ⟨kt, (c4).toNat * 1, none⟩))) (cm) ct (by decide) (fun cu cv => ?_))); obtain rfl := cv.int; exact gt 77 (rv (vb (decide (0 ≤ c4)))) cr (mv cf (gt 77 (rv (vb (decide (0 ≤ c4)))) cr (el (rv (vi cs)) (rv (vi a2)) (pt (rv (vb (decide (0 ≤ c4)))) cr (rv (vb (decide (cs = a2)))) (nn ⟨c9, (decide (cs = a2)), rfl, ca, (Le.refl _), Option.some.inj hr, rfl, cd, ce, cf, cg, ch, ci, cj, ck, cc, cl, cm⟩)))))
               ·have hr := ite_f cr hr; exact gf 77 (rv (vb (decide (0 ≤ c4)))) cr (gf 77 (rv (vb (decide (0 ≤ c4)))) cr (gf 77 (rv (vb (decide (0 ≤ c4)))) cr (gf 77 (rv (vb (decide (0 ≤ c4)))) cr (gf 77 (rv (vb (decide (0 ≤ c4)))) cr (gf 77 (rv (vb (decide (0 ≤ c4)))) cr (pf (rv (vb (decide (0 ≤ c4)))) cr (rv (vb false)) (nn ⟨c9, false, rfl, ca, (Le.refl _), Option.some.inj hr, rfl, cd, ce, cf, cg, ch, ci, cj, ck, cc, cl, cm⟩)))))))
              ·rintro cr cs ⟨ct, cq, rfl, cu, cv, co, cw, cx, cy, cz, d0, d1, d2, d3, d4, d5, d6, d7⟩
               subst co
               have hr := cp
               try dsimp only at hr
               refine W_cond _ cw (fun d8 => ?_) (fun d8 => ?_)
               ·have hr := ite_t d8 hr; refine W_skip (then_n (W_block (sr (mv d4 (mv d5 ?_))))); obtain ⟨d9, da, hr⟩ := bind_some hr; refine L_indexA (sz := 1) Tryz.underlying38 ty3.inf (rv (Value.slice (some ⟨kt, 0, none⟩) ((a0.length : Int) - 1).toNat ((a0.length : Int) - 1).toNat)) (rv (vi c4)) (idx_some da).1 (by have := (idx_some da).2.1; have := (d7).1; omega) (by decide) (L_storeA (xs := c5) ty3 (rv (Value.pointer (some ⟨kt, (c4).toNat * 1, none⟩))) (rv (vi 1)) Vint (d7) da (fun db dc dd => ?_)); have de := Tch.trans cu dc (fun k hk => Or.inr (by subst hk; exact (Nat.le_trans ke.size kv))); refine nn (W_region (mv d5 ?_)); obtain ⟨df, hr⟩ := chk_some hr; refine L_sub (rv (vi c4)) (rv (vi 1)) df (by decide) (asg (rv (vi (c4 - 1))) (L_nil (block_n ?_))); exact then_n ⟨c6, Nat.lt_succ_self _, ⟨db, (c4 - 1), (c5.set (c4).toNat 1), rfl, de, (cb.trans (cv.trans dc.le)), hr, rfl, cx, cy, cz, d0, d1, d2, d3, d4, (d6).tch dc ((fun k hk => ky k hk) jq rfl), dd⟩⟩
               ·have hr := ite_f d8 hr; refine W_exit (then_x (then_x (block_here ?_))); exact then_n ⟨ct, c4, c5, rfl, cu, (cb.trans cv), Option.some.inj hr, d5, cx, cy, cz, d0, d1, d2, d3, d4, d6, d7⟩
            ·rintro c4 c5 ⟨c6, c2, c3, rfl, c7, c8, c0, c9, ca, cb, cc, cd, ce, cf, cg, ch, ci, cj⟩
             subst c0
             have hr := c1
             try dsimp only at hr
             refine then_n (W_seq (sr (mv c9 (ls (rv (vi c2)) (rv (vi 0)) (nn ?_)))))
             refine W_cond _ (rv (vb (decide (c2 < 0)))) (fun ck => ?_) (fun ck => ?_)
             ·have hr := ite_t ck hr; refine W_exit (then_x (block_x (by decide) (then_x (block_here ?_)))); exact then_n ⟨c6, gw, gx, gy, gz, rfl, c7, (u6.trans (uu.le.trans (t0.le.trans (t7.le.trans (tj.trans c8))))), Option.some.inj hr, cd, cf, (ua.mono (uu.le.trans (t0.le.trans (t7.le.trans (tj.trans c8))))), ca, cb, cc, ce, cg, ci⟩
             ·have hr := ite_f ck hr; refine W_skip (then_n (W_region (mv ch (mv c9 ?_)))); obtain ⟨cl, cm, hr⟩ := bind_some hr; refine L_indexA (sz := 1) Tryz.underlying38 ty3.inf (rv (Value.slice (some ⟨kt, 0, none⟩) ((a0.length : Int) - 1).toNat ((a0.length : Int) - 1).toNat)) (rv (vi c2)) (idx_some cm).1 (by have := (idx_some cm).2.1; have := (cj).1; omega) (by decide) (L_loadA (xs := c3) ty3 (rv (Value.pointer (some ⟨kt, (c2).toNat * 1, none⟩))) (cj) cm (by decide) (fun cn co => ?_)); obtain rfl := co.int; obtain ⟨cp, hr⟩ := chk_some hr; refine ad (rv (vi cl)) (rv (vi 1)) cp ?_; obtain ⟨cq, cr, hr⟩ := bind_some hr; refine L_indexA (sz := 1) Tryz.underlying38 ty3.inf (rv (Value.slice (some ⟨kt, 0, none⟩) ((a0.length : Int) - 1).toNat ((a0.length : Int) - 1).toNat)) (rv (vi c2)) (idx_some cr).1 (by have := (idx_some cr).2.1; have := (cj).1; omega) (by decide) (L_storeA (xs := c3) ty3 (rv (Value.pointer (some ⟨kt, (c2).toNat * 1, none⟩))) (rv (vi (cl + 1))) Vint (cj) cr (fun cs ct cu => ?_)); have cv := Tch.trans c7 ct (fun k hk => Or.inr (by subst hk; exact (Nat.le_trans ke.size kv))); refine L_nil (block_n ?_); exact then_n ⟨u1, Nat.lt_succ_self _, ⟨cs, gw, gx, gy, gz, (c3.set (c2).toNat (cl + 1)), rfl, cv, (u6.trans (uu.le.trans (t0.le.trans (t7.le.trans (tj.trans (c8.trans ct.le)))))), hr, cd, cf, (ua.mono (uu.le.trans (t0.le.trans (t7.le.trans (tj.trans (c8.trans ct.le)))))), ca, cb, cc, ce, cg, ch, (ci).tch ct ((fun k hk => ky k hk) jq rfl), cu⟩⟩
        ·rintro gw gx ⟨gy, gr, gs, gu, gv, rfl, gz, u0, gp, u1, u2, u3, u4, u5, u6, u7, u9, ua⟩; subst gp; have hr := gq; (try dsimp only at hr); refine block_n (then_n (W_region (mv u9 ?_))); obtain ⟨ub, hr⟩ := chk_some hr; exact ad (rv (vi k8)) (rv (vi 1)) ub (asg (rv (vi (k8 + 1))) (nn ⟨ka, Nat.lt_succ_self _, ⟨gy, gr, gs, gu, (k8 + 1), gv, rfl, gz, (kf.trans (ku.le.trans (gb.trans u0))), hr, u1, u2, u3, rfl, u4, u5, u6, u7, ua⟩⟩))
      ·have hr := ite_f kp hr; refine W_exit (then_x (then_x (block_here ?_))); exact then_n ⟨kd, k5, k6, k7, rfl, ke, kf, Option.some.inj hr, kg, kh, ki⟩
    ·rintro k5 k6 ⟨k7, k2, k3, k4, rfl, k8, k9, k0, ka, kb, kc⟩; subst k0; have hr := k1; (try dsimp only at hr); refine then_n (sr (mv ka (mv kb (asg (rv (vi k2)) (asg (rv k3) (asg (rv (vi 0)) (nn (W_ret ?_)))))))); obtain rfl := Option.some.inj hr; exact done3 (Or.inl rfl) Tryz.results25 rfl rfl rfl ⟨_, _, rfl, rfl, k8, _, _, _, rfl, Vint, kc, Vint⟩

theorem ref01_SameInts_ok (N : Nat) (s0 : St) (w0 : Value) (a0 : List Int) (h0 : V s0 w0 a0) (w1 : Value) (a1 : List Int) (h1 : V s0 w1 a1) (r : Bool) (hr : ref01_SameInts N a0 a1 = some r) :
    Calls Tryz.prog 26 #[w0, w1] s0.w (Ret s0 fun v s => V s v r) := by
 unfold ref01_SameInts at hr
 have j0 := Ext.refl s0
 refine Calls_of (n := 26) (args := [w0, w1]) Tryz.func26 rfl rfl (by simp) (sr (asg (rv (vb false)) (nn (W_seq (sr (mv (rv w0) (ln Tryz.underlying38 (rv w0) h0 (mv (rv w1) (ln Tryz.underlying38 (rv w1) h1 (ne (rv (vi ((a0.length : Int)))) (rv (vi ((a1.length : Int)))) (nn ?_)))))))))))
 refine W_cond _ (rv (vb (!decide ((a0.length : Int) = (a1.length : Int))))) (fun j1 => ?_) (fun j1 => ?_)
 ·have hr := ite_t j1 hr; refine sr (asg (rv (vb false)) (nn (W_ret (then_r ?_)))); obtain rfl := Option.some.inj hr; exact done1 (Or.inl rfl) Tryz.results26 rfl ⟨_, _, rfl, rfl, j0, Vbool⟩
 ·have hr := ite_f j1 hr
  refine W_skip (then_n (W_seq (sr (asg (rv (vi 0)) (nn ?_)))))
  obtain ⟨j2, j3, j4⟩ := bind_some hr
  refine W_cut (fun f w => ∃ (s : St), s.w = w ∧ Ext s0 s ∧ Le s0 s ∧ Sum.inl () = j2) ?_ ?_
  ·refine W_block (W_loop (fun m f w => ∃ (s : St) (j5 : Int), s.w = w ∧ Ext s0 s ∧ Le s0 s ∧ ref01_SameInts_l1 N a0 a1 m j5 = some j2 ∧ f 5 = vi j5 ∧ f 0 = w0 ∧ f 1 = w1) N ⟨s0, 0, rfl, j0, (Le.refl _), j3, rfl, rfl, rfl⟩ ?_)
   rintro j6 j7 j8 ⟨j9, j5, rfl, ja, jb, hr, jc, jd, je⟩
   cases j6 with
   | zero => exact absurd hr (by simp [ref01_SameInts_l1])
   | succ j6 =>
    rw [ref01_SameInts_l1.eq_2] at hr
    refine W_seq (sr (mv jc (mv jd (ln Tryz.underlying38 (rv w0) (h0.mono jb) (ls (rv (vi j5)) (rv (vi ((a0.length : Int)))) (nn ?_))))))
    refine W_cond _ (rv (vb (decide (j5 < (a0.length : Int))))) (fun jf => ?_) (fun jf => ?_)
    ·have hr := ite_t jf hr
     refine W_skip (then_n (W_seq (W_block (W_seq ?_))))
     obtain ⟨jg, jh, hr⟩ := bind_some hr
     obtain ⟨ji, jj, hr⟩ := bind_some hr
     refine W_draws mixed (by kernel_rfl) [PV.data (a0 : List Int), PV.eq (vi j5), PV.ptr (jg : Int), PV.eq (vi jg), PV.data (a1 : List Int), PV.eq (vi j5), PV.ptr (ji : Int), PV.eq (vi ji), PV.eq (vb (!decide (jg = ji)))] (Steps_cons ?_ (Steps_cons ?_ (Steps_cons ?_ (Steps_cons ?_ (Steps_cons ?_ (Steps_cons ?_ (Steps_cons ?_ (Steps_cons ?_ (Steps_cons ?_ Steps_nil))))))))) ?_
     ·intro jk jl jm jn jo Q jp; have jq : jk 0 = w0 := (jo 0 (by kernel_rfl)).trans jd; exact mv jq (fin jp (h0.mono (jb.trans jm.le)))
     ·intro jk jl jm jn jo Q jp; have jq : jk 5 = vi (j5) := (jo 5 (by kernel_rfl)).trans jc; exact mv jq (fin jp rfl)
     ·intro jk jl jm jn jo Q jp; have jq : V _ (jk 17) (a0 : List Int) := jn 0 17 (by kernel_rfl) (by kernel_rfl); obtain ⟨jr, js, jt⟩ : ∃ v, _ = v ∧ V _ v _ := ⟨_, rfl, jq⟩; have ju : jk 18 = vi (j5) := jn 1 18 (by kernel_rfl) (by kernel_rfl); exact ix Tryz.underlying38 ty3.inf js jt ju jh (fun jv jw => fin jp jw)
     ·intro jk jl jm jn jo Q jp; have jq : Ptr _ (jk 19) (jg : Int) := jn 2 19 (by kernel_rfl) (by kernel_rfl); obtain ⟨jr, js, jt⟩ : ∃ v, _ = v ∧ Ptr _ v _ := ⟨_, rfl, jq⟩; exact li ty3 js jt (fin jp rfl)
     ·intro jk jl jm jn jo Q jp; have jq : jk 1 = w1 := (jo 1 (by kernel_rfl)).trans je; exact mv jq (fin jp (h1.mono (jb.trans jm.le)))
     ·intro jk jl jm jn jo Q jp; have jq : jk 5 = vi (j5) := (jo 5 (by kernel_rfl)).trans jc; exact mv jq (fin jp rfl)
     ·intro jk jl jm jn jo Q jp; have jq : V _ (jk 21) (a1 : List Int) := jn 4 21 (by kernel_rfl) (by kernel_rfl); obtain ⟨jr, js, jt⟩ : ∃ v, _ = v ∧ V _ v _ := ⟨_, rfl, jq⟩; have ju : jk 22 = vi (j5) := jn 5 22 (by kernel_rfl) (by kernel_rfl); exact ix Tryz.underlying38 ty3.inf js jt ju jj (fun jv jw => fin jp jw)
     ·intro jk jl jm jn jo Q jp; have jq : Ptr _ (jk 23) (ji : Int) := jn 6 23 (by kernel_rfl) (by kernel_rfl); obtain ⟨jr, js, jt⟩ : ∃ v, _ = v ∧ Ptr _ v _ := ⟨_, rfl, jq⟩; exact li ty3 js jt (fin jp rfl)
     ·intro jk jl jm jn jo Q jp; have jq : jk 20 = vi (jg) := jn 3 20 (by kernel_rfl) (by kernel_rfl); have jr : jk 24 = vi (ji) := jn 7 24 (by kernel_rfl) (by kernel_rfl); exact ne jq jr (fin jp rfl)
     ·intro jk jl jm jn jo
      have jp := Tch.ext ja jm
      have jq : jk 0 = w0 := (jo 0 (by kernel_rfl)).trans jd
      have jr : jk 1 = w1 := (jo 1 (by kernel_rfl)).trans je
      have js : jk 5 = vi (j5) := (jo 5 (by kernel_rfl)).trans jc
      have jt : jk 25 = vb (!decide (jg = ji)) := jn 8 25 (by kernel_rfl)
      refine then_n ?_
      refine W_cond _ jt (fun ju => ?_) (fun ju => ?_)
      ·have hr := ite_t ju hr; refine sr (asg (rv (vb false)) (nn (W_ret (block_r (then_r (then_r (block_r ?_))))))); obtain rfl := Option.some.inj hr; have hr := j4; (try dsimp only at hr); refine then_r (then_r ?_); obtain rfl := Option.some.inj hr; exact done1 (Or.inl rfl) Tryz.results26 rfl ⟨_, _, rfl, rfl, jp, Vbool⟩
      ·have hr := ite_f ju hr; refine W_skip (block_n (then_n (W_region (mv js ?_)))); obtain ⟨jv, hr⟩ := chk_some hr; exact ad (rv (vi j5)) (rv (vi 1)) jv (asg (rv (vi (j5 + 1))) (nn ⟨j6, Nat.lt_succ_self _, ⟨jl, (j5 + 1), rfl, jp, (jb.trans jm.le), hr, rfl, jq, jr⟩⟩))
    ·have hr := ite_f jf hr; refine W_exit (then_x (then_x (block_here ?_))); exact then_n ⟨j9, rfl, ja, jb, Option.some.inj hr⟩
  ·rintro j5 j6 ⟨j7, rfl, j8, j9, j3⟩; subst j3; have hr := j4; (try dsimp only at hr); refine then_n (sr (asg (rv (vb true)) (nn (W_ret ?_)))); obtain rfl := Option.some.inj hr; exact done1 (Or.inl rfl) Tryz.results26 rfl ⟨_, _, rfl, rfl, j8, Vbool⟩

theorem law14_CheckLosses_ok (N : Nat) (s0 : St) (w0 : Value) (a0 : List Level) (h0 : V s0 w0 a0) (a1 : Int) (w2 : Value) (a2 : List Int) (h2 : V s0 w2 a2) (a3 : Int) (a4 : Int) (r : Bool) (hr : law14_CheckLosses N a0 a1 a2 a3 a4 = some r) :
    Calls Tryz.prog 5 #[w0, .int .i64 a1, w2, .int .i64 a3, .int .i64 a4] s0.w (Ret s0 fun v s => V s v r) := by
 unfold law14_CheckLosses at hr
 have j0 := Ext.refl s0
 refine Calls_of (n := 109) (args := [w0, .int .i64 a1, w2, .int .i64 a3, .int .i64 a4]) Tryz.func5 rfl rfl (by simp) (sr (asg (rv (vb false)) (nn (W_seq ?_))))
 obtain ⟨j1, j2, j3⟩ := bind_some hr
 refine W_seq_cut (fun f w => ∃ (s : St) (j4 : Bool), s.w = w ∧ Ext s0 s ∧ Le s0 s ∧ j4 = j1 ∧ f 42 = vb j4 ∧ f 0 = w0 ∧ f 1 = vi (a1) ∧ f 2 = w2 ∧ f 3 = vi (a3) ∧ f 4 = vi (a4)) ?_ ?_
 ·have hr := j2
  refine W_region (mv (rv w0) (ln Tryz.underlying37 (rv w0) h0 (L_gtr (rv (vi ((a0.length : Int)))) (rv (vi 10)) (by decide) (mv (rv (vb (decide (10 < (a0.length : Int))))) ?_))))
  rcases tf (decide (10 < (a0.length : Int))) with j5 | j5
  ·have hr := ite_t j5 hr; refine gf 22 (rv (vb (decide (10 < (a0.length : Int))))) j5 (gf 22 (rv (vb (decide (10 < (a0.length : Int))))) j5 (gf 22 (rv (vb (decide (10 < (a0.length : Int))))) j5 (pt (rv (vb (decide (10 < (a0.length : Int))))) j5 (rv (vb true)) (mv (rv (vb true)) (gf 27 (rv (vb true)) rfl (gf 27 (rv (vb true)) rfl (gf 27 (rv (vb true)) rfl (L_gu (e := 30) (by rfl) (rv (undef)) (by decide) (L_gu (e := 30) (by rfl) (rv (undef)) (by decide) (gf 27 (rv (vb true)) rfl (pt (rv (vb true)) rfl (rv (vb true)) (mv (rv (vb true)) (gf 35 (rv (vb true)) rfl ?_))))))))))))); exact gf 35 (rv (vb true)) rfl (gf 35 (rv (vb true)) rfl (L_gu (e := 38) (by rfl) (rv (undef)) (by decide) (L_gu (e := 38) (by rfl) (rv (undef)) (by decide) (gf 35 (rv (vb true)) rfl (pt (rv (vb true)) rfl (rv (vb true)) (nn ⟨s0, true, rfl, j0, (Le.refl _), Option.some.inj hr, rfl, rfl, rfl, rfl, rfl, rfl⟩))))))
  ·have hr := ite_f j5 hr
   refine gt 22 (rv (vb (decide (10 < (a0.length : Int))))) j5 (mv (rv w2) (gt 22 (rv (vb (decide (10 < (a0.length : Int))))) j5 (ln Tryz.underlying38 (rv w2) h2 (gt 22 (rv (vb (decide (10 < (a0.length : Int))))) j5 (L_gtr (rv (vi ((a2.length : Int)))) (rv (vi 10)) (by decide) (pf (rv (vb (decide (10 < (a0.length : Int))))) j5 (rv (vb (decide (10 < (a2.length : Int))))) (mv (rv (vb (decide (10 < (a2.length : Int))))) ?_)))))))
   rcases tf (decide (10 < (a2.length : Int))) with j6 | j6
   ·have hr := ite_t j6 hr; refine gf 27 (rv (vb (decide (10 < (a2.length : Int))))) j6 (gf 27 (rv (vb (decide (10 < (a2.length : Int))))) j6 (gf 27 (rv (vb (decide (10 < (a2.length : Int))))) j6 (L_gu (e := 30) (by rfl) (rv (undef)) (by decide) (L_gu (e := 30) (by rfl) (rv (undef)) (by decide) (gf 27 (rv (vb (decide (10 < (a2.length : Int))))) j6 (pt (rv (vb (decide (10 < (a2.length : Int))))) j6 (rv (vb true)) (mv (rv (vb true)) (gf 35 (rv (vb true)) rfl (gf 35 (rv (vb true)) rfl (gf 35 (rv (vb true)) rfl (L_gu (e := 38) (by rfl) (rv (undef)) (by decide) (L_gu (e := 38) (by rfl) (rv (undef)) (by decide) (gf 35 (rv (vb true)) rfl ?_))))))))))))); exact pt (rv (vb true)) rfl (rv (vb true)) (nn ⟨s0, true, rfl, j0, (Le.refl _), Option.some.inj hr, rfl, rfl, rfl, rfl, rfl, rfl⟩)
   ·have hr := ite_f j6 hr
    refine gt 27 (rv (vb (decide (10 < (a2.length : Int))))) j6 (mv (rv (vi a3)) (gt 27 (rv (vb (decide (10 < (a2.length : Int))))) j6 (L_gtr (rv (vi a3)) (rv (vi 60)) (by decide) (gt 27 (rv (vb (decide (10 < (a2.length : Int))))) j6 (mv (rv (vb (decide (60 < a3)))) ?_)))))
    rcases tf (decide (60 < a3)) with j7 | j7
    ·have hr := ite_t j7 hr
     refine gt 30 (rv (vb (decide (60 < a3)))) j7 (mv (rv (vi a3)) (gt 30 (rv (vb (decide (60 < a3)))) j7 (L_leq (rv (vi a3)) (rv (vi 4096)) (by decide) (gt 27 (rv (vb (decide (10 < (a2.length : Int))))) j6 (pt (rv (vb (decide (60 < a3)))) j7 (rv (vb (decide (a3 ≤ 4096)))) (pf (rv (vb (decide (10 < (a2.length : Int))))) j6 (rv (vb (decide (a3 ≤ 4096)))) (mv (rv (vb (decide (a3 ≤ 4096)))) ?_)))))))
     rcases tf (decide (a3 ≤ 4096)) with j8 | j8
     ·have hr := ite_t j8 hr; exact gf 35 (rv (vb (decide (a3 ≤ 4096)))) j8 (gf 35 (rv (vb (decide (a3 ≤ 4096)))) j8 (gf 35 (rv (vb (decide (a3 ≤ 4096)))) j8 (L_gu (e := 38) (by rfl) (rv (undef)) (by decide) (L_gu (e := 38) (by rfl) (rv (undef)) (by decide) (gf 35 (rv (vb (decide (a3 ≤ 4096)))) j8 (pt (rv (vb (decide (a3 ≤ 4096)))) j8 (rv (vb true)) (nn ⟨s0, true, rfl, j0, (Le.refl _), Option.some.inj hr, rfl, rfl, rfl, rfl, rfl, rfl⟩)))))))
     ·have hr := ite_f j8 hr
      refine gt 35 (rv (vb (decide (a3 ≤ 4096)))) j8 (mv (rv (vi a4)) (gt 35 (rv (vb (decide (a3 ≤ 4096)))) j8 (L_gtr (rv (vi a4)) (rv (vi 4)) (by decide) (gt 35 (rv (vb (decide (a3 ≤ 4096)))) j8 (mv (rv (vb (decide (4 < a4)))) ?_)))))
      rcases tf (decide (4 < a4)) with j9 | j9
      ·have hr := ite_t j9 hr; exact gt 38 (rv (vb (decide (4 < a4)))) j9 (mv (rv (vi a4)) (gt 38 (rv (vb (decide (4 < a4)))) j9 (L_leq (rv (vi a4)) (rv (vi 8)) (by decide) (gt 35 (rv (vb (decide (a3 ≤ 4096)))) j8 (pt (rv (vb (decide (4 < a4)))) j9 (rv (vb (decide (a4 ≤ 8)))) (pf (rv (vb (decide (a3 ≤ 4096)))) j8 (rv (vb (decide (a4 ≤ 8)))) (nn ⟨s0, (decide (a4 ≤ 8)), rfl, j0, (Le.refl _), Option.some.inj hr, rfl, rfl, rfl, rfl, rfl, rfl⟩)))))))
      ·have hr := ite_f j9 hr; exact gf 38 (rv (vb (decide (4 < a4)))) j9 (gf 38 (rv (vb (decide (4 < a4)))) j9 (gt 35 (rv (vb (decide (a3 ≤ 4096)))) j8 (pf (rv (vb (decide (4 < a4)))) j9 (rv (vb false)) (pf (rv (vb (decide (a3 ≤ 4096)))) j8 (rv (vb false)) (nn ⟨s0, false, rfl, j0, (Le.refl _), Option.some.inj hr, rfl, rfl, rfl, rfl, rfl, rfl⟩)))))
    ·have hr := ite_f j7 hr
     refine gf 30 (rv (vb (decide (60 < a3)))) j7 (gf 30 (rv (vb (decide (60 < a3)))) j7 (gt 27 (rv (vb (decide (10 < (a2.length : Int))))) j6 (pf (rv (vb (decide (60 < a3)))) j7 (rv (vb false)) (pf (rv (vb (decide (10 < (a2.length : Int))))) j6 (rv (vb false)) (mv (rv (vb false)) (gt 35 (rv (vb false)) rfl (mv (rv (vi a4)) (gt 35 (rv (vb false)) rfl (L_gtr (rv (vi a4)) (rv (vi 4)) (by decide) (gt 35 (rv (vb false)) rfl (mv (rv (vb (decide (4 < a4)))) ?_)))))))))))
     rcases tf (decide (4 < a4)) with j8 | j8
     ·have hr := ite_t j8 hr; exact gt 38 (rv (vb (decide (4 < a4)))) j8 (mv (rv (vi a4)) (gt 38 (rv (vb (decide (4 < a4)))) j8 (L_leq (rv (vi a4)) (rv (vi 8)) (by decide) (gt 35 (rv (vb false)) rfl (pt (rv (vb (decide (4 < a4)))) j8 (rv (vb (decide (a4 ≤ 8)))) (pf (rv (vb false)) rfl (rv (vb (decide (a4 ≤ 8)))) (nn ⟨s0, (decide (a4 ≤ 8)), rfl, j0, (Le.refl _), Option.some.inj hr, rfl, rfl, rfl, rfl, rfl, rfl⟩)))))))
     ·have hr := ite_f j8 hr; exact gf 38 (rv (vb (decide (4 < a4)))) j8 (gf 38 (rv (vb (decide (4 < a4)))) j8 (gt 35 (rv (vb false)) rfl (pf (rv (vb (decide (4 < a4)))) j8 (rv (vb false)) (pf (rv (vb false)) rfl (rv (vb false)) (nn ⟨s0, false, rfl, j0, (Le.refl _), Option.some.inj hr, rfl, rfl, rfl, rfl, rfl, rfl⟩)))))
 ·rintro j5 j6 ⟨j7, j4, rfl, j8, j9, j2, ja, jb, jc, jd, je, jf⟩
  subst j2
  have hr := j3
  try dsimp only at hr
  refine W_cond _ ja (fun jg => ?_) (fun jg => ?_)
  ·have hr := ite_t jg hr; refine sr ?_; obtain ⟨jh, ji, hr⟩ := bind_some hr; refine L_calls cal11 (args0) (law14_works_ok N _  jh ji) (by decide) (fun jj jk jl jm => ?_); have jn := Tch.ext j8 jl; obtain rfl := jm.bool; refine asg (rv (vb jh)) (nn (W_ret (then_r ?_))); obtain rfl := Option.some.inj hr; exact done1 (Or.inl rfl) Tryz.results5 rfl ⟨_, _, rfl, rfl, jn, Vbool⟩
  ·have hr := ite_f jg hr
   refine W_skip (then_n (sr (mv jb ?_)))
   obtain ⟨jh, ji, hr⟩ := bind_some hr
   refine L_calls cal22 (args1 (rv w0)) (law14_levels_ok N _ _ _ (h0.mono j9) jh ji) (by decide) (fun jj jk jl jm => ?_)
   have jn := Tch.ext j8 jl
   refine mv jc (mv jd ?_)
   obtain ⟨jo, jp, hr⟩ := bind_some hr
   refine L_calls cal21 (args3 (rv jj) (rv (vi a1)) (rv w2)) (check_Lose_ok N _ _ _ jm a1 _ _ (h2.mono (j9.trans jl.le)) jo jp) (by decide) (fun jq jr js jt => ?_)
   have ju := Tch.ext jn js
   obtain ⟨jv, jw, rfl, jx, jy⟩ := jt
   obtain rfl := jy.int
   refine mv (rv (Value.tuple #[jv, vi (jo.2)])) (xt (rv (Value.tuple #[jv, vi (jo.2)])) (k := 0) rfl (xt (rv (Value.tuple #[jv, vi (jo.2)])) (k := 1) rfl (L_alloc (α := Loss) (x := ⟨0, 0⟩) zero40 Loss.zero_rel (by decide) (fun jz k0 k1 k2 k3 => ?_))))
   have k4 := Tch.ext ju k1
   refine L_store_ro ty40 (rv (Value.pointer (some ⟨k0, 0, none⟩))) (rv jv) (jx.mono k1.le) (k3) (fun k5 k6 k7 => ?_)
   have k8 := Tch.trans k4 k6 (fun k hk => Or.inr (by subst hk; exact (Nat.le_trans ju.size k2)))
   refine asg (rv (vi (jo.2))) (nn (sr (mv jb (mv jc (mv jd ?_)))))
   obtain ⟨k9, ka, hr⟩ := bind_some hr
   refine L_calls cal23 (args3 (rv w0) (rv (vi a1)) (rv w2)) (ref14_Lose_ok N _ _ _ (h0.mono (j9.trans (jl.le.trans (js.le.trans (k1.le.trans k6.le))))) a1 _ _ (h2.mono (j9.trans (jl.le.trans (js.le.trans (k1.le.trans k6.le))))) k9 ka) (by decide) (fun kb kc kd ke => ?_)
   have kf := Tch.ext k8 kd
   obtain ⟨kg, kh, rfl, ki, kj⟩ := ke
   obtain rfl := kj.int
   refine mv (rv (Value.tuple #[kg, vi (k9.2)])) (xt (rv (Value.tuple #[kg, vi (k9.2)])) (k := 0) rfl (xt (rv (Value.tuple #[kg, vi (k9.2)])) (k := 1) rfl (L_alloc (α := Loss) (x := ⟨0, 0⟩) zero45 Loss.zero_rel (by decide) (fun kk kl km kn ko => ?_))))
   have kp := Tch.ext kf km
   refine L_store_ro ty45 (rv (Value.pointer (some ⟨kl, 0, none⟩))) (rv kg) (ki.mono km.le) (ko) (fun kq kr ks => ?_)
   have kt := Tch.trans kp kr (fun k hk => Or.inr (by subst hk; exact (Nat.le_trans kf.size kn)))
   refine asg (rv (vi (k9.2))) (nn (W_seq ?_))
   obtain ⟨ku, kv, kw⟩ := bind_some hr
   refine W_seq_cut (fun f w => ∃ (s : St) (kx : Bool), s.w = w ∧ Ext s0 s ∧ Le kq s ∧ kx = ku ∧ f 75 = vb kx ∧ f 0 = w0 ∧ f 3 = vi (a3) ∧ f 4 = vi (a4)) ?_ ?_
   ·have hr := kv
    refine W_region (fa fld40_0 Loss.of_Num (rv (Value.pointer (some ⟨k0, 0, none⟩))) (k7.mono (kd.le.trans (km.le.trans kr.le))) (fun ky kz => li ty3 (rv ky) kz (fa fld45_0 Loss.of_Num (rv (Value.pointer (some ⟨kl, 0, none⟩))) ks (fun g0 g1 => li ty3 (rv g0) g1 (ne (rv (vi (jo.1.Num))) (rv (vi (k9.1.Num))) (mv (rv (vb (!decide (jo.1.Num = k9.1.Num)))) ?_))))))
    rcases tf (!decide (jo.1.Num = k9.1.Num)) with g2 | g2
    ·have hr := ite_t g2 hr; exact gf 64 (rv (vb (!decide (jo.1.Num = k9.1.Num)))) g2 (gf 64 (rv (vb (!decide (jo.1.Num = k9.1.Num)))) g2 (gf 64 (rv (vb (!decide (jo.1.Num = k9.1.Num)))) g2 (gf 64 (rv (vb (!decide (jo.1.Num = k9.1.Num)))) g2 (gf 64 (rv (vb (!decide (jo.1.Num = k9.1.Num)))) g2 (pt (rv (vb (!decide (jo.1.Num = k9.1.Num)))) g2 (rv (vb true)) (mv (rv (vb true)) (gf 71 (rv (vb true)) rfl (gf 71 (rv (vb true)) rfl (gf 71 (rv (vb true)) rfl (pt (rv (vb true)) rfl (rv (vb true)) (nn ⟨kq, true, rfl, kt, (Le.refl _), Option.some.inj hr, rfl, jb, je, jf⟩)))))))))))
    ·have hr := ite_f g2 hr
     refine gt 64 (rv (vb (!decide (jo.1.Num = k9.1.Num)))) g2 (fa fld40_1 Loss.of_Den (rv (Value.pointer (some ⟨k0, 0, none⟩))) (k7.mono (kd.le.trans (km.le.trans kr.le))) (fun g3 g4 => gt 64 (rv (vb (!decide (jo.1.Num = k9.1.Num)))) g2 (li ty3 (rv g3) g4 (gt 64 (rv (vb (!decide (jo.1.Num = k9.1.Num)))) g2 (fa fld45_1 Loss.of_Den (rv (Value.pointer (some ⟨kl, 0, none⟩))) ks (fun g5 g6 => gt 64 (rv (vb (!decide (jo.1.Num = k9.1.Num)))) g2 (li ty3 (rv g5) g6 (gt 64 (rv (vb (!decide (jo.1.Num = k9.1.Num)))) g2 (ne (rv (vi (jo.1.Den))) (rv (vi (k9.1.Den))) (pf (rv (vb (!decide (jo.1.Num = k9.1.Num)))) g2 (rv (vb (!decide (jo.1.Den = k9.1.Den)))) (mv (rv (vb (!decide (jo.1.Den = k9.1.Den)))) ?_)))))))))))
     rcases tf (!decide (jo.1.Den = k9.1.Den)) with g7 | g7
     ·have hr := ite_t g7 hr; exact gf 71 (rv (vb (!decide (jo.1.Den = k9.1.Den)))) g7 (gf 71 (rv (vb (!decide (jo.1.Den = k9.1.Den)))) g7 (gf 71 (rv (vb (!decide (jo.1.Den = k9.1.Den)))) g7 (pt (rv (vb (!decide (jo.1.Den = k9.1.Den)))) g7 (rv (vb true)) (nn ⟨kq, true, rfl, kt, (Le.refl _), Option.some.inj hr, rfl, jb, je, jf⟩))))
     ·have hr := ite_f g7 hr; exact gt 71 (rv (vb (!decide (jo.1.Den = k9.1.Den)))) g7 (mv (rv (vi (jo.2))) (gt 71 (rv (vb (!decide (jo.1.Den = k9.1.Den)))) g7 (mv (rv (vi (k9.2))) (gt 71 (rv (vb (!decide (jo.1.Den = k9.1.Den)))) g7 (ne (rv (vi (jo.2))) (rv (vi (k9.2))) (pf (rv (vb (!decide (jo.1.Den = k9.1.Den)))) g7 (rv (vb (!decide (jo.2 = k9.2)))) (nn ⟨kq, (!decide (jo.2 = k9.2)), rfl, kt, (Le.refl _), Option.some.inj hr, rfl, jb, je, jf⟩)))))))
   ·rintro ky kz ⟨g0, kx, rfl, g1, g2, kv, g3, g4, g5, g6⟩
    subst kv
    have hr := kw
    try dsimp only at hr
    refine W_cond _ g3 (fun g7 => ?_) (fun g7 => ?_)
    ·have hr := ite_t g7 hr; refine sr (asg (rv (vb false)) (nn (W_ret (then_r ?_)))); obtain rfl := Option.some.inj hr; exact done1 (Or.inl rfl) Tryz.results5 rfl ⟨_, _, rfl, rfl, g1, Vbool⟩
    ·have hr := ite_f g7 hr
     refine W_skip (then_n (sr (mv g4 ?_)))
     obtain ⟨g8, g9, hr⟩ := bind_some hr
     refine L_calls cal22 (args1 (rv w0)) (law14_levels_ok N _ _ _ (h0.mono (j9.trans (jl.le.trans (js.le.trans (k1.le.trans (k6.le.trans (kd.le.trans (km.le.trans (kr.le.trans g2))))))))) g8 g9) (by decide) (fun ga gb gc gd => ?_)
     have gg := Tch.ext g1 gc
     refine mv g5 (mv g6 ?_)
     obtain ⟨gh, gi, hr⟩ := bind_some hr
     refine L_calls cal24 (args3 (rv ga) (rv (vi a3)) (rv (vi a4))) (check_Best_ok N _ _ _ gd a3 a4 gh gi) (by decide) (fun gj gk gl gm => ?_)
     have gn := Tch.ext gg gl
     obtain ⟨go, gp, gq, rfl, gr, gs, gu⟩ := gm
     obtain rfl := gr.int
     obtain rfl := gu.int
     refine mv (rv (Value.tuple #[vi (gh.1), gp, vi (gh.2.2)])) (xt (rv (Value.tuple #[vi (gh.1), gp, vi (gh.2.2)])) (k := 0) rfl (xt (rv (Value.tuple #[vi (gh.1), gp, vi (gh.2.2)])) (k := 1) rfl (xt (rv (Value.tuple #[vi (gh.1), gp, vi (gh.2.2)])) (k := 2) rfl (asg (rv (vi (gh.1))) (asg (rv gp) (asg (rv (vi (gh.2.2))) (nn (sr (mv g4 (mv g5 (mv g6 ?_)))))))))))
     obtain ⟨gv, gw, hr⟩ := bind_some hr
     refine L_calls cal25 (args3 (rv w0) (rv (vi a3)) (rv (vi a4))) (ref14_Best_ok N _ _ _ (h0.mono (j9.trans (jl.le.trans (js.le.trans (k1.le.trans (k6.le.trans (kd.le.trans (km.le.trans (kr.le.trans (g2.trans (gc.le.trans gl.le))))))))))) a3 a4 gv gw) (by decide) (fun gx gy gz u0 => ?_)
     have u1 := Tch.ext gn gz
     obtain ⟨u2, u3, u4, rfl, u5, u6, u7⟩ := u0
     obtain rfl := u5.int
     obtain rfl := u7.int
     refine mv (rv (Value.tuple #[vi (gv.1), u3, vi (gv.2.2)])) (xt (rv (Value.tuple #[vi (gv.1), u3, vi (gv.2.2)])) (k := 0) rfl (xt (rv (Value.tuple #[vi (gv.1), u3, vi (gv.2.2)])) (k := 1) rfl (xt (rv (Value.tuple #[vi (gv.1), u3, vi (gv.2.2)])) (k := 2) rfl (asg (rv (vi (gv.1))) (asg (rv u3) (asg (rv (vi (gv.2.2))) (nn (sr (mv (rv (vi (gh.1))) (mv (rv (vi (gv.1))) (el (rv (vi (gh.1))) (rv (vi (gv.1))) (mv (rv (vb (decide (gh.1 = gv.1)))) ?_))))))))))))
     rcases tf (decide (gh.1 = gv.1)) with u9 | u9
     ·have hr := ite_t u9 hr
      refine gt 96 (rv (vb (decide (gh.1 = gv.1)))) u9 (mv (rv gp) (gt 96 (rv (vb (decide (gh.1 = gv.1)))) u9 (mv (rv u3) (gt 96 (rv (vb (decide (gh.1 = gv.1)))) u9 ?_))))
      obtain ⟨ua, ub, hr⟩ := bind_some hr
      refine L_calls cal26 (args2 (rv gp) (rv u3)) (ref01_SameInts_ok N _ _ _ (gs.mono gz.le) _ _ u6 ua ub) (by decide) (fun uc ud ue uf => ?_)
      have ug := Tch.ext u1 ue
      obtain rfl := uf.bool
      refine pt (rv (vb (decide (gh.1 = gv.1)))) u9 (rv (vb ua)) (mv (rv (vb ua)) ?_)
      rcases tf (ua) with uh | uh
      ·have hr := ite_t uh hr
       refine gt 101 (rv (vb ua)) uh (mv (rv (vi (gh.2.2))) (gt 101 (rv (vb ua)) uh (mv (rv (vi (gv.2.2))) (gt 101 (rv (vb ua)) uh (el (rv (vi (gh.2.2))) (rv (vi (gv.2.2))) (pt (rv (vb ua)) uh (rv (vb (decide (gh.2.2 = gv.2.2)))) (mv (rv (vb (decide (gh.2.2 = gv.2.2)))) ?_)))))))
       rcases tf (decide (gh.2.2 = gv.2.2)) with ui | ui
       ·have hr := ite_t ui hr; refine gt 106 (rv (vb (decide (gh.2.2 = gv.2.2)))) ui ?_; obtain ⟨uj, uk, hr⟩ := bind_some hr; refine L_calls cal11 (args0) (law14_works_ok N _  uj uk) (by decide) (fun ul um un uo => ?_); have up := Tch.ext ug un; obtain rfl := uo.bool; refine pt (rv (vb (decide (gh.2.2 = gv.2.2)))) ui (rv (vb uj)) (asg (rv (vb uj)) (nn (W_ret ?_))); obtain rfl := Option.some.inj hr; exact done1 (Or.inl rfl) Tryz.results5 rfl ⟨_, _, rfl, rfl, up, Vbool⟩
       ·have hr := ite_f ui hr; refine gf 106 (rv (vb (decide (gh.2.2 = gv.2.2)))) ui (pf (rv (vb (decide (gh.2.2 = gv.2.2)))) ui (rv (vb false)) (asg (rv (vb false)) (nn (W_ret ?_)))); obtain rfl := Option.some.inj hr; exact done1 (Or.inl rfl) Tryz.results5 rfl ⟨_, _, rfl, rfl, ug, Vbool⟩
      ·have hr := ite_f uh hr; refine gf 101 (rv (vb ua)) uh (gf 101 (rv (vb ua)) uh (gf 101 (rv (vb ua)) uh (pf (rv (vb ua)) uh (rv (vb false)) (mv (rv (vb false)) (gf 106 (rv (vb false)) rfl (pf (rv (vb false)) rfl (rv (vb false)) (asg (rv (vb false)) (nn (W_ret ?_))))))))); obtain rfl := Option.some.inj hr; exact done1 (Or.inl rfl) Tryz.results5 rfl ⟨_, _, rfl, rfl, ug, Vbool⟩
     ·have hr := ite_f u9 hr; refine gf 96 (rv (vb (decide (gh.1 = gv.1)))) u9 (gf 96 (rv (vb (decide (gh.1 = gv.1)))) u9 (gf 96 (rv (vb (decide (gh.1 = gv.1)))) u9 (pf (rv (vb (decide (gh.1 = gv.1)))) u9 (rv (vb false)) (mv (rv (vb false)) (gf 101 (rv (vb false)) rfl (gf 101 (rv (vb false)) rfl (gf 101 (rv (vb false)) rfl (pf (rv (vb false)) rfl (rv (vb false)) (mv (rv (vb false)) (gf 106 (rv (vb false)) rfl (pf (rv (vb false)) rfl (rv (vb false)) (asg (rv (vb false)) (nn ?_))))))))))))); refine W_ret ?_; obtain rfl := Option.some.inj hr; exact done1 (Or.inl rfl) Tryz.results5 rfl ⟨_, _, rfl, rfl, u1, Vbool⟩

end Go.Arm
