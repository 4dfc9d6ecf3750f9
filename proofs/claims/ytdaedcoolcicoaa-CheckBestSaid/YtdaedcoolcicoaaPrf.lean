/- A part of the proof. -/
import Derived.Test.YtdaedcoolcicoaaPure
import Derived.Test.YtdaedcoolcicoaaCoreI
namespace Go.Arm
open Go Go.RowKit Go.Proofs
variable {σ : Type}
theorem slices_IndexFunc_Lcheck_Level_check_Level_ok (N : Nat) (s0 : St) (w0 : Value) (a0 : List Level) (h0 : V s0 w0 a0) (w1 : Value) (a1 : Level → Option Bool) (h1 : Fn1 Try.prog s0 w1 a1) (r : Int) (hr : slices_IndexFunc_Lcheck_Level_check_Level N a0 a1 = some r) :
    Calls Try.prog 90 #[w0, w1] s0.w (Ret s0 fun v s => V s v r) := by
 unfold slices_IndexFunc_Lcheck_Level_check_Level at hr
 have j0 := Ext.refl s0
 refine Calls_of (n := 19) (args := [w0, w1]) Try.func90 rfl rfl (by simp) (sr (asg (rv (vi 0)) (nn (W_seq (sr (mv (rv w0) (ln Try.underlying37 (rv w0) h0 (mv (rv (vi 0)) (nn ?_)))))))))
 obtain ⟨j1, j2, j3⟩ := bind_some hr
 refine W_cut (fun f w => ∃ (s : St), s.w = w ∧ Ext s0 s ∧ Le s0 s ∧ Sum.inl () = j1) ?_ ?_
 ·refine W_block (W_loop (fun m f w => ∃ (s : St) (j4 : Int), s.w = w ∧ Ext s0 s ∧ Le s0 s ∧ slices_IndexFunc_Lcheck_Level_check_Level_l1 N a0 a1 m j4 = some j1 ∧ f 8 = vi j4 ∧ f 0 = w0 ∧ f 1 = w1 ∧ f 7 = vi ((a0.length : Int))) N ⟨s0, 0, rfl, j0, (Le.refl _), j2, rfl, rfl, rfl, rfl⟩ ?_)
  rintro j5 j6 j7 ⟨j8, j4, rfl, j9, ja, hr, jb, jc, jd, je⟩
  cases j5 with
  | zero => exact absurd hr (by simp [slices_IndexFunc_Lcheck_Level_check_Level_l1])
  | succ j5 =>
   rw [slices_IndexFunc_Lcheck_Level_check_Level_l1.eq_2] at hr
   refine sr (ls jb je (nn (W_seq ?_)))
   refine W_cond _ (rv (vb (decide (j4 < (a0.length : Int))))) (fun jf => ?_) (fun jf => ?_)
   ·have hr := ite_t jf hr
    refine W_skip (then_n (W_seq (W_block (sr (mv jb (asg (rv (vi j4)) (nn (sr (mv jd (mv jc (mv (rv (vi j4)) ?_)))))))))))
    obtain ⟨jg, jh, hr⟩ := bind_some hr
    refine ix Try.underlying37 ty39.inf (rv w0) (h0.mono ja) (rv (vi j4)) jh (fun ji jj => ld ty39 (rv ji) jj (fun jk jl => ?_))
    obtain ⟨jm, jn, hr⟩ := bind_some hr
    refine L_call1 (rv w1) (h1.mono ja) (rv jk) jl jn (by decide) (fun jo jp jq jr => ?_)
    have js := Tch.ext j9 jq
    obtain rfl := jr.bool
    refine nn ?_
    refine W_cond _ (rv (vb jm)) (fun jt => ?_) (fun jt => ?_)
    ·have hr := ite_t jt hr; refine sr (mv (rv (vi j4)) (asg (rv (vi j4)) (nn (W_ret (block_r (then_r (then_r (block_r ?_)))))))); obtain rfl := Option.some.inj hr; have hr := j3; (try dsimp only at hr); refine then_r (then_r ?_); obtain rfl := Option.some.inj hr; exact done1 (Or.inl rfl) Try.results90 rfl ⟨_, _, rfl, rfl, js, Vint⟩
    ·have hr := ite_f jt hr; refine W_skip (block_n (then_n (W_region ?_))); obtain ⟨ju, hr⟩ := chk_some hr; exact ad jb (rv (vi 1)) ju (mv (rv (vi (j4 + 1))) (nn ⟨j5, Nat.lt_succ_self _, ⟨jp, (j4 + 1), rfl, js, (ja.trans jq.le), hr, rfl, jc, jd, je⟩⟩))
   ·have hr := ite_f jf hr; refine W_exit (then_x (then_x (block_here ?_))); exact then_n ⟨j8, rfl, j9, ja, Option.some.inj hr⟩
 ·rintro j4 j5 ⟨j6, rfl, j7, j8, j2⟩; subst j2; have hr := j3; (try dsimp only at hr); refine then_n (sr (asg (rv (vi (-1))) (nn (W_ret ?_)))); obtain rfl := Option.some.inj hr; exact done1 (Or.inl rfl) Try.results90 rfl ⟨_, _, rfl, rfl, j7, Vint⟩

theorem slices_ContainsFunc_Lcheck_Level_check_Level_ok (N : Nat) (s0 : St) (w0 : Value) (a0 : List Level) (h0 : V s0 w0 a0) (w1 : Value) (a1 : Level → Option Bool) (h1 : Fn1 Try.prog s0 w1 a1) (r : Bool) (hr : slices_ContainsFunc_Lcheck_Level_check_Level N a0 a1 = some r) :
    Calls Try.prog 74 #[w0, w1] s0.w (Ret s0 fun v s => V s v r) := by
 unfold slices_ContainsFunc_Lcheck_Level_check_Level at hr
 have j0 := Ext.refl s0
 refine Calls_of (n := 9) (args := [w0, w1]) Try.func74 rfl rfl (by simp) (sr (asg (rv (vb false)) (nn (sr (mv (rv w0) (mv (rv w1) ?_))))))
 obtain ⟨j1, j2, hr⟩ := bind_some hr
 refine L_calls cal90 (args2 (rv w0) (rv w1)) (slices_IndexFunc_Lcheck_Level_check_Level_ok N _ _ _ h0 _ a1 h1 j1 j2) (by decide) (fun j3 j4 j5 j6 => ?_)
 have j7 := Tch.ext j0 j5
 obtain rfl := j6.int
 refine L_geq (rv (vi j1)) (rv (vi 0)) (by decide) (asg (rv (vb (decide (0 ≤ j1)))) (nn (W_ret ?_)))
 obtain rfl := Option.some.inj hr
 exact done1 (Or.inl rfl) Try.results74 rfl ⟨_, _, rfl, rfl, j7, Vbool⟩

theorem check_levelled_1_ok (N : Nat) (s0 : St) (a0 : Int) (r : Bool) (hr : check_levelled_1 N a0 = some r) :
    Calls Try.prog 73 #[.int .i64 a0] s0.w (Ret s0 fun v s => V s v r) := by
 unfold check_levelled_1 at hr
 have j0 := Ext.refl s0
 refine Calls_of (n := 9) (args := [.int .i64 a0]) Try.func73 rfl rfl (by simp) (sr (asg (rv (vb false)) (nn (sr (mv (rv (vi a0)) (ls (rv (vi a0)) (rv (vi 1)) (mv (rv (vb (decide (a0 < 1)))) ?_)))))))
 rcases tf (decide (a0 < 1)) with j1 | j1
 ·have hr := ite_t j1 hr; refine gf 5 (rv (vb (decide (a0 < 1)))) j1 (gf 5 (rv (vb (decide (a0 < 1)))) j1 (pt (rv (vb (decide (a0 < 1)))) j1 (rv (vb true)) (asg (rv (vb true)) (nn (W_ret ?_))))); obtain rfl := Option.some.inj hr; exact done1 (Or.inl rfl) Try.results73 rfl ⟨_, _, rfl, rfl, j0, Vbool⟩
 ·have hr := ite_f j1 hr; refine gt 5 (rv (vb (decide (a0 < 1)))) j1 (mv (rv (vi a0)) (gt 5 (rv (vb (decide (a0 < 1)))) j1 (L_gtr (rv (vi a0)) (rv (vi 1024)) (by decide) (pf (rv (vb (decide (a0 < 1)))) j1 (rv (vb (decide (1024 < a0)))) (asg (rv (vb (decide (1024 < a0)))) (nn (W_ret ?_))))))); obtain rfl := Option.some.inj hr; exact done1 (Or.inl rfl) Try.results73 rfl ⟨_, _, rfl, rfl, j0, Vbool⟩

theorem check_levelled_2_ok (N : Nat) (s0 : St) (w0 : Value) (a0 : Level) (h0 : V s0 w0 a0) (w1 : Value) (h1 : CellRO s0 w1 (Value.func (.func 73) #[] #[])) (r : Bool) (hr : check_levelled_2 N a0 = some r) :
    Calls Try.prog 75 #[w0, w1] s0.w (Ret s0 fun v s => V s v r) := by
 unfold check_levelled_2 at hr
 have j0 := Ext.refl s0
 refine Calls_of (n := 14) (args := [w0, w1]) Try.func75 rfl rfl (by simp) (sr (L_box (rv w0) h0 (by decide) (fun j1 j2 j3 j4 => ?_)))
 have j5 := Tch.ext j0 j3
 refine asg (rv (vb false)) (nn (sr (L_load_cell Try.underlying106 rfl (rv w1) (h1.mono j3.le) (by decide) (fa fld39_0 Level.of_Cost (rv j2) j4 (fun j6 j7 => li ty3 (rv j6) j7 ?_)))))
 obtain ⟨j8, j9, hr⟩ := bind_some hr
 refine L_callv0 cal73 (rv (Value.func (.func 73) #[] #[])) (args1 (rv (vi (a0.Cost)))) (check_levelled_1_ok N _ a0.Cost j8 j9) (by decide) (fun ja jb jc jd => ?_)
 have je := Tch.ext j5 jc
 obtain rfl := jd.bool
 refine mv (rv (vb j8)) ?_
 rcases tf (j8) with jf | jf
 ·have hr := ite_t jf hr; refine gf 8 (rv (vb j8)) jf (gf 8 (rv (vb j8)) jf (gf 8 (rv (vb j8)) jf (gf 8 (rv (vb j8)) jf (pt (rv (vb j8)) jf (rv (vb true)) (asg (rv (vb true)) (nn (W_ret ?_))))))); obtain rfl := Option.some.inj hr; exact done1 (Or.inl rfl) Try.results75 rfl ⟨_, _, rfl, rfl, je, Vbool⟩
 ·have hr := ite_f jf hr; refine gt 8 (rv (vb j8)) jf (L_load_cell Try.underlying106 rfl (rv w1) (h1.mono (j3.le.trans jc.le)) (by decide) (gt 8 (rv (vb j8)) jf (fa fld39_1 Level.of_Mean (rv j2) (j4.mono jc.le) (fun jg jh => gt 8 (rv (vb j8)) jf (li ty3 (rv jg) jh (gt 8 (rv (vb j8)) jf ?_)))))); obtain ⟨ji, jj, hr⟩ := bind_some hr; refine L_callv0 cal73 (rv (Value.func (.func 73) #[] #[])) (args1 (rv (vi (a0.Mean)))) (check_levelled_1_ok N _ a0.Mean ji jj) (by decide) (fun jk jl jm jn => ?_); have jo := Tch.ext je jm; obtain rfl := jn.bool; refine pf (rv (vb j8)) jf (rv (vb ji)) (asg (rv (vb ji)) (nn (W_ret ?_))); obtain rfl := Option.some.inj hr; exact done1 (Or.inl rfl) Try.results75 rfl ⟨_, _, rfl, rfl, jo, Vbool⟩

theorem check_levelled_ok (N : Nat) (s0 : St) (w0 : Value) (a0 : List Level) (h0 : V s0 w0 a0) (r : Int) (hr : check_levelled N a0 = some r) :
    Calls Try.prog 45 #[w0] s0.w (Ret s0 fun v s => V s v r) := by
 unfold check_levelled at hr
 have j0 := Ext.refl s0
 refine Calls_of (n := 17) (args := [w0]) Try.func45 rfl rfl (by simp) (sr (asg (rv (vi 0)) (nn (sr (L_allocM zero106 (by decide) (fun j1 j2 j3 j4 j5 => ?_))))))
 have j6 := Tch.ext j0 j3
 refine L_store_cell (by kernel_rfl) (rv (Value.pointer (some ⟨j2, 0, none⟩))) (rv (Value.func (.func 73) #[] #[])) rfl rfl (j5) (fun j7 j8 j9 => ?_)
 have ja := Tch.trans j6 j8 (fun k hk => Or.inr (by subst hk; exact (Nat.le_trans j0.size j4)))
 refine nn (W_seq ?_)
 obtain ⟨jb, jc, jd⟩ := bind_some hr
 refine W_seq_cut (fun f w => ∃ (s : St) (je : Bool), s.w = w ∧ Ext s0 s ∧ Le j7 s ∧ je = jb ∧ f 16 = vb je) ?_ ?_
 ·have hr := jc
  refine W_region (mv (rv w0) (ln Try.underlying37 (rv w0) (h0.mono (j3.le.trans j8.le)) (ls (rv (vi ((a0.length : Int)))) (rv (vi 1)) (mv (rv (vb (decide ((a0.length : Int) < 1)))) ?_))))
  rcases tf (decide ((a0.length : Int) < 1)) with jf | jf
  ·have hr := ite_t jf hr; exact gf 7 (rv (vb (decide ((a0.length : Int) < 1)))) jf (gf 7 (rv (vb (decide ((a0.length : Int) < 1)))) jf (gf 7 (rv (vb (decide ((a0.length : Int) < 1)))) jf (pt (rv (vb (decide ((a0.length : Int) < 1)))) jf (rv (vb true)) (mv (rv (vb true)) (gf 12 (rv (vb true)) rfl (gf 12 (rv (vb true)) rfl (gf 12 (rv (vb true)) rfl (pt (rv (vb true)) rfl (rv (vb true)) (nn ⟨j7, true, rfl, ja, (Le.refl _), Option.some.inj hr, rfl⟩)))))))))
  ·have hr := ite_f jf hr
   refine gt 7 (rv (vb (decide ((a0.length : Int) < 1)))) jf (mv (rv w0) (gt 7 (rv (vb (decide ((a0.length : Int) < 1)))) jf (ln Try.underlying37 (rv w0) (h0.mono (j3.le.trans j8.le)) (gt 7 (rv (vb (decide ((a0.length : Int) < 1)))) jf (L_gtr (rv (vi ((a0.length : Int)))) (rv (vi 3)) (by decide) (pf (rv (vb (decide ((a0.length : Int) < 1)))) jf (rv (vb (decide (3 < (a0.length : Int))))) (mv (rv (vb (decide (3 < (a0.length : Int))))) ?_)))))))
   rcases tf (decide (3 < (a0.length : Int))) with jg | jg
   ·have hr := ite_t jg hr; exact gf 12 (rv (vb (decide (3 < (a0.length : Int))))) jg (gf 12 (rv (vb (decide (3 < (a0.length : Int))))) jg (gf 12 (rv (vb (decide (3 < (a0.length : Int))))) jg (pt (rv (vb (decide (3 < (a0.length : Int))))) jg (rv (vb true)) (nn ⟨j7, true, rfl, ja, (Le.refl _), Option.some.inj hr, rfl⟩))))
   ·have hr := ite_f jg hr; refine gt 12 (rv (vb (decide (3 < (a0.length : Int))))) jg (mv (rv w0) (gt 12 (rv (vb (decide (3 < (a0.length : Int))))) jg (L_makeFunc (args1 (rv (Value.pointer (some ⟨j2, 0, none⟩)))) (by decide) (gt 12 (rv (vb (decide (3 < (a0.length : Int))))) jg ?_)))); obtain ⟨jh, ji, hr⟩ := bind_some hr; refine L_calls cal74 (args2 (rv w0) (rv (Value.func (.func 75) #[] #[Value.pointer (some ⟨j2, 0, none⟩)]))) (slices_ContainsFunc_Lcheck_Level_check_Level_ok N _ _ _ (h0.mono (j3.le.trans j8.le)) _ (fun x => check_levelled_2 N x ) (Fn1.mk1 cal75 fun t vx x r hl hv hr => check_levelled_2_ok N t vx x hv _ ((j9).mono hl) r hr) jh ji) (by decide) (fun jj jk jl jm => ?_); have jn := Tch.ext ja jl; obtain rfl := jm.bool; exact pf (rv (vb (decide (3 < (a0.length : Int))))) jg (rv (vb jh)) (nn ⟨jk, jh, rfl, jn, jl.le, Option.some.inj hr, rfl⟩)
 ·rintro jf jg ⟨jh, je, rfl, ji, jj, jc, jk⟩
  subst jc
  have hr := jd
  try dsimp only at hr
  refine W_cond _ jk (fun jl => ?_) (fun jl => ?_)
  ·have hr := ite_t jl hr; refine sr (asg (rv (vi 3)) (nn (W_ret (then_r ?_)))); obtain rfl := Option.some.inj hr; exact done1 (Or.inl rfl) Try.results45 rfl ⟨_, _, rfl, rfl, ji, Vint⟩
  ·have hr := ite_f jl hr; refine W_skip (then_n (sr (asg (rv (vi 0)) (nn (W_ret ?_))))); obtain rfl := Option.some.inj hr; exact done1 (Or.inl rfl) Try.results45 rfl ⟨_, _, rfl, rfl, ji, Vint⟩

theorem slices_Clone_Lint_int_ok (N : Nat) (s0 : St) (w0 : Value) (a0 : List Int) (h0 : V s0 w0 a0) (r : (List Int)) (hr : slices_Clone_Lint_int N a0 = some r) :
    Calls Try.prog 53 #[w0] s0.w (Ret s0 fun v s => Bld s s0.w.heap.size 3 v r) := by
 unfold slices_Clone_Lint_int at hr
 have j0 := Ext.refl s0
 refine Calls_of (n := 8) (args := [w0]) Try.func53 rfl rfl (by simp) (sr (asg (rv (Value.slice none 0 0)) (nn (W_seq (sr (mv (rv w0) (L_eqNil Try.underlying40 (rv w0) h0 (by decide) (fun j1 j2 => nn ?_))))))))
 refine W_cond _ (rv (vb j1)) (fun j3 => ?_) (fun _ => ?_)
 ·obtain rfl := j2 j3; obtain ⟨_, hr⟩ := chk_some hr; refine sr (asg (rv (Value.slice none 0 0)) (nn (W_ret (then_r ?_)))); obtain rfl := Option.some.inj hr; exact done1 (Or.inl rfl) Try.results53 rfl ⟨_, _, rfl, rfl, j0, Bld.nil⟩
 ·refine W_skip (then_n (sr (L_buildSlice (xs := ([] : List Int)) Try.underlying40 tyz3 Parts_nil Vs.nil rfl (by decide) (by decide) (fun j4 j5 j6 j7 j8 => ?_)))); have j9 := Tch.ext j0 j6; refine mv (rv w0) ?_; obtain ⟨ja, hr⟩ := chk_some hr; refine L_append (xs := ([] : List Int)) (B := s0.w.heap.size) Try.underlying40 tyz3 (rv j5) (rv w0) ((j7.base j0.size)) (j9.size) (h0.mono j6.le) ja.1 ja.2 (by decide) (fun jb jc jd => ?_); have je := jd.tchM ((j7.base j0.size)) j9 (Nat.le_refl _); refine asg (rv jb) (nn (W_ret ?_)); obtain rfl := Option.some.inj hr; exact done1 (Or.inl rfl) Try.results53 rfl ⟨_, _, rfl, rfl, je, jd.bld⟩

theorem math_bits_Mul64_ok (N : Nat) (s0 : St) (a0 : U64) (a1 : U64) (r : U64 × U64) (hr : math_bits_Mul64 N a0 a1 = some r) :
    Calls Try.prog 78 #[.int .u64 a0.n, .int .u64 a1.n] s0.w (Ret s0 fun v s => ∃ a b, v = .tuple #[a, b] ∧ V s a r.1 ∧ V s b r.2) := by
 unfold math_bits_Mul64 at hr
 have j0 := Ext.refl s0
 refine Calls_of (n := 51) (args := [.int .u64 a0.n, .int .u64 a1.n]) Try.func78 rfl rfl (by simp) (sr (asg (rv (Value.int .u64 ((⟨0⟩ : U64)).n)) (asg (rv (Value.int .u64 ((⟨0⟩ : U64)).n)) (nn (sr (mv (rv (Value.int .u64 (a0).n)) (L_andK (rv (Value.int .u64 (a0).n)) (rv (Value.int .u64 ((⟨4294967295⟩ : U64)).n)) (by decide) (asg (rv (Value.int .u64 ((⟨andK .u64 a0.n (⟨4294967295⟩ : U64).n⟩ : U64)).n)) (nn (sr (mv (rv (Value.int .u64 (a0).n)) ?_)))))))))))
 obtain ⟨j1, hr⟩ := chk_some hr
 refine L_shrK (rv (Value.int .u64 (a0).n)) (rv (Value.int .u64 ((⟨32⟩ : U64)).n)) j1 (by decide) (asg (rv (Value.int .u64 ((⟨shrK .u64 a0.n (⟨32⟩ : U64).n⟩ : U64)).n)) (nn (sr (mv (rv (Value.int .u64 (a1).n)) (L_andK (rv (Value.int .u64 (a1).n)) (rv (Value.int .u64 ((⟨4294967295⟩ : U64)).n)) (by decide) (asg (rv (Value.int .u64 ((⟨andK .u64 a1.n (⟨4294967295⟩ : U64).n⟩ : U64)).n)) (nn (sr (mv (rv (Value.int .u64 (a1).n)) ?_)))))))))
 obtain ⟨j2, hr⟩ := chk_some hr
 refine L_shrK (rv (Value.int .u64 (a1).n)) (rv (Value.int .u64 ((⟨32⟩ : U64)).n)) j2 (by decide) (asg (rv (Value.int .u64 ((⟨shrK .u64 a1.n (⟨32⟩ : U64).n⟩ : U64)).n)) (nn (sr (mv (rv (Value.int .u64 ((⟨andK .u64 a0.n (⟨4294967295⟩ : U64).n⟩ : U64)).n)) (mv (rv (Value.int .u64 ((⟨andK .u64 a1.n (⟨4294967295⟩ : U64).n⟩ : U64)).n)) (L_mulK (rv (Value.int .u64 ((⟨andK .u64 a0.n (⟨4294967295⟩ : U64).n⟩ : U64)).n)) (rv (Value.int .u64 ((⟨andK .u64 a1.n (⟨4294967295⟩ : U64).n⟩ : U64)).n)) (by decide) (asg (rv (Value.int .u64 ((⟨mulK .u64 (⟨andK .u64 a0.n (⟨4294967295⟩ : U64).n⟩ : U64).n (⟨andK .u64 a1.n (⟨4294967295⟩ : U64).n⟩ : U64).n⟩ : U64)).n)) (nn (sr (mv (rv (Value.int .u64 ((⟨shrK .u64 a0.n (⟨32⟩ : U64).n⟩ : U64)).n)) (mv (rv (Value.int .u64 ((⟨andK .u64 a1.n (⟨4294967295⟩ : U64).n⟩ : U64)).n)) (L_mulK (rv (Value.int .u64 ((⟨shrK .u64 a0.n (⟨32⟩ : U64).n⟩ : U64)).n)) (rv (Value.int .u64 ((⟨andK .u64 a1.n (⟨4294967295⟩ : U64).n⟩ : U64)).n)) (by decide) (mv (rv (Value.int .u64 ((⟨mulK .u64 (⟨andK .u64 a0.n (⟨4294967295⟩ : U64).n⟩ : U64).n (⟨andK .u64 a1.n (⟨4294967295⟩ : U64).n⟩ : U64).n⟩ : U64)).n)) ?_)))))))))))))
 obtain ⟨j3, hr⟩ := chk_some hr
 refine L_shrK (rv (Value.int .u64 ((⟨mulK .u64 (⟨andK .u64 a0.n (⟨4294967295⟩ : U64).n⟩ : U64).n (⟨andK .u64 a1.n (⟨4294967295⟩ : U64).n⟩ : U64).n⟩ : U64)).n)) (rv (Value.int .u64 ((⟨32⟩ : U64)).n)) j3 (by decide) (L_addK (rv (Value.int .u64 ((⟨mulK .u64 (⟨shrK .u64 a0.n (⟨32⟩ : U64).n⟩ : U64).n (⟨andK .u64 a1.n (⟨4294967295⟩ : U64).n⟩ : U64).n⟩ : U64)).n)) (rfl : _ = Value.int .u64 ((⟨shrK .u64 (⟨mulK .u64 (⟨andK .u64 a0.n (⟨4294967295⟩ : U64).n⟩ : U64).n (⟨andK .u64 a1.n (⟨4294967295⟩ : U64).n⟩ : U64).n⟩ : U64).n (⟨32⟩ : U64).n⟩ : U64)).n) (by decide) (asg (rfl : _ = Value.int .u64 ((⟨addK .u64 (⟨mulK .u64 (⟨shrK .u64 a0.n (⟨32⟩ : U64).n⟩ : U64).n (⟨andK .u64 a1.n (⟨4294967295⟩ : U64).n⟩ : U64).n⟩ : U64).n (⟨shrK .u64 (⟨mulK .u64 (⟨andK .u64 a0.n (⟨4294967295⟩ : U64).n⟩ : U64).n (⟨andK .u64 a1.n (⟨4294967295⟩ : U64).n⟩ : U64).n⟩ : U64).n (⟨32⟩ : U64).n⟩ : U64).n⟩ : U64)).n) (nn (sr (mv (rfl : _ = Value.int .u64 ((⟨addK .u64 (⟨mulK .u64 (⟨shrK .u64 a0.n (⟨32⟩ : U64).n⟩ : U64).n (⟨andK .u64 a1.n (⟨4294967295⟩ : U64).n⟩ : U64).n⟩ : U64).n (⟨shrK .u64 (⟨mulK .u64 (⟨andK .u64 a0.n (⟨4294967295⟩ : U64).n⟩ : U64).n (⟨andK .u64 a1.n (⟨4294967295⟩ : U64).n⟩ : U64).n⟩ : U64).n (⟨32⟩ : U64).n⟩ : U64).n⟩ : U64)).n) (L_andK (rfl : _ = Value.int .u64 ((⟨addK .u64 (⟨mulK .u64 (⟨shrK .u64 a0.n (⟨32⟩ : U64).n⟩ : U64).n (⟨andK .u64 a1.n (⟨4294967295⟩ : U64).n⟩ : U64).n⟩ : U64).n (⟨shrK .u64 (⟨mulK .u64 (⟨andK .u64 a0.n (⟨4294967295⟩ : U64).n⟩ : U64).n (⟨andK .u64 a1.n (⟨4294967295⟩ : U64).n⟩ : U64).n⟩ : U64).n (⟨32⟩ : U64).n⟩ : U64).n⟩ : U64)).n) (rv (Value.int .u64 ((⟨4294967295⟩ : U64)).n)) (by decide) (asg (rfl : _ = Value.int .u64 ((⟨andK .u64 (⟨addK .u64 (⟨mulK .u64 (⟨shrK .u64 a0.n (⟨32⟩ : U64).n⟩ : U64).n (⟨andK .u64 a1.n (⟨4294967295⟩ : U64).n⟩ : U64).n⟩ : U64).n (⟨shrK .u64 (⟨mulK .u64 (⟨andK .u64 a0.n (⟨4294967295⟩ : U64).n⟩ : U64).n (⟨andK .u64 a1.n (⟨4294967295⟩ : U64).n⟩ : U64).n⟩ : U64).n (⟨32⟩ : U64).n⟩ : U64).n⟩ : U64).n (⟨4294967295⟩ : U64).n⟩ : U64)).n) (nn (sr (mv (rfl : _ = Value.int .u64 ((⟨addK .u64 (⟨mulK .u64 (⟨shrK .u64 a0.n (⟨32⟩ : U64).n⟩ : U64).n (⟨andK .u64 a1.n (⟨4294967295⟩ : U64).n⟩ : U64).n⟩ : U64).n (⟨shrK .u64 (⟨mulK .u64 (⟨andK .u64 a0.n (⟨4294967295⟩ : U64).n⟩ : U64).n (⟨andK .u64 a1.n (⟨4294967295⟩ : U64).n⟩ : U64).n⟩ : U64).n (⟨32⟩ : U64).n⟩ : U64).n⟩ : U64)).n) ?_))))))))))
 obtain ⟨j4, hr⟩ := chk_some hr
 refine L_shrK (rfl : _ = Value.int .u64 ((⟨addK .u64 (⟨mulK .u64 (⟨shrK .u64 a0.n (⟨32⟩ : U64).n⟩ : U64).n (⟨andK .u64 a1.n (⟨4294967295⟩ : U64).n⟩ : U64).n⟩ : U64).n (⟨shrK .u64 (⟨mulK .u64 (⟨andK .u64 a0.n (⟨4294967295⟩ : U64).n⟩ : U64).n (⟨andK .u64 a1.n (⟨4294967295⟩ : U64).n⟩ : U64).n⟩ : U64).n (⟨32⟩ : U64).n⟩ : U64).n⟩ : U64)).n) (rv (Value.int .u64 ((⟨32⟩ : U64)).n)) j4 (by decide) (asg (rfl : _ = Value.int .u64 ((⟨shrK .u64 (⟨addK .u64 (⟨mulK .u64 (⟨shrK .u64 a0.n (⟨32⟩ : U64).n⟩ : U64).n (⟨andK .u64 a1.n (⟨4294967295⟩ : U64).n⟩ : U64).n⟩ : U64).n (⟨shrK .u64 (⟨mulK .u64 (⟨andK .u64 a0.n (⟨4294967295⟩ : U64).n⟩ : U64).n (⟨andK .u64 a1.n (⟨4294967295⟩ : U64).n⟩ : U64).n⟩ : U64).n (⟨32⟩ : U64).n⟩ : U64).n⟩ : U64).n (⟨32⟩ : U64).n⟩ : U64)).n) (nn (sr (mv (rfl : _ = Value.int .u64 ((⟨andK .u64 (⟨addK .u64 (⟨mulK .u64 (⟨shrK .u64 a0.n (⟨32⟩ : U64).n⟩ : U64).n (⟨andK .u64 a1.n (⟨4294967295⟩ : U64).n⟩ : U64).n⟩ : U64).n (⟨shrK .u64 (⟨mulK .u64 (⟨andK .u64 a0.n (⟨4294967295⟩ : U64).n⟩ : U64).n (⟨andK .u64 a1.n (⟨4294967295⟩ : U64).n⟩ : U64).n⟩ : U64).n (⟨32⟩ : U64).n⟩ : U64).n⟩ : U64).n (⟨4294967295⟩ : U64).n⟩ : U64)).n) (mv (rv (Value.int .u64 ((⟨andK .u64 a0.n (⟨4294967295⟩ : U64).n⟩ : U64)).n)) (mv (rv (Value.int .u64 ((⟨shrK .u64 a1.n (⟨32⟩ : U64).n⟩ : U64)).n)) (L_mulK (rv (Value.int .u64 ((⟨andK .u64 a0.n (⟨4294967295⟩ : U64).n⟩ : U64)).n)) (rv (Value.int .u64 ((⟨shrK .u64 a1.n (⟨32⟩ : U64).n⟩ : U64)).n)) (by decide) (L_addK (rfl : _ = Value.int .u64 ((⟨andK .u64 (⟨addK .u64 (⟨mulK .u64 (⟨shrK .u64 a0.n (⟨32⟩ : U64).n⟩ : U64).n (⟨andK .u64 a1.n (⟨4294967295⟩ : U64).n⟩ : U64).n⟩ : U64).n (⟨shrK .u64 (⟨mulK .u64 (⟨andK .u64 a0.n (⟨4294967295⟩ : U64).n⟩ : U64).n (⟨andK .u64 a1.n (⟨4294967295⟩ : U64).n⟩ : U64).n⟩ : U64).n (⟨32⟩ : U64).n⟩ : U64).n⟩ : U64).n (⟨4294967295⟩ : U64).n⟩ : U64)).n) (rv (Value.int .u64 ((⟨mulK .u64 (⟨andK .u64 a0.n (⟨4294967295⟩ : U64).n⟩ : U64).n (⟨shrK .u64 a1.n (⟨32⟩ : U64).n⟩ : U64).n⟩ : U64)).n)) (by decide) (asg (rfl : _ = Value.int .u64 ((⟨addK .u64 (⟨andK .u64 (⟨addK .u64 (⟨mulK .u64 (⟨shrK .u64 a0.n (⟨32⟩ : U64).n⟩ : U64).n (⟨andK .u64 a1.n (⟨4294967295⟩ : U64).n⟩ : U64).n⟩ : U64).n (⟨shrK .u64 (⟨mulK .u64 (⟨andK .u64 a0.n (⟨4294967295⟩ : U64).n⟩ : U64).n (⟨andK .u64 a1.n (⟨4294967295⟩ : U64).n⟩ : U64).n⟩ : U64).n (⟨32⟩ : U64).n⟩ : U64).n⟩ : U64).n (⟨4294967295⟩ : U64).n⟩ : U64).n (⟨mulK .u64 (⟨andK .u64 a0.n (⟨4294967295⟩ : U64).n⟩ : U64).n (⟨shrK .u64 a1.n (⟨32⟩ : U64).n⟩ : U64).n⟩ : U64).n⟩ : U64)).n) (nn (sr (mv (rv (Value.int .u64 ((⟨shrK .u64 a0.n (⟨32⟩ : U64).n⟩ : U64)).n)) (mv (rv (Value.int .u64 ((⟨shrK .u64 a1.n (⟨32⟩ : U64).n⟩ : U64)).n)) ?_)))))))))))))
 refine L_mulK (rv (Value.int .u64 ((⟨shrK .u64 a0.n (⟨32⟩ : U64).n⟩ : U64)).n)) (rv (Value.int .u64 ((⟨shrK .u64 a1.n (⟨32⟩ : U64).n⟩ : U64)).n)) (by decide) (mv (rfl : _ = Value.int .u64 ((⟨shrK .u64 (⟨addK .u64 (⟨mulK .u64 (⟨shrK .u64 a0.n (⟨32⟩ : U64).n⟩ : U64).n (⟨andK .u64 a1.n (⟨4294967295⟩ : U64).n⟩ : U64).n⟩ : U64).n (⟨shrK .u64 (⟨mulK .u64 (⟨andK .u64 a0.n (⟨4294967295⟩ : U64).n⟩ : U64).n (⟨andK .u64 a1.n (⟨4294967295⟩ : U64).n⟩ : U64).n⟩ : U64).n (⟨32⟩ : U64).n⟩ : U64).n⟩ : U64).n (⟨32⟩ : U64).n⟩ : U64)).n) (L_addK (rv (Value.int .u64 ((⟨mulK .u64 (⟨shrK .u64 a0.n (⟨32⟩ : U64).n⟩ : U64).n (⟨shrK .u64 a1.n (⟨32⟩ : U64).n⟩ : U64).n⟩ : U64)).n)) (rfl : _ = Value.int .u64 ((⟨shrK .u64 (⟨addK .u64 (⟨mulK .u64 (⟨shrK .u64 a0.n (⟨32⟩ : U64).n⟩ : U64).n (⟨andK .u64 a1.n (⟨4294967295⟩ : U64).n⟩ : U64).n⟩ : U64).n (⟨shrK .u64 (⟨mulK .u64 (⟨andK .u64 a0.n (⟨4294967295⟩ : U64).n⟩ : U64).n (⟨andK .u64 a1.n (⟨4294967295⟩ : U64).n⟩ : U64).n⟩ : U64).n (⟨32⟩ : U64).n⟩ : U64).n⟩ : U64).n (⟨32⟩ : U64).n⟩ : U64)).n) (by decide) (mv (rfl : _ = Value.int .u64 ((⟨addK .u64 (⟨andK .u64 (⟨addK .u64 (⟨mulK .u64 (⟨shrK .u64 a0.n (⟨32⟩ : U64).n⟩ : U64).n (⟨andK .u64 a1.n (⟨4294967295⟩ : U64).n⟩ : U64).n⟩ : U64).n (⟨shrK .u64 (⟨mulK .u64 (⟨andK .u64 a0.n (⟨4294967295⟩ : U64).n⟩ : U64).n (⟨andK .u64 a1.n (⟨4294967295⟩ : U64).n⟩ : U64).n⟩ : U64).n (⟨32⟩ : U64).n⟩ : U64).n⟩ : U64).n (⟨4294967295⟩ : U64).n⟩ : U64).n (⟨mulK .u64 (⟨andK .u64 a0.n (⟨4294967295⟩ : U64).n⟩ : U64).n (⟨shrK .u64 a1.n (⟨32⟩ : U64).n⟩ : U64).n⟩ : U64).n⟩ : U64)).n) ?_)))
 obtain ⟨j5, hr⟩ := chk_some hr
 refine L_shrK (rfl : _ = Value.int .u64 ((⟨addK .u64 (⟨andK .u64 (⟨addK .u64 (⟨mulK .u64 (⟨shrK .u64 a0.n (⟨32⟩ : U64).n⟩ : U64).n (⟨andK .u64 a1.n (⟨4294967295⟩ : U64).n⟩ : U64).n⟩ : U64).n (⟨shrK .u64 (⟨mulK .u64 (⟨andK .u64 a0.n (⟨4294967295⟩ : U64).n⟩ : U64).n (⟨andK .u64 a1.n (⟨4294967295⟩ : U64).n⟩ : U64).n⟩ : U64).n (⟨32⟩ : U64).n⟩ : U64).n⟩ : U64).n (⟨4294967295⟩ : U64).n⟩ : U64).n (⟨mulK .u64 (⟨andK .u64 a0.n (⟨4294967295⟩ : U64).n⟩ : U64).n (⟨shrK .u64 a1.n (⟨32⟩ : U64).n⟩ : U64).n⟩ : U64).n⟩ : U64)).n) (rv (Value.int .u64 ((⟨32⟩ : U64)).n)) j5 (by decide) (L_addK (rfl : _ = Value.int .u64 ((⟨addK .u64 (⟨mulK .u64 (⟨shrK .u64 a0.n (⟨32⟩ : U64).n⟩ : U64).n (⟨shrK .u64 a1.n (⟨32⟩ : U64).n⟩ : U64).n⟩ : U64).n (⟨shrK .u64 (⟨addK .u64 (⟨mulK .u64 (⟨shrK .u64 a0.n (⟨32⟩ : U64).n⟩ : U64).n (⟨andK .u64 a1.n (⟨4294967295⟩ : U64).n⟩ : U64).n⟩ : U64).n (⟨shrK .u64 (⟨mulK .u64 (⟨andK .u64 a0.n (⟨4294967295⟩ : U64).n⟩ : U64).n (⟨andK .u64 a1.n (⟨4294967295⟩ : U64).n⟩ : U64).n⟩ : U64).n (⟨32⟩ : U64).n⟩ : U64).n⟩ : U64).n (⟨32⟩ : U64).n⟩ : U64).n⟩ : U64)).n) (rfl : _ = Value.int .u64 ((⟨shrK .u64 (⟨addK .u64 (⟨andK .u64 (⟨addK .u64 (⟨mulK .u64 (⟨shrK .u64 a0.n (⟨32⟩ : U64).n⟩ : U64).n (⟨andK .u64 a1.n (⟨4294967295⟩ : U64).n⟩ : U64).n⟩ : U64).n (⟨shrK .u64 (⟨mulK .u64 (⟨andK .u64 a0.n (⟨4294967295⟩ : U64).n⟩ : U64).n (⟨andK .u64 a1.n (⟨4294967295⟩ : U64).n⟩ : U64).n⟩ : U64).n (⟨32⟩ : U64).n⟩ : U64).n⟩ : U64).n (⟨4294967295⟩ : U64).n⟩ : U64).n (⟨mulK .u64 (⟨andK .u64 a0.n (⟨4294967295⟩ : U64).n⟩ : U64).n (⟨shrK .u64 a1.n (⟨32⟩ : U64).n⟩ : U64).n⟩ : U64).n⟩ : U64).n (⟨32⟩ : U64).n⟩ : U64)).n) (by decide) (asg (rfl : _ = Value.int .u64 ((⟨addK .u64 (⟨addK .u64 (⟨mulK .u64 (⟨shrK .u64 a0.n (⟨32⟩ : U64).n⟩ : U64).n (⟨shrK .u64 a1.n (⟨32⟩ : U64).n⟩ : U64).n⟩ : U64).n (⟨shrK .u64 (⟨addK .u64 (⟨mulK .u64 (⟨shrK .u64 a0.n (⟨32⟩ : U64).n⟩ : U64).n (⟨andK .u64 a1.n (⟨4294967295⟩ : U64).n⟩ : U64).n⟩ : U64).n (⟨shrK .u64 (⟨mulK .u64 (⟨andK .u64 a0.n (⟨4294967295⟩ : U64).n⟩ : U64).n (⟨andK .u64 a1.n (⟨4294967295⟩ : U64).n⟩ : U64).n⟩ : U64).n (⟨32⟩ : U64).n⟩ : U64).n⟩ : U64).n (⟨32⟩ : U64).n⟩ : U64).n⟩ : U64).n (⟨shrK .u64 (⟨addK .u64 (⟨andK .u64 (⟨addK .u64 (⟨mulK .u64 (⟨shrK .u64 a0.n (⟨32⟩ : U64).n⟩ : U64).n (⟨andK .u64 a1.n (⟨4294967295⟩ : U64).n⟩ : U64).n⟩ : U64).n (⟨shrK .u64 (⟨mulK .u64 (⟨andK .u64 a0.n (⟨4294967295⟩ : U64).n⟩ : U64).n (⟨andK .u64 a1.n (⟨4294967295⟩ : U64).n⟩ : U64).n⟩ : U64).n (⟨32⟩ : U64).n⟩ : U64).n⟩ : U64).n (⟨4294967295⟩ : U64).n⟩ : U64).n (⟨mulK .u64 (⟨andK .u64 a0.n (⟨4294967295⟩ : U64).n⟩ : U64).n (⟨shrK .u64 a1.n (⟨32⟩ : U64).n⟩ : U64).n⟩ : U64).n⟩ : U64).n (⟨32⟩ : U64).n⟩ : U64).n⟩ : U64)).n) (nn (sr (mv (rv (Value.int .u64 (a0).n)) (mv (rv (Value.int .u64 (a1).n)) (L_mulK (rv (Value.int .u64 (a0).n)) (rv (Value.int .u64 (a1).n)) (by decide) (asg (rv (Value.int .u64 ((⟨mulK .u64 a0.n a1.n⟩ : U64)).n)) (nn (W_ret ?_))))))))))
 obtain rfl := Option.some.inj hr
 exact done2 (Or.inl rfl) Try.results78 rfl rfl ⟨_, _, rfl, rfl, j0, _, _, rfl, Vu64, Vu64⟩

theorem math_bits_Mul_ok (N : Nat) (s0 : St) (a0 : U64) (a1 : U64) (r : U64 × U64) (hr : math_bits_Mul N a0 a1 = some r) :
    Calls Try.prog 87 #[.int .u64 a0.n, .int .u64 a1.n] s0.w (Ret s0 fun v s => ∃ a b, v = .tuple #[a, b] ∧ V s a r.1 ∧ V s b r.2) := by
 unfold math_bits_Mul at hr
 have j0 := Ext.refl s0
 refine Calls_of (n := 30) (args := [.int .u64 a0.n, .int .u64 a1.n]) Try.func87 rfl rfl (by simp) (sr (asg (rv (Value.int .u64 ((⟨0⟩ : U64)).n)) (asg (rv (Value.int .u64 ((⟨0⟩ : U64)).n)) (nn (W_seq ?_)))))
 refine W_cond _ (rv (vb false)) (fun h => absurd (h.symm.trans rfl) (by decide)) (fun _ => ?_)
 refine W_skip (then_n (sr (mv (rv (Value.int .u64 (a0).n)) (mv (rv (Value.int .u64 (a1).n)) ?_))))
 obtain ⟨j1, j2, hr⟩ := bind_some hr
 refine L_calls cal78 (args2 (rv (Value.int .u64 (a0).n)) (rv (Value.int .u64 (a1).n))) (math_bits_Mul64_ok N _ a0 a1 j1 j2) (by decide) (fun j3 j4 j5 j6 => ?_)
 have j7 := Tch.ext j0 j5
 obtain ⟨j8, j9, rfl, ja, jb⟩ := j6
 obtain rfl := ja.u64
 obtain rfl := jb.u64
 refine mv (rv (Value.tuple #[Value.int .u64 (j1.1).n, Value.int .u64 (j1.2).n])) (xt (rv (Value.tuple #[Value.int .u64 (j1.1).n, Value.int .u64 (j1.2).n])) (k := 0) rfl (xt (rv (Value.tuple #[Value.int .u64 (j1.1).n, Value.int .u64 (j1.2).n])) (k := 1) rfl (asg (rv (Value.int .u64 (j1.1).n)) (asg (rv (Value.int .u64 (j1.2).n)) (nn (sr (mv (rv (Value.int .u64 (j1.1).n)) (mv (rv (Value.int .u64 (j1.2).n)) (asg (rv (Value.int .u64 (j1.1).n)) (asg (rv (Value.int .u64 (j1.2).n)) (nn (W_ret ?_))))))))))))
 obtain rfl := Option.some.inj hr
 exact done2 (Or.inl rfl) Try.results87 rfl rfl ⟨_, _, rfl, rfl, j7, _, _, rfl, Vu64, Vu64⟩

theorem slices_Repeat_Lint_int_ok (N : Nat) (s0 : St) (w0 : Value) (a0 : List Int) (h0 : V s0 w0 a0) (a1 : Int) (r : (List Int)) (hr : slices_Repeat_Lint_int N a0 a1 = some r) :
    Calls Try.prog 76 #[w0, .int .i64 a1] s0.w (Ret s0 fun v s => ArrR s0.w.heap.size 3 s v r) := by
 unfold slices_Repeat_Lint_int at hr
 have j0 := Ext.refl s0
 refine Calls_of (n := 48) (args := [w0, .int .i64 a1]) Try.func76 rfl rfl (by simp) (sr (asg (rv (Value.slice none 0 0)) (nn (W_seq (sr (mv (rv (vi a1)) (ls (rv (vi a1)) (rv (vi 0)) (nn ?_))))))))
 refine W_cond _ (rv (vb (decide (a1 < 0)))) (fun j1 => ?_) (fun j1 => ?_)
 ·have hr := ite_t j1 hr
  refine W_region ?_
  cases hr
 ·have hr := ite_f j1 hr
  refine W_skip (then_n (sr (mv (rv w0) (ln Try.underlying40 (rv w0) h0 (L_convK Try.underlying3 Try.underlying96 (rv (vi ((a0.length : Int)))) (by decide) (mv (rv (vi a1)) (L_convK Try.underlying3 Try.underlying96 (rv (vi a1)) (by decide) ?_)))))))
  obtain ⟨j2, j3, hr⟩ := bind_some hr
  refine L_calls cal87 (args2 (rv (Value.int .u64 ((⟨convK .u64 (a0.length : Int)⟩ : U64)).n)) (rv (Value.int .u64 ((⟨convK .u64 a1⟩ : U64)).n))) (math_bits_Mul_ok N _ (⟨convK .u64 (a0.length : Int)⟩ : U64) (⟨convK .u64 a1⟩ : U64) j2 j3) (by decide) (fun j4 j5 j6 j7 => ?_)
  have j8 := Tch.ext j0 j6
  obtain ⟨j9, ja, rfl, jb, jc⟩ := j7
  obtain rfl := jb.u64
  obtain rfl := jc.u64
  refine mv (rv (Value.tuple #[Value.int .u64 (j2.1).n, Value.int .u64 (j2.2).n])) (xt (rv (Value.tuple #[Value.int .u64 (j2.1).n, Value.int .u64 (j2.2).n])) (k := 0) rfl (xt (rv (Value.tuple #[Value.int .u64 (j2.1).n, Value.int .u64 (j2.2).n])) (k := 1) rfl (asg (rv (Value.int .u64 (j2.1).n)) (asg (rv (Value.int .u64 (j2.2).n)) (nn (W_seq ?_))))))
  obtain ⟨jd, je, jf⟩ := bind_some hr
  refine W_seq_cut (fun f w => ∃ (s : St) (jg : Bool), s.w = w ∧ Ext s0 s ∧ Le j5 s ∧ jg = jd ∧ f 26 = vb jg ∧ f 0 = w0 ∧ f 6 = Value.int .u64 (j2.2).n) ?_ ?_
  ·have hr := je
   refine W_region (mv (rv (Value.int .u64 (j2.1).n)) (L_gtr (rv (Value.int .u64 (j2.1).n)) (rv (Value.int .u64 ((⟨0⟩ : U64)).n)) (by decide) (mv (rv (vb (decide ((⟨0⟩ : U64).n < j2.1.n)))) ?_)))
   rcases tf (decide ((⟨0⟩ : U64).n < j2.1.n)) with jh | jh
   ·have hr := ite_t jh hr; exact gf 23 (rv (vb (decide ((⟨0⟩ : U64).n < j2.1.n)))) jh (gf 23 (rv (vb (decide ((⟨0⟩ : U64).n < j2.1.n)))) jh (pt (rv (vb (decide ((⟨0⟩ : U64).n < j2.1.n)))) jh (rv (vb true)) (nn ⟨j5, true, rfl, j8, (Le.refl _), Option.some.inj hr, rfl, rfl, rfl⟩)))
   ·have hr := ite_f jh hr; exact gt 23 (rv (vb (decide ((⟨0⟩ : U64).n < j2.1.n)))) jh (mv (rv (Value.int .u64 (j2.2).n)) (gt 23 (rv (vb (decide ((⟨0⟩ : U64).n < j2.1.n)))) jh (L_gtr (rv (Value.int .u64 (j2.2).n)) (rv (Value.int .u64 ((⟨9223372036854775807⟩ : U64)).n)) (by decide) (pf (rv (vb (decide ((⟨0⟩ : U64).n < j2.1.n)))) jh (rv (vb (decide ((⟨9223372036854775807⟩ : U64).n < j2.2.n)))) (nn ⟨j5, (decide ((⟨9223372036854775807⟩ : U64).n < j2.2.n)), rfl, j8, (Le.refl _), Option.some.inj hr, rfl, rfl, rfl⟩)))))
  ·rintro jh ji ⟨jj, jg, rfl, jk, jl, je, jm, jn, jo⟩
   subst je
   have hr := jf
   try dsimp only at hr
   refine W_cond _ jm (fun jp => ?_) (fun jp => ?_)
   ·have hr := ite_t jp hr
    refine W_region ?_
    cases hr
   ·have hr := ite_f jp hr
    refine W_skip (then_n (sr (mv jo (L_convK Try.underlying96 Try.underlying3 (rv (Value.int .u64 (j2.2).n)) (by decide) ?_))))
    obtain ⟨jq, hr⟩ := chk_some hr
    refine L_makeArr (x0 := (0 : Int)) Try.underlying40 tyz3 (rv (vi (convK .i64 j2.2.n))) jq.1 jq.2.1 jq.2.2 (fun _ => rfl) (by decide) (fun jr js jt ju jv => ?_)
    have jw := Tch.ext jk jt
    refine asg (rv (Value.slice (some ⟨js, 0, none⟩) (convK .i64 j2.2.n).toNat (convK .i64 j2.2.n).toNat)) (nn (sr (mv (rv (Value.slice (some ⟨js, 0, none⟩) (convK .i64 j2.2.n).toNat (convK .i64 j2.2.n).toNat)) (mv jn (L_copyA (xs := (List.replicate (convK .i64 j2.2.n).toNat (0 : Int))) flat3 Try.underlying40 ty3.inf (rv (Value.slice (some ⟨js, 0, none⟩) (convK .i64 j2.2.n).toNat (convK .i64 j2.2.n).toNat)) (jv) (rv w0) (h0.mono (j6.le.trans (jl.trans jt.le))) (by decide) (fun jx jy jz => ?_))))))
    have k0 := Tch.trans jw jy (fun k hk => Or.inr (by subst hk; exact (Nat.le_trans jk.size ju)))
    refine asg (rfl : _ = vi (((min a0.length ((convK .i64 j2.2.n).toNat) : Nat) : Int))) (nn (W_seq ?_))
    obtain ⟨k1, k2, k3⟩ := bind_some hr
    refine W_cut (fun f w => ∃ (s : St) (k4 : List Int), s.w = w ∧ Ext s0 s ∧ Le jx s ∧ k4 = k1 ∧ f 7 = Value.slice (some ⟨js, 0, none⟩) (convK .i64 j2.2.n).toNat (convK .i64 j2.2.n).toNat ∧ Arr s js 3 (convK .i64 j2.2.n).toNat k4) ?_ ?_
    ·refine W_block (W_loop (fun m f w => ∃ (s : St) (k5 : Int) (k6 : List Int), s.w = w ∧ Ext s0 s ∧ Le jx s ∧ slices_Repeat_Lint_int_l1 N j2 m k5 k6 = some k1 ∧ f 8 = vi k5 ∧ f 7 = Value.slice (some ⟨js, 0, none⟩) (convK .i64 j2.2.n).toNat (convK .i64 j2.2.n).toNat ∧ Arr s js 3 (convK .i64 j2.2.n).toNat k6) N ⟨jx, ((min a0.length ((convK .i64 j2.2.n).toNat) : Nat) : Int), (cpy (List.replicate (convK .i64 j2.2.n).toNat (0 : Int)) 0 a0), rfl, k0, (Le.refl _), k2, rfl, rfl, jz⟩ ?_)
     rintro k7 k8 k9 ⟨ka, k5, k6, rfl, kb, kc, hr, kd, ke, kf⟩
     cases k7 with
     | zero => exact absurd hr (by simp [slices_Repeat_Lint_int_l1])
     | succ k7 =>
      rw [slices_Repeat_Lint_int_l1.eq_2] at hr
      refine W_seq (sr (mv kd (mv ke (L_lenA Try.underlying40 (rv (Value.slice (some ⟨js, 0, none⟩) (convK .i64 j2.2.n).toNat (convK .i64 j2.2.n).toNat)) (by decide) (ls (rv (vi k5)) (rv (vi ((((convK .i64 j2.2.n).toNat : Nat) : Int)))) (nn ?_))))))
      refine W_cond _ (rfl : _ = vb (decide (k5 < (((convK .i64 j2.2.n).toNat : Nat) : Int)))) (fun kg => ?_) (fun kg => ?_)
      ·have hr := ite_t kg hr
       refine W_skip (then_n (W_block ?_))
       obtain ⟨kh, hr⟩ := chk_some hr
       obtain ⟨ki, kj, hr⟩ := bind_some hr
       obtain ⟨kk, hr⟩ := chk_some hr
       refine W_drawO mixed 10 [PX.eq (vi k5), PX.eq (Value.slice (some ⟨js, 0, none⟩) (convK .i64 j2.2.n).toNat (convK .i64 j2.2.n).toNat), PX.eq (vi k5), PX.eq ((endV js ((convK .i64 j2.2.n).toNat) 1 (k5).toNat)), PX.eq (Value.slice (some ⟨js, 0, none⟩) (convK .i64 j2.2.n).toNat (convK .i64 j2.2.n).toNat), PX.eq (vi k5), PX.eq ((cutV js (convK .i64 j2.2.n).toNat 1 (k5))), PX.pin (vi (((min ki.length (((convK .i64 j2.2.n).toNat) - (k5).toNat) : Nat) : Int))) js 3 ((convK .i64 j2.2.n).toNat) (cpy k6 (k5).toNat ki : List Int), PX.eq (vi (k5 + ((min ki.length (((convK .i64 j2.2.n).toNat) - (k5).toNat) : Nat) : Int))), PX.eq (vi (k5 + ((min ki.length (((convK .i64 j2.2.n).toNat) - (k5).toNat) : Nat) : Int))), PX.arr js 3 ((convK .i64 j2.2.n).toNat) (k6 : List Int)] [38, 39, 40, 41, 42, 43, 44, 45, 46, 8, 7] [[], [], [], [], [], [], [], [10], [], []] rfl (by kernel_rfl) (ent1 rfl ⟨ke, kf⟩) (dis1 rfl) (StepsX_cons ?_ (StepsX_cons ?_ (StepsX_cons ?_ (StepsX_cons ?_ (StepsX_cons ?_ (StepsX_cons ?_ (StepsX_cons ?_ (StepsX_cons ?_ (StepsX_cons ?_ (StepsX_cons ?_ StepsX_nil)))))))))) ?_
       ·intro kl km kn ko kp kq Q kr; have ks : kl 8 = vi (k5) := (kp 8 (by kernel_rfl)).trans kd; exact mv ks (L_nil (kr _ _ No (Ext.refl km) (fun _ h => h.elim) rfl (fun _ h => h.elim)))
       ·intro kl km kn ko kp kq Q kr; have ks : kl 7 = Value.slice (some ⟨js, 0, none⟩) (convK .i64 j2.2.n).toNat (convK .i64 j2.2.n).toNat := (kp 7 (by kernel_rfl)).trans ke; exact mv ks (L_nil (kr _ _ No (Ext.refl km) (fun _ h => h.elim) rfl (fun _ h => h.elim)))
       ·intro kl km kn ko kp kq Q kr; have ks : kl 8 = vi (k5) := (kp 8 (by kernel_rfl)).trans kd; exact mv ks (L_nil (kr _ _ No (Ext.refl km) (fun _ h => h.elim) rfl (fun _ h => h.elim)))
       ·intro kl km kn ko kp kq Q kr; have ks : kl 39 = Value.slice (some ⟨js, 0, none⟩) (convK .i64 j2.2.n).toNat (convK .i64 j2.2.n).toNat := ko 1 (by kernel_rfl) (by show _ < 11; decide); have kt : kl 40 = vi (k5) := ko 2 (by kernel_rfl) (by show _ < 11; decide); obtain ⟨ku, kv⟩ : kl 7 = Value.slice (some ⟨js, 0, none⟩) ((convK .i64 j2.2.n).toNat) ((convK .i64 j2.2.n).toNat) ∧ Arr km js 3 ((convK .i64 j2.2.n).toNat) (k6 : List Int) := ko 10 (by kernel_rfl) (by show _ < 11; decide); exact L_sliceA_l (sz := 1) Try.underlying40 ty3.inf ks kt kh.1 kh.2 (by decide) (L_nil (kr _ _ No (Ext.refl km) (fun _ h => h.elim) rfl (fun _ h => h.elim)))
       ·intro kl km kn ko kp kq Q kr; have ks : kl 7 = Value.slice (some ⟨js, 0, none⟩) (convK .i64 j2.2.n).toNat (convK .i64 j2.2.n).toNat := (kp 7 (by kernel_rfl)).trans ke; exact mv ks (L_nil (kr _ _ No (Ext.refl km) (fun _ h => h.elim) rfl (fun _ h => h.elim)))
       ·intro kl km kn ko kp kq Q kr; have ks : kl 8 = vi (k5) := (kp 8 (by kernel_rfl)).trans kd; exact mv ks (L_nil (kr _ _ No (Ext.refl km) (fun _ h => h.elim) rfl (fun _ h => h.elim)))
       ·intro kl km kn ko kp kq Q kr; have ks : kl 42 = Value.slice (some ⟨js, 0, none⟩) (convK .i64 j2.2.n).toNat (convK .i64 j2.2.n).toNat := ko 4 (by kernel_rfl) (by show _ < 11; decide); have kt : kl 43 = vi (k5) := ko 5 (by kernel_rfl) (by show _ < 11; decide); obtain ⟨ku, kv⟩ : kl 7 = Value.slice (some ⟨js, 0, none⟩) ((convK .i64 j2.2.n).toNat) ((convK .i64 j2.2.n).toNat) ∧ Arr km js 3 ((convK .i64 j2.2.n).toNat) (k6 : List Int) := ko 10 (by kernel_rfl) (by show _ < 11; decide); exact L_sliceA_h (sz := 1) Try.underlying40 ty3.inf ks kt (cut_in kj).1 (by have := (cut_in kj).2; have := (kv).1; omega) (by decide) (L_nil (kr _ _ No (Ext.refl km) (fun _ h => h.elim) rfl (fun _ h => h.elim)))
       ·intro kl km kn ko kp kq Q kr; obtain ⟨ks, kt⟩ : kl 7 = Value.slice (some ⟨js, 0, none⟩) ((convK .i64 j2.2.n).toNat) ((convK .i64 j2.2.n).toNat) ∧ Arr km js 3 ((convK .i64 j2.2.n).toNat) (k6 : List Int) := ko 10 (by kernel_rfl) (by show _ < 11; decide); have ku : kl 41 = (endV js ((convK .i64 j2.2.n).toNat) 1 (k5).toNat) := ko 3 (by kernel_rfl) (by show _ < 11; decide); have kv : kl 44 = (cutV js (convK .i64 j2.2.n).toNat 1 (k5)) := ko 6 (by kernel_rfl) (by show _ < 11; decide); exact L_copyAA (xs := k6) (lo := k5) flat3 Try.underlying40 ty3.inf ku (kt) kh.2 kv kj (by decide) (fun kw kx ky => L_nil (kr _ _ _ kx (fun k h => ⟨10, (List.mem_singleton.2 rfl : (10 : Nat) ∈ [10]), (by show own (kl 7) k; rw [ks]; exact congrArg some h.symm)⟩) ⟨rfl, ky⟩ (fun k h => Or.inl ⟨10, (List.mem_singleton.2 rfl : (10 : Nat) ∈ [10]), (by show own (kl 7) k; rw [ks]; exact congrArg some h.symm)⟩)))
       ·intro kl km kn ko kp kq Q kr; have ks : kl 38 = vi (k5) := ko 0 (by kernel_rfl) (by show _ < 11; decide); obtain ⟨kt, ku⟩ : kl 45 = vi (((min ki.length (((convK .i64 j2.2.n).toNat) - (k5).toNat) : Nat) : Int)) ∧ Arr km js 3 ((convK .i64 j2.2.n).toNat) (cpy k6 (k5).toNat ki : List Int) := ko 7 (by kernel_rfl) (by show _ < 11; decide); exact ad ks kt kk (L_nil (kr _ _ No (Ext.refl km) (fun _ h => h.elim) rfl (fun _ h => h.elim)))
       ·intro kl km kn ko kp kq Q kr; have ks : kl 46 = vi (k5 + ((min ki.length (((convK .i64 j2.2.n).toNat) - (k5).toNat) : Nat) : Int)) := ko 8 (by kernel_rfl) (by show _ < 11; decide); exact asg ks (L_nil (kr _ _ No (Ext.refl km) (fun _ h => h.elim) rfl (fun _ h => h.elim)))
       ·intro kl km kn ko kp kq kr; have ks := Tch.trans kb kn (fun k h => Or.inr (by have kt := own_slice (ke : _ = Value.slice (some ⟨js, 0, none⟩) ((convK .i64 j2.2.n).toNat) ((convK .i64 j2.2.n).toNat)) (ent_is (k := 10) rfl rfl h); rw [kt]; exact (Nat.le_trans jk.size ju))); obtain ⟨ku, kv⟩ : kl 45 = vi (((min ki.length (((convK .i64 j2.2.n).toNat) - (k5).toNat) : Nat) : Int)) ∧ Arr km js 3 ((convK .i64 j2.2.n).toNat) (cpy k6 (k5).toNat ki : List Int) := ko 7 (by show _ < 11; decide) (by kernel_rfl); have kw : kl 7 = Value.slice (some ⟨js, 0, none⟩) (convK .i64 j2.2.n).toNat (convK .i64 j2.2.n).toNat := (kr 7 (by kernel_rfl)).trans ke; have kx : kl 8 = vi (k5 + ((min ki.length (((convK .i64 j2.2.n).toNat) - (k5).toNat) : Nat) : Int)) := ko 9 (by show _ < 11; decide) (by kernel_rfl); refine block_n ?_; exact then_n ⟨k7, Nat.lt_succ_self _, ⟨km, (k5 + ((min ki.length (((convK .i64 j2.2.n).toNat) - (k5).toNat) : Nat) : Int)), (cpy k6 (k5).toNat ki), rfl, ks, (kc.trans kn.le), hr, kx, kw, kv⟩⟩
      ·have hr := ite_f kg hr; refine W_exit (then_x (then_x (block_here ?_))); exact then_n ⟨ka, k6, rfl, kb, kc, Option.some.inj hr, ke, kf⟩
    ·rintro k5 k6 ⟨k7, k4, rfl, k8, k9, k2, ka, kb⟩; subst k2; have hr := k3; (try dsimp only at hr); refine then_n (sr (mv ka (asg (rv (Value.slice (some ⟨js, 0, none⟩) (convK .i64 j2.2.n).toNat (convK .i64 j2.2.n).toNat)) (nn (W_ret ?_))))); obtain rfl := Option.some.inj hr; exact done1 (Or.inl rfl) Try.results76 rfl ⟨_, _, rfl, rfl, k8, (kb).res (Nat.le_trans jk.size ju)⟩

theorem check_numbers_ok (N : Nat) (s0 : St) (a0 : Int) (a1 : Int) (I : Eff σ) (w2 : Value) (a2 : (List Int) → σ → Option σ) (h2 : FnE Try.prog s0 w2 I a2) (q0 : σ) (hq0 : EffAt I s0 q0) (r : σ) (hr : check_numbers N a0 a1 a2 q0 = some r) :
    Calls Try.prog 46 #[.int .i64 a0, .int .i64 a1, w2] s0.w (RetM I.M s0 fun _ s => EffAt I s r) := by
 unfold check_numbers at hr
 have j0 := Tch.refl I.M s0
 refine Calls_of (n := 40) (args := [.int .i64 a0, .int .i64 a1, w2]) Try.func46 rfl rfl (by simp) (sr (L_buildSlice (xs := ([1] : List Int)) Try.underlying40 tyz3 (Parts_cons rfl (rv (vi 1)) Parts_nil) (Vs.cons Vint Vs.nil) rfl (by decide) (by decide) (fun j1 j2 j3 j4 j5 => ?_)))
 have j6 := Tch.ext j0 j3
 refine mv (rv (vi a0)) ?_
 obtain ⟨j7, j8, hr⟩ := bind_some hr
 refine L_calls cal76 (args2 (rv j2) (rv (vi a0))) (slices_Repeat_Lint_int_ok N _ _ _ j5 a0 j7 j8) (by decide) (fun j9 ja jb jc => ?_)
 have jd := Tch.ext j6 jb
 obtain ⟨je, jf, rfl, jg⟩ := jc
 have jh : ∀ k, (I.M) k → ¬ (fun k => k = je) k := fun k ji h2 => by have jj := (fun k hk => ((hq0).ext j3).lt hk) k ji; have jk := jf; subst h2; omega
 refine asg (rv (Value.slice (some ⟨je, 0, none⟩) j7.length j7.length)) (nn ?_)
 obtain ⟨jl, jm, jn⟩ := bind_some hr
 refine W_cut (fun f w => ∃ (s : St) (jo : σ), s.w = w ∧ Tch I.M s0 s ∧ Le ja s ∧ Sum.inl jo = jl ∧ f 2 = w2 ∧ EffAt I s jo) ?_ ?_
 ·refine W_block (W_loop (fun m f w => ∃ (s : St) (jp : σ) (jq : List Int), s.w = w ∧ Tch I.M s0 s ∧ Le ja s ∧ check_numbers_l1 N a0 a1 a2 m jp jq = some jl ∧ f 0 = vi (a0) ∧ f 1 = vi (a1) ∧ f 2 = w2 ∧ f 6 = Value.slice (some ⟨je, 0, none⟩) j7.length j7.length ∧ EffAt I s jp ∧ Arr s je 3 j7.length jq) N ⟨ja, q0, j7, rfl, jd, (Le.refl _), jm, rfl, rfl, rfl, rfl, ((hq0).ext j3).ext jb, jg⟩ ?_)
  rintro jr js jt ⟨ju, jp, jq, rfl, jv, jw, hr, jx, jy, jz, k0, k1, k2⟩
  cases jr with
  | zero => exact absurd hr (by simp [check_numbers_l1])
  | succ jr =>
   rw [check_numbers_l1.eq_2] at hr
   refine W_block (sr (mv jz (mv k0 ?_)))
   obtain ⟨k3, k4, hr⟩ := bind_some hr
   obtain ⟨k5, k6, k7, k8⟩ := (k2).freeze
   refine L_calls_fzB flat3 cal53 (args1 (rv (Value.slice (some ⟨je, 0, none⟩) j7.length j7.length))) k6 k7 (fun k hk => by have k9 : k = je := hk; rw [k9]; exact (k2).g) (k2).lt (slices_Clone_Lint_int_ok N _ _ _ k8 k3 k4) (by decide) (fun ka kb kc kd => ?_)
   have ke := Tch.ext jv kc
   obtain ⟨kf, kg, hr⟩ := bind_some hr
   refine L_callE (rv w2) ((h2.mono (j3.le.trans (jb.le.trans (jw.trans kc.le))))) (rv ka) (((kd.base jv.size)).toV) ((k1).ext kc) kg (by decide) (fun kh => ?_)
   intro ki kj kk
   have kl := Tch.trans ke kj (fun k hk => Or.inl hk)
   refine nn (sr (mv jx ?_))
   obtain ⟨km, hr⟩ := chk_some hr
   refine L_sub (rv (vi a0)) (rv (vi 1)) km (by decide) (asg (rv (vi (a0 - 1))) (nn (W_seq ?_)))
   obtain ⟨kn, ko, kp⟩ := bind_some hr
   refine W_cut (fun f w => ∃ (s : St) (kq : Int) (kr : List Int), s.w = w ∧ Tch I.M s0 s ∧ Le ki s ∧ (kq, kr) = kn ∧ f 7 = vi kq ∧ f 0 = vi (a0) ∧ f 1 = vi (a1) ∧ f 2 = w2 ∧ f 6 = Value.slice (some ⟨je, 0, none⟩) j7.length j7.length ∧ EffAt I s kf ∧ Arr s je 3 j7.length kr) ?_ ?_
   ·refine W_block (W_loop (fun m f w => ∃ (s : St) (ks : Int) (kt : List Int), s.w = w ∧ Tch I.M s0 s ∧ Le ki s ∧ check_numbers_l2 N a1 m ks kt = some kn ∧ f 7 = vi ks ∧ f 0 = vi (a0) ∧ f 1 = vi (a1) ∧ f 2 = w2 ∧ f 6 = Value.slice (some ⟨je, 0, none⟩) j7.length j7.length ∧ EffAt I s kf ∧ Arr s je 3 j7.length kt) N ⟨ki, (a0 - 1), jq, rfl, kl, (Le.refl _), ko, rfl, jx, jy, jz, k0, kk, ((k2).ext kc).tch kj ((fun k hk hm => jh k hm hk) je rfl)⟩ ?_)
    rintro ku kv kw ⟨kx, ks, kt, rfl, ky, kz, hr, g0, g1, g2, g3, g4, g5, g6⟩
    cases ku with
    | zero => exact absurd hr (by simp [check_numbers_l2])
    | succ ku =>
     rw [check_numbers_l2.eq_2] at hr
     refine W_seq ?_
     obtain ⟨g7, g8, g9⟩ := bind_some hr
     refine W_seq_cut (fun f w => ∃ (s : St) (ga : Bool), s.w = w ∧ Tch I.M s0 s ∧ Le kx s ∧ ga = g7 ∧ f 26 = vb ga ∧ f 0 = vi (a0) ∧ f 1 = vi (a1) ∧ f 2 = w2 ∧ f 6 = Value.slice (some ⟨je, 0, none⟩) j7.length j7.length ∧ f 7 = vi (ks) ∧ EffAt I s kf ∧ Arr s je 3 j7.length kt) ?_ ?_
     ·have hr := g8
      refine W_region (mv g0 (L_geq (rv (vi ks)) (rv (vi 0)) (by decide) (mv (rv (vb (decide (0 ≤ ks)))) ?_)))
      rcases tf (decide (0 ≤ ks)) with gb | gb
      ·have hr := ite_t gb hr; refine gt 19 (rv (vb (decide (0 ≤ ks)))) gb (mv g4 (gt 19 (rv (vb (decide (0 ≤ ks)))) gb (mv g0 (gt 19 (rv (vb (decide (0 ≤ ks)))) gb ?_)))); obtain ⟨gc, gd, hr⟩ := bind_some hr; refine L_indexA (sz := 1) Try.underlying40 ty3.inf (rv (Value.slice (some ⟨je, 0, none⟩) j7.length j7.length)) (rv (vi ks)) (idx_some gd).1 (by have := (idx_some gd).2.1; have := (g6).1; omega) (by decide) (gt 19 (rv (vb (decide (0 ≤ ks)))) gb (L_loadA (xs := kt) ty3 (rv (Value.pointer (some ⟨je, (ks).toNat * 1, none⟩))) (g6) gd (by decide) (fun gg gh => ?_))); obtain rfl := gh.int; exact gt 19 (rv (vb (decide (0 ≤ ks)))) gb (mv g2 (gt 19 (rv (vb (decide (0 ≤ ks)))) gb (el (rv (vi gc)) (rv (vi a1)) (pt (rv (vb (decide (0 ≤ ks)))) gb (rv (vb (decide (gc = a1)))) (nn ⟨kx, (decide (gc = a1)), rfl, ky, (Le.refl _), Option.some.inj hr, rfl, g1, g2, g3, g4, g0, g5, g6⟩)))))
      ·have hr := ite_f gb hr; exact gf 19 (rv (vb (decide (0 ≤ ks)))) gb (gf 19 (rv (vb (decide (0 ≤ ks)))) gb (gf 19 (rv (vb (decide (0 ≤ ks)))) gb (gf 19 (rv (vb (decide (0 ≤ ks)))) gb (gf 19 (rv (vb (decide (0 ≤ ks)))) gb (gf 19 (rv (vb (decide (0 ≤ ks)))) gb (pf (rv (vb (decide (0 ≤ ks)))) gb (rv (vb false)) (nn ⟨kx, false, rfl, ky, (Le.refl _), Option.some.inj hr, rfl, g1, g2, g3, g4, g0, g5, g6⟩)))))))
     ·rintro gb gc ⟨gd, ga, rfl, gg, gh, g8, gi, gj, gk, gl, gm, gn, go, gp⟩
      subst g8
      have hr := g9
      try dsimp only at hr
      refine W_cond _ gi (fun gq => ?_) (fun gq => ?_)
      ·have hr := ite_t gq hr; refine W_skip (then_n (W_block (sr (mv gm (mv gn ?_))))); obtain ⟨gr, gs, hr⟩ := bind_some hr; refine L_indexA (sz := 1) Try.underlying40 ty3.inf (rv (Value.slice (some ⟨je, 0, none⟩) j7.length j7.length)) (rv (vi ks)) (idx_some gs).1 (by have := (idx_some gs).2.1; have := (gp).1; omega) (by decide) (L_storeA (xs := kt) ty3 (rv (Value.pointer (some ⟨je, (ks).toNat * 1, none⟩))) (rv (vi 1)) Vint (gp) gs (fun gu gv gw => ?_)); have gx := Tch.trans gg gv (fun k hk => Or.inr (by subst hk; exact (Nat.le_trans j6.size jf))); refine nn (W_region (mv gn ?_)); obtain ⟨gy, hr⟩ := chk_some hr; refine L_sub (rv (vi ks)) (rv (vi 1)) gy (by decide) (asg (rv (vi (ks - 1))) (L_nil (block_n ?_))); exact then_n ⟨ku, Nat.lt_succ_self _, ⟨gu, (ks - 1), (kt.set (ks).toNat 1), rfl, gx, (kz.trans (gh.trans gv.le)), hr, rfl, gj, gk, gl, gm, (go).tch gv (fun k hk => jh k hk), gw⟩⟩
      ·have hr := ite_f gq hr; refine W_exit (then_x (then_x (block_here ?_))); exact then_n ⟨gd, ks, kt, rfl, gg, (kz.trans gh), Option.some.inj hr, gn, gj, gk, gl, gm, go, gp⟩
   ·rintro ks kt ⟨ku, kq, kr, rfl, kv, kw, ko, kx, ky, kz, g0, g1, g2, g3⟩
    subst ko
    have hr := kp
    try dsimp only at hr
    refine then_n (W_seq (sr (mv kx (ls (rv (vi kq)) (rv (vi 0)) (nn ?_)))))
    refine W_cond _ (rv (vb (decide (kq < 0)))) (fun g4 => ?_) (fun g4 => ?_)
    ·have hr := ite_t g4 hr; refine W_ret (then_r (block_r (then_r (block_r ?_)))); obtain rfl := Option.some.inj hr; have hr := jn; (try dsimp only at hr); refine then_r ?_; obtain rfl := Option.some.inj hr; exact done0 (Or.inl rfl) Try.results46 ⟨_, _, rfl, rfl, kv, g2⟩
    ·have hr := ite_f g4 hr; refine W_skip (then_n (W_region (mv g1 (mv kx ?_)))); obtain ⟨g5, g6, hr⟩ := bind_some hr; refine L_indexA (sz := 1) Try.underlying40 ty3.inf (rv (Value.slice (some ⟨je, 0, none⟩) j7.length j7.length)) (rv (vi kq)) (idx_some g6).1 (by have := (idx_some g6).2.1; have := (g3).1; omega) (by decide) (L_loadA (xs := kr) ty3 (rv (Value.pointer (some ⟨je, (kq).toNat * 1, none⟩))) (g3) g6 (by decide) (fun g7 g8 => ?_)); obtain rfl := g8.int; obtain ⟨g9, hr⟩ := chk_some hr; refine ad (rv (vi g5)) (rv (vi 1)) g9 ?_; obtain ⟨ga, gb, hr⟩ := bind_some hr; refine L_indexA (sz := 1) Try.underlying40 ty3.inf (rv (Value.slice (some ⟨je, 0, none⟩) j7.length j7.length)) (rv (vi kq)) (idx_some gb).1 (by have := (idx_some gb).2.1; have := (g3).1; omega) (by decide) (L_storeA (xs := kr) ty3 (rv (Value.pointer (some ⟨je, (kq).toNat * 1, none⟩))) (rv (vi (g5 + 1))) Vint (g3) gb (fun gc gd gg => ?_)); have gh := Tch.trans kv gd (fun k hk => Or.inr (by subst hk; exact (Nat.le_trans j6.size jf))); refine L_nil (block_n ?_); exact then_n ⟨jr, Nat.lt_succ_self _, ⟨gc, kf, (kr.set (kq).toNat (g5 + 1)), rfl, gh, (jw.trans (kc.le.trans (kj.le.trans (kw.trans gd.le)))), hr, ky, kz, g0, g1, (g2).tch gd (fun k hk => jh k hk), gg⟩⟩
 ·rintro jp jq ⟨jr, jo, rfl, js, jt, jm, ju, jv⟩; subst jm; have hr := jn; (try dsimp only at hr); obtain rfl := Option.some.inj hr; exact done0 (Or.inr rfl) Try.results46 ⟨_, _, rfl, rfl, js, jv⟩

theorem check_divisor_ok (N : Nat) (s0 : St) (a0 : Int) (a1 : Int) (r : Int) (hr : check_divisor N a0 a1 = some r) :
    Calls Try.prog 77 #[.int .i64 a0, .int .i64 a1] s0.w (Ret s0 fun v s => V s v r) := by
 cases N with
 | zero => cases hr
 | succ N =>
 rw [check_divisor.eq_2] at hr
 have j0 := Ext.refl s0
 refine Calls_of (n := 13) (args := [.int .i64 a0, .int .i64 a1]) Try.func77 rfl rfl (by simp) (sr (asg (rv (vi 0)) (nn (W_seq (sr (mv (rv (vi a1)) (el (rv (vi a1)) (rv (vi 0)) (nn ?_))))))))
 refine W_cond _ (rv (vb (decide (a1 = 0)))) (fun j1 => ?_) (fun j1 => ?_)
 ·have hr := ite_t j1 hr; refine sr (mv (rv (vi a0)) (asg (rv (vi a0)) (nn (W_ret (then_r ?_))))); obtain rfl := Option.some.inj hr; exact done1 (Or.inl rfl) Try.results77 rfl ⟨_, _, rfl, rfl, j0, Vint⟩
 ·have hr := ite_f j1 hr; refine W_skip (then_n (sr (mv (rv (vi a1)) (mv (rv (vi a0)) (mv (rv (vi a1)) ?_))))); obtain ⟨j2, hr⟩ := chk_some hr; refine L_rem (rv (vi a0)) (rv (vi a1)) j2 (by decide) ?_; obtain ⟨j3, j4, hr⟩ := bind_some hr; refine L_calls cal77 (args2 (rv (vi a1)) (rv (vi (Int.tmod a0 a1)))) (check_divisor_ok N _ a1 (Int.tmod a0 a1) j3 j4) (by decide) (fun j5 j6 j7 j8 => ?_); have j9 := Tch.ext j0 j7; obtain rfl := j8.int; refine asg (rv (vi j3)) (nn (W_ret ?_)); obtain rfl := Option.some.inj hr; exact done1 (Or.inl rfl) Try.results77 rfl ⟨_, _, rfl, rfl, j9, Vint⟩

theorem check_lose_ok (N : Nat) (s0 : St) (w0 : Value) (a0 : List Level) (h0 : V s0 w0 a0) (a1 : Int) (w2 : Value) (a2 : List Int) (h2 : V s0 w2 a2) (r : Loss) (hr : check_lose N a0 a1 a2 = some r) :
    Calls Try.prog 48 #[w0, .int .i64 a1, w2] s0.w (Ret s0 fun v s => V s v r) := by
 unfold check_lose at hr
 have j0 := Ext.refl s0
 refine Calls_of (n := 103) (args := [w0, .int .i64 a1, w2]) Try.func48 rfl rfl (by simp) (sr (L_alloc (α := Loss) (x := ⟨0, 0⟩) zero44 Loss.zero_rel (by decide) (fun j1 j2 j3 j4 j5 => ?_)))
 have j6 := Tch.ext j0 j3
 refine nn (sr (mv (rv (vi a1)) (L_buildSlice (xs := ([a1] : List Int)) Try.underlying40 tyz3 (Parts_cons rfl (rv (vi a1)) Parts_nil) (Vs.cons Vint Vs.nil) rfl (by decide) (by decide) (fun j7 j8 j9 ja jb => ?_))))
 have jc := Tch.ext j6 j9
 have jd : ∀ k, (fun k => k = j2) k → ¬ (own j8) k := fun k je h2 => by have jf := (fun k (hk : k = j2) => lt_at hk (j5).lt) k je; have jg := ja; exact absurd ((jg.lt h2).1) (by omega)
 refine asg (rv j8) (nn (W_seq (sr (mv (rv w2) (ln Try.underlying40 (rv w2) (h2.mono (j3.le.trans j9.le)) (mv (rv (vi 0)) (nn ?_)))))))
 obtain ⟨jh, ji, jj⟩ := bind_some hr
 refine W_cut (fun f w => ∃ (s : St) (jk : Value) (jl : List Int), s.w = w ∧ Ext s0 s ∧ Le j7 s ∧ jl = jh ∧ f 7 = jk ∧ Bld s s0.w.heap.size 3 jk jl ∧ f 0 = w0 ∧ f 6 = Value.pointer (some ⟨j2, 0, none⟩) ∧ Var s j2 44 (⟨0, 0⟩ : Loss) ∧ (∀ k, (own jk) k → ¬ (fun k => k = j2) k)) ?_ ?_
 ·refine W_block (W_loop (fun m f w => ∃ (s : St) (jm : Value) (jn : List Int) (jo : Int), s.w = w ∧ Ext s0 s ∧ Le j7 s ∧ check_lose_l1 N a2 m jn jo = some jh ∧ f 7 = jm ∧ Bld s s0.w.heap.size 3 jm jn ∧ f 21 = vi jo ∧ f 0 = w0 ∧ f 6 = Value.pointer (some ⟨j2, 0, none⟩) ∧ f 19 = w2 ∧ f 20 = vi ((a2.length : Int)) ∧ Var s j2 44 (⟨0, 0⟩ : Loss) ∧ (∀ k, (own jm) k → ¬ (fun k => k = j2) k)) N ⟨j7, j8, ([a1] : List Int), 0, rfl, jc, (Le.refl _), ji, rfl, (ja.base j6.size), rfl, rfl, rfl, rfl, rfl, (j5).ext j9, (fun k hk hm => jd k hm hk)⟩ ?_)
  rintro jp jq jr ⟨js, jm, jn, jo, rfl, jt, ju, hr, jv, jw, jx, jy, jz, k0, k1, k2, k3⟩
  cases jp with
  | zero => exact absurd hr (by simp [check_lose_l1])
  | succ jp =>
   rw [check_lose_l1.eq_2] at hr
   refine sr (ls jx k1 (nn (W_seq ?_)))
   refine W_cond _ (rv (vb (decide (jo < (a2.length : Int))))) (fun k4 => ?_) (fun k4 => ?_)
   ·have hr := ite_t k4 hr
    refine W_skip (then_n (W_seq (W_block (sr ?_))))
    obtain ⟨k5, k6, hr⟩ := bind_some hr
    refine ix Try.underlying40 ty3.inf k0 (h2.mono (j3.le.trans (j9.le.trans ju))) jx k6 (fun k7 k8 => li ty3 (rv k7) k8 (asg (rv (vi k5)) (nn (W_region (mv jv (mv jv ?_))))))
    have k9 := (jw).toV
    refine mv jv ?_
    have ka := (jw).toV
    refine ln Try.underlying40 (rv jm) ka ?_
    obtain ⟨kb, hr⟩ := chk_some hr
    refine L_sub (rv (vi ((jn.length : Int)))) (rv (vi 1)) kb (by decide) ?_
    obtain ⟨kc, kd, hr⟩ := bind_some hr
    refine ix Try.underlying40 ty3.inf (rv jm) k9 (rv (vi ((jn.length : Int) - 1))) kd (fun ke kf => li ty3 (rv ke) kf (mv (rv (vi k5)) ?_))
    obtain ⟨kg, hr⟩ := chk_some hr
    refine L_mul (rv (vi kc)) (rv (vi k5)) kg (by decide) (L_buildSlice (xs := ([kc * k5] : List Int)) Try.underlying40 tyz3 (Parts_cons rfl (rv (vi (kc * k5))) Parts_nil) (Vs.cons Vint Vs.nil) rfl (by decide) (by decide) (fun kh ki kj kk kl => ?_))
    have km := Tch.ext jt kj
    obtain ⟨kn, hr⟩ := chk_some hr
    refine L_append (xs := jn) (B := s0.w.heap.size) Try.underlying40 tyz3 (rv jm) (rv ki) ((jw).ext kj) (km.size) kl kn.1 kn.2 (by decide) (fun ko kp kq => ?_)
    have kr := kq.tchM ((jw).ext kj) km (Nat.le_refl _)
    have ks : ∀ k, (fun k => k = j2) k → ¬ own ko k := fun k je h2 => by rcases kq.own k h2 with jf | jf; exact (fun k hk hm => k3 k hm hk) k je jf; have jg := ((k2).ext kj).lt; subst je; omega
    refine asg (rv ko) (L_nil (block_n (then_n (W_region ?_))))
    obtain ⟨kt, hr⟩ := chk_some hr
    exact ad jx (rv (vi 1)) kt (mv (rv (vi (jo + 1))) (nn ⟨jp, Nat.lt_succ_self _, ⟨kp, ko, (jn ++ ([kc * k5] : List Int)), (jo + 1), rfl, kr, (ju.trans (kj.le.trans kq.tch.le)), hr, rfl, kq.bld, rfl, jy, jz, k0, k1, ((k2).ext kj).tch kq.tch ((fun k hk hm => k3 k hm hk) j2 rfl), (fun k hk hm => ks k hm hk)⟩⟩))
   ·have hr := ite_f k4 hr; refine W_exit (then_x (then_x (block_here ?_))); exact then_n ⟨js, jm, jn, rfl, jt, ju, Option.some.inj hr, jv, jw, jy, jz, k2, k3⟩
 ·rintro jm jn ⟨jo, jk, jl, rfl, jp, jq, ji, jr, js, jt, ju, jv, jw⟩
  subst ji
  have hr := jj
  try dsimp only at hr
  refine then_n (sr (asg (rv (vi 1)) (nn (W_seq (sr (mv jt (ln Try.underlying37 (rv w0) (h0.mono (j3.le.trans (j9.le.trans jq))) (mv (rv (vi 0)) (nn ?_)))))))))
  obtain ⟨jx, jy, jz⟩ := bind_some hr
  refine W_cut (fun f w => ∃ (s : St) (k0 : Int), s.w = w ∧ Ext s0 s ∧ Le jo s ∧ k0 = jx ∧ f 10 = vi k0 ∧ f 0 = w0 ∧ f 6 = Value.pointer (some ⟨j2, 0, none⟩) ∧ f 7 = jk ∧ Var s j2 44 (⟨0, 0⟩ : Loss) ∧ Bld s s0.w.heap.size 3 jk jl) ?_ ?_
  ·refine W_block (W_loop (fun m f w => ∃ (s : St) (k1 : Int) (k2 : Int), s.w = w ∧ Ext s0 s ∧ Le jo s ∧ check_lose_l2 N a0 m k1 k2 = some jx ∧ f 10 = vi k1 ∧ f 39 = vi k2 ∧ f 0 = w0 ∧ f 6 = Value.pointer (some ⟨j2, 0, none⟩) ∧ f 7 = jk ∧ f 37 = w0 ∧ f 38 = vi ((a0.length : Int)) ∧ Var s j2 44 (⟨0, 0⟩ : Loss) ∧ Bld s s0.w.heap.size 3 jk jl) N ⟨jo, 1, 0, rfl, jp, (Le.refl _), jy, rfl, rfl, jt, ju, jr, rfl, rfl, jv, js⟩ ?_)
   rintro k3 k4 k5 ⟨k6, k1, k2, rfl, k7, k8, hr, k9, ka, kb, kc, kd, ke, kf, kg, kh⟩
   cases k3 with
   | zero => exact absurd hr (by simp [check_lose_l2])
   | succ k3 =>
    rw [check_lose_l2.eq_2] at hr
    refine sr (ls ka kf (nn (W_seq ?_)))
    refine W_cond _ (rv (vb (decide (k2 < (a0.length : Int))))) (fun ki => ?_) (fun ki => ?_)
    ·have hr := ite_t ki hr
     refine W_skip (then_n (W_seq (W_block (sr ?_))))
     obtain ⟨kj, kk, hr⟩ := bind_some hr
     refine ix Try.underlying37 ty39.inf ke (h0.mono (j3.le.trans (j9.le.trans (jq.trans k8)))) ka kk (fun kl km => ld ty39 (rv kl) km (fun kn ko => L_alloc (α := Level) (x := ⟨0, 0⟩) zero39 Level.zero_rel (by decide) (fun kp kq kr ks kt => ?_)))
     have ku := Tch.ext k7 kr
     have kv : ∀ k, (fun k => k = j2) k → ¬ (fun k => k = kq) k := fun k je h2 => by have jf := (fun k (hk : k = j2) => lt_at hk (kg).lt) k je; have jg := ks; subst h2; omega
     have kw : ∀ k, (own jk) k → ¬ (fun k => k = kq) k := fun k je h2 => by have jf := (fun k hk => ((kh).lt hk).2) k je; have jg := ks; subst h2; omega
     refine L_store_ro ty39 (rv (Value.pointer (some ⟨kq, 0, none⟩))) (rv kn) (ko.mono kr.le) (kt) (fun kx ky kz => ?_)
     have g0 := Tch.trans ku ky (fun k hk => Or.inr (by subst hk; exact (Nat.le_trans k7.size ks)))
     refine nn ?_
     obtain ⟨g1, hr⟩ := chk_some hr
     obtain ⟨g2, g3, hr⟩ := bind_some hr
     obtain ⟨g4, hr⟩ := chk_some hr
     obtain ⟨g5, hr⟩ := chk_some hr
     obtain ⟨g6, hr⟩ := chk_some hr
     refine W_draws mixed (by kernel_rfl) [PV.eq (vi k1), PV.eq (vi k1), PV.ptr (kj.Mean : Int), PV.eq (vi (kj.Mean)), PV.eq (vi (2 * kj.Mean)), PV.eq (vi g2), PV.eq (vi (Int.tdiv k1 g2)), PV.eq (vi ((Int.tdiv k1 g2) * 2)), PV.ptr (kj.Mean : Int), PV.eq (vi (kj.Mean)), PV.eq (vi (((Int.tdiv k1 g2) * 2) * kj.Mean)), PV.eq (vi (((Int.tdiv k1 g2) * 2) * kj.Mean))] (Steps_cons ?_ (Steps_cons ?_ (Steps_cons ?_ (Steps_cons ?_ (Steps_cons ?_ (Steps_cons ?_ (Steps_cons ?_ (Steps_cons ?_ (Steps_cons ?_ (Steps_cons ?_ (Steps_cons ?_ (Steps_cons ?_ Steps_nil)))))))))))) ?_
     ·intro g7 g8 g9 ga gb Q gc; have gd : g7 10 = vi (k1) := (gb 10 (by kernel_rfl)).trans k9; exact mv gd (fin gc rfl)
     ·intro g7 g8 g9 ga gb Q gc; have gd : g7 10 = vi (k1) := (gb 10 (by kernel_rfl)).trans k9; exact mv gd (fin gc rfl)
     ·intro g7 g8 g9 ga gb Q gc; have gd : g7 12 = Value.pointer (some ⟨kq, 0, none⟩) := (gb 12 (by kernel_rfl)).trans rfl; exact fa fld39_1 Level.of_Mean gd (kz.mono g9.le) (fun gg gh => fin gc gh)
     ·intro g7 g8 g9 ga gb Q gc; have gd : Ptr _ (g7 45) (kj.Mean : Int) := ga 2 45 (by kernel_rfl) (by kernel_rfl); obtain ⟨gg, gh, gi⟩ : ∃ v, _ = v ∧ Ptr _ v _ := ⟨_, rfl, gd⟩; exact li ty3 gh gi (fin gc rfl)
     ·intro g7 g8 g9 ga gb Q gc; have gd : g7 46 = vi (kj.Mean) := ga 3 46 (by kernel_rfl) (by kernel_rfl); exact L_mul (rv (vi 2)) gd g1 (by decide) (fin gc rfl)
     ·intro g7 g8 g9 ga gb Q gc; have gd : g7 44 = vi (k1) := ga 1 44 (by kernel_rfl) (by kernel_rfl); have gg : g7 47 = vi (2 * kj.Mean) := ga 4 47 (by kernel_rfl) (by kernel_rfl); refine L_calls cal77 (args2 gd gg) (check_divisor_ok N _ k1 (2 * kj.Mean) g2 g3) (by decide) (fun gh gi gj gk => ?_); have gl := Tch.ext (Ext.refl g8) gj; obtain rfl := gk.int; exact L_nil (gc _ _ gl rfl)
     ·intro g7 g8 g9 ga gb Q gc; have gd : g7 43 = vi (k1) := ga 0 43 (by kernel_rfl) (by kernel_rfl); have gg : g7 48 = vi (g2) := ga 5 48 (by kernel_rfl) (by kernel_rfl); exact L_quo gd gg g4.1 g4.2 (by decide) (fin gc rfl)
     ·intro g7 g8 g9 ga gb Q gc; have gd : g7 49 = vi (Int.tdiv k1 g2) := ga 6 49 (by kernel_rfl) (by kernel_rfl); exact L_mul gd (rv (vi 2)) g5 (by decide) (fin gc rfl)
     ·intro g7 g8 g9 ga gb Q gc; have gd : g7 12 = Value.pointer (some ⟨kq, 0, none⟩) := (gb 12 (by kernel_rfl)).trans rfl; exact fa fld39_1 Level.of_Mean gd (kz.mono g9.le) (fun gg gh => fin gc gh)
     ·intro g7 g8 g9 ga gb Q gc; have gd : Ptr _ (g7 51) (kj.Mean : Int) := ga 8 51 (by kernel_rfl) (by kernel_rfl); obtain ⟨gg, gh, gi⟩ : ∃ v, _ = v ∧ Ptr _ v _ := ⟨_, rfl, gd⟩; exact li ty3 gh gi (fin gc rfl)
     ·intro g7 g8 g9 ga gb Q gc; have gd : g7 50 = vi ((Int.tdiv k1 g2) * 2) := ga 7 50 (by kernel_rfl) (by kernel_rfl); have gg : g7 52 = vi (kj.Mean) := ga 9 52 (by kernel_rfl) (by kernel_rfl); exact L_mul gd gg g6 (by decide) (fin gc rfl)
     ·intro g7 g8 g9 ga gb Q gc; have gd : g7 53 = vi (((Int.tdiv k1 g2) * 2) * kj.Mean) := ga 10 53 (by kernel_rfl) (by kernel_rfl); exact asg gd (fin gc rfl)
     ·intro g7 g8 g9 ga gb; have gc := Tch.ext g0 g9; have gd : g7 0 = w0 := (gb 0 (by kernel_rfl)).trans kb; have gg : g7 6 = Value.pointer (some ⟨j2, 0, none⟩) := (gb 6 (by kernel_rfl)).trans kc; have gh : g7 7 = jk := (gb 7 (by kernel_rfl)).trans kd; have gi : g7 10 = vi (((Int.tdiv k1 g2) * 2) * kj.Mean) := ga 11 10 (by kernel_rfl); have gj : g7 37 = w0 := (gb 37 (by kernel_rfl)).trans ke; have gk : g7 38 = vi ((a0.length : Int)) := (gb 38 (by kernel_rfl)).trans kf; have gl : g7 39 = vi (k2) := (gb 39 (by kernel_rfl)).trans ka; refine block_n (then_n (W_region ?_)); obtain ⟨gm, hr⟩ := chk_some hr; exact ad gl (rv (vi 1)) gm (mv (rv (vi (k2 + 1))) (nn ⟨k3, Nat.lt_succ_self _, ⟨g8, (((Int.tdiv k1 g2) * 2) * kj.Mean), (k2 + 1), rfl, gc, (k8.trans (kr.le.trans (ky.le.trans g9.le))), hr, gi, rfl, gd, gg, gh, gj, gk, (((kg).ext kr).tch ky ((fun k hk => kv k hk) j2 rfl)).ext g9, (((kh).ext kr).tch ky (fun k hk => kw k hk)).ext g9⟩⟩))
    ·have hr := ite_f ki hr; refine W_exit (then_x (then_x (block_here ?_))); exact then_n ⟨k6, k1, rfl, k7, k8, Option.some.inj hr, k9, kb, kc, kd, kg, kh⟩
  ·rintro k1 k2 ⟨k3, k0, rfl, k4, k5, jy, k6, k7, k8, k9, ka, kb⟩
   subst jy
   have hr := jz
   try dsimp only at hr
   refine then_n (sr (mv k6 (mv k9 ?_)))
   have kc := (kb).toV
   refine mv k9 ?_
   have kd := (kb).toV
   refine ln Try.underlying40 (rv jk) kd ?_
   obtain ⟨ke, hr⟩ := chk_some hr
   refine L_sub (rv (vi ((jl.length : Int)))) (rv (vi 1)) ke (by decide) ?_
   obtain ⟨kf, kg, hr⟩ := bind_some hr
   refine ix Try.underlying40 ty3.inf (rv jk) kc (rv (vi ((jl.length : Int) - 1))) kg (fun kh ki => li ty3 (rv kh) ki ?_)
   obtain ⟨kj, hr⟩ := chk_some hr
   refine L_mul (rv (vi k0)) (rv (vi kf)) kj (by decide) (asg (rv (vi (k0 * kf))) (nn (sr (asg (rv (vi 0)) (nn (W_seq (sr (mv k7 (ln Try.underlying37 (rv w0) (h0.mono (j3.le.trans (j9.le.trans (jq.trans k5)))) (mv (rv (vi 0)) (nn ?_)))))))))))
   obtain ⟨kk, kl, km⟩ := bind_some hr
   refine W_cut (fun f w => ∃ (s : St) (kn : Int), s.w = w ∧ Ext s0 s ∧ Le k3 s ∧ kn = kk ∧ f 13 = vi kn ∧ f 6 = Value.pointer (some ⟨j2, 0, none⟩) ∧ f 10 = vi (k0 * kf) ∧ Var s j2 44 (⟨0, 0⟩ : Loss)) ?_ ?_
   ·refine W_block (W_loop (fun m f w => ∃ (s : St) (ko : Int) (kp : Int), s.w = w ∧ Ext s0 s ∧ Le k3 s ∧ check_lose_l3 N a0 jl k0 kf m ko kp = some kk ∧ f 13 = vi ko ∧ f 65 = vi kp ∧ f 6 = Value.pointer (some ⟨j2, 0, none⟩) ∧ f 7 = jk ∧ f 10 = vi (k0 * kf) ∧ f 63 = w0 ∧ f 64 = vi ((a0.length : Int)) ∧ Var s j2 44 (⟨0, 0⟩ : Loss) ∧ Bld s s0.w.heap.size 3 jk jl) N ⟨k3, 0, 0, rfl, k4, (Le.refl _), kl, rfl, rfl, k8, k9, rfl, rfl, rfl, ka, kb⟩ ?_)
    rintro kq kr ks ⟨kt, ko, kp, rfl, ku, kv, hr, kw, kx, ky, kz, g0, g1, g2, g3, g4⟩
    cases kq with
    | zero => exact absurd hr (by simp [check_lose_l3])
    | succ kq =>
     rw [check_lose_l3.eq_2] at hr
     refine sr (ls kx g2 (nn (W_seq ?_)))
     refine W_cond _ (rv (vb (decide (kp < (a0.length : Int))))) (fun g5 => ?_) (fun g5 => ?_)
     ·have hr := ite_t g5 hr
      refine W_skip (then_n (W_seq (W_block (sr (mv kx ?_)))))
      obtain ⟨g6, g7, hr⟩ := bind_some hr
      refine ix Try.underlying37 ty39.inf g1 (h0.mono (j3.le.trans (j9.le.trans (jq.trans (k5.trans kv))))) kx g7 (fun g8 g9 => ld ty39 (rv g8) g9 (fun ga gb => L_alloc (α := Level) (x := ⟨0, 0⟩) zero39 Level.zero_rel (by decide) (fun gc gd gg gh gi => ?_)))
      have gj := Tch.ext ku gg
      have gk : ∀ k, (fun k => k = j2) k → ¬ (fun k => k = gd) k := fun k je h2 => by have jf := (fun k (hk : k = j2) => lt_at hk (g3).lt) k je; have jg := gh; subst h2; omega
      have gl : ∀ k, (own jk) k → ¬ (fun k => k = gd) k := fun k je h2 => by have jf := (fun k hk => ((g4).lt hk).2) k je; have jg := gh; subst h2; omega
      refine asg (rv (vi kp)) (L_store_ro ty39 (rv (Value.pointer (some ⟨gd, 0, none⟩))) (rv ga) (gb.mono gg.le) (gi) (fun gm gn go => ?_))
      have gp := Tch.trans gj gn (fun k hk => Or.inr (by subst hk; exact (Nat.le_trans ku.size gh)))
      refine nn ?_
      obtain ⟨gq, gr, hr⟩ := bind_some hr
      obtain ⟨gs, hr⟩ := chk_some hr
      obtain ⟨gu, hr⟩ := chk_some hr
      obtain ⟨gv, hr⟩ := chk_some hr
      obtain ⟨gw, hr⟩ := chk_some hr
      obtain ⟨gx, gy, hr⟩ := bind_some hr
      obtain ⟨gz, hr⟩ := chk_some hr
      obtain ⟨u0, hr⟩ := chk_some hr
      obtain ⟨u1, hr⟩ := chk_some hr
      refine W_draws mixed (by kernel_rfl) [PV.eq (vi ko), PV.eq (vi (k0 * kf)), PV.data (jl : List Int), PV.eq (vi kp), PV.ptr (gq : Int), PV.eq (vi gq), PV.eq (vi (Int.tdiv (k0 * kf) gq)), PV.ptr (g6.Cost : Int), PV.eq (vi (g6.Cost)), PV.eq (vi ((Int.tdiv (k0 * kf) gq) * g6.Cost)), PV.eq (vi (k0 * kf)), PV.ptr (g6.Mean : Int), PV.eq (vi (g6.Mean)), PV.eq (vi (2 * g6.Mean)), PV.eq (vi (Int.tdiv (k0 * kf) (2 * g6.Mean))), PV.data (jl : List Int), PV.eq (vi kp), PV.ptr (gx : Int), PV.eq (vi gx), PV.eq (vi ((Int.tdiv (k0 * kf) (2 * g6.Mean)) * gx)), PV.eq (vi ((Int.tdiv (k0 * kf) gq) * g6.Cost + ((Int.tdiv (k0 * kf) (2 * g6.Mean)) * gx))), PV.eq (vi (ko + ((Int.tdiv (k0 * kf) gq) * g6.Cost + ((Int.tdiv (k0 * kf) (2 * g6.Mean)) * gx)))), PV.eq (vi (ko + ((Int.tdiv (k0 * kf) gq) * g6.Cost + ((Int.tdiv (k0 * kf) (2 * g6.Mean)) * gx))))] (Steps_cons ?_ (Steps_cons ?_ (Steps_cons ?_ (Steps_cons ?_ (Steps_cons ?_ (Steps_cons ?_ (Steps_cons ?_ (Steps_cons ?_ (Steps_cons ?_ (Steps_cons ?_ (Steps_cons ?_ (Steps_cons ?_ (Steps_cons ?_ (Steps_cons ?_ (Steps_cons ?_ (Steps_cons ?_ (Steps_cons ?_ (Steps_cons ?_ (Steps_cons ?_ (Steps_cons ?_ (Steps_cons ?_ (Steps_cons ?_ (Steps_cons ?_ Steps_nil))))))))))))))))))))))) ?_
      ·intro u2 u3 u4 u5 u6 Q u7; have u9 : u2 13 = vi (ko) := (u6 13 (by kernel_rfl)).trans kw; exact mv u9 (fin u7 rfl)
      ·intro u2 u3 u4 u5 u6 Q u7; have u9 : u2 10 = vi (k0 * kf) := (u6 10 (by kernel_rfl)).trans g0; exact mv u9 (fin u7 rfl)
      ·intro u2 u3 u4 u5 u6 Q u7; have u9 : u2 7 = jk := (u6 7 (by kernel_rfl)).trans kz; refine mv u9 ?_; have ua := ((((g4).ext gg).tch gn (fun k hk => gl k hk)).ext u4).toV; exact fin u7 ua
      ·intro u2 u3 u4 u5 u6 Q u7; have u9 : u2 14 = vi (kp) := (u6 14 (by kernel_rfl)).trans rfl; exact mv u9 (fin u7 rfl)
      ·intro u2 u3 u4 u5 u6 Q u7; have u9 : V _ (u2 72) (jl : List Int) := u5 2 72 (by kernel_rfl) (by kernel_rfl); obtain ⟨ua, ub, uc⟩ : ∃ v, _ = v ∧ V _ v _ := ⟨_, rfl, u9⟩; have ud : u2 73 = vi (kp) := u5 3 73 (by kernel_rfl) (by kernel_rfl); exact ix Try.underlying40 ty3.inf ub uc ud gr (fun ue uf => fin u7 uf)
      ·intro u2 u3 u4 u5 u6 Q u7; have u9 : Ptr _ (u2 74) (gq : Int) := u5 4 74 (by kernel_rfl) (by kernel_rfl); obtain ⟨ua, ub, uc⟩ : ∃ v, _ = v ∧ Ptr _ v _ := ⟨_, rfl, u9⟩; exact li ty3 ub uc (fin u7 rfl)
      ·intro u2 u3 u4 u5 u6 Q u7; have u9 : u2 71 = vi (k0 * kf) := u5 1 71 (by kernel_rfl) (by kernel_rfl); have ua : u2 75 = vi (gq) := u5 5 75 (by kernel_rfl) (by kernel_rfl); exact L_quo u9 ua gs.1 gs.2 (by decide) (fin u7 rfl)
      ·intro u2 u3 u4 u5 u6 Q u7; have u9 : u2 15 = Value.pointer (some ⟨gd, 0, none⟩) := (u6 15 (by kernel_rfl)).trans rfl; exact fa fld39_0 Level.of_Cost u9 (go.mono u4.le) (fun ua ub => fin u7 ub)
      ·intro u2 u3 u4 u5 u6 Q u7; have u9 : Ptr _ (u2 77) (g6.Cost : Int) := u5 7 77 (by kernel_rfl) (by kernel_rfl); obtain ⟨ua, ub, uc⟩ : ∃ v, _ = v ∧ Ptr _ v _ := ⟨_, rfl, u9⟩; exact li ty3 ub uc (fin u7 rfl)
      ·intro u2 u3 u4 u5 u6 Q u7; have u9 : u2 76 = vi (Int.tdiv (k0 * kf) gq) := u5 6 76 (by kernel_rfl) (by kernel_rfl); have ua : u2 78 = vi (g6.Cost) := u5 8 78 (by kernel_rfl) (by kernel_rfl); exact L_mul u9 ua gu (by decide) (fin u7 rfl)
      ·intro u2 u3 u4 u5 u6 Q u7; have u9 : u2 10 = vi (k0 * kf) := (u6 10 (by kernel_rfl)).trans g0; exact mv u9 (fin u7 rfl)
      ·intro u2 u3 u4 u5 u6 Q u7; have u9 : u2 15 = Value.pointer (some ⟨gd, 0, none⟩) := (u6 15 (by kernel_rfl)).trans rfl; exact fa fld39_1 Level.of_Mean u9 (go.mono u4.le) (fun ua ub => fin u7 ub)
      ·intro u2 u3 u4 u5 u6 Q u7; have u9 : Ptr _ (u2 81) (g6.Mean : Int) := u5 11 81 (by kernel_rfl) (by kernel_rfl); obtain ⟨ua, ub, uc⟩ : ∃ v, _ = v ∧ Ptr _ v _ := ⟨_, rfl, u9⟩; exact li ty3 ub uc (fin u7 rfl)
      ·intro u2 u3 u4 u5 u6 Q u7; have u9 : u2 82 = vi (g6.Mean) := u5 12 82 (by kernel_rfl) (by kernel_rfl); exact L_mul (rv (vi 2)) u9 gv (by decide) (fin u7 rfl)
      ·intro u2 u3 u4 u5 u6 Q u7; have u9 : u2 80 = vi (k0 * kf) := u5 10 80 (by kernel_rfl) (by kernel_rfl); have ua : u2 83 = vi (2 * g6.Mean) := u5 13 83 (by kernel_rfl) (by kernel_rfl); exact L_quo u9 ua gw.1 gw.2 (by decide) (fin u7 rfl)
      ·intro u2 u3 u4 u5 u6 Q u7; have u9 : u2 7 = jk := (u6 7 (by kernel_rfl)).trans kz; refine mv u9 ?_; have ua := ((((g4).ext gg).tch gn (fun k hk => gl k hk)).ext u4).toV; exact fin u7 ua
      ·intro u2 u3 u4 u5 u6 Q u7; have u9 : u2 14 = vi (kp) := (u6 14 (by kernel_rfl)).trans rfl; exact mv u9 (fin u7 rfl)
      ·intro u2 u3 u4 u5 u6 Q u7; have u9 : V _ (u2 85) (jl : List Int) := u5 15 85 (by kernel_rfl) (by kernel_rfl); obtain ⟨ua, ub, uc⟩ : ∃ v, _ = v ∧ V _ v _ := ⟨_, rfl, u9⟩; have ud : u2 86 = vi (kp) := u5 16 86 (by kernel_rfl) (by kernel_rfl); exact ix Try.underlying40 ty3.inf ub uc ud gy (fun ue uf => fin u7 uf)
      ·intro u2 u3 u4 u5 u6 Q u7; have u9 : Ptr _ (u2 87) (gx : Int) := u5 17 87 (by kernel_rfl) (by kernel_rfl); obtain ⟨ua, ub, uc⟩ : ∃ v, _ = v ∧ Ptr _ v _ := ⟨_, rfl, u9⟩; exact li ty3 ub uc (fin u7 rfl)
      ·intro u2 u3 u4 u5 u6 Q u7; have u9 : u2 84 = vi (Int.tdiv (k0 * kf) (2 * g6.Mean)) := u5 14 84 (by kernel_rfl) (by kernel_rfl); have ua : u2 88 = vi (gx) := u5 18 88 (by kernel_rfl) (by kernel_rfl); exact L_mul u9 ua gz (by decide) (fin u7 rfl)
      ·intro u2 u3 u4 u5 u6 Q u7; have u9 : u2 79 = vi ((Int.tdiv (k0 * kf) gq) * g6.Cost) := u5 9 79 (by kernel_rfl) (by kernel_rfl); have ua : u2 89 = vi ((Int.tdiv (k0 * kf) (2 * g6.Mean)) * gx) := u5 19 89 (by kernel_rfl) (by kernel_rfl); exact ad u9 ua u0 (fin u7 rfl)
      ·intro u2 u3 u4 u5 u6 Q u7; have u9 : u2 70 = vi (ko) := u5 0 70 (by kernel_rfl) (by kernel_rfl); have ua : u2 90 = vi ((Int.tdiv (k0 * kf) gq) * g6.Cost + ((Int.tdiv (k0 * kf) (2 * g6.Mean)) * gx)) := u5 20 90 (by kernel_rfl) (by kernel_rfl); exact ad u9 ua u1 (fin u7 rfl)
      ·intro u2 u3 u4 u5 u6 Q u7; have u9 : u2 91 = vi (ko + ((Int.tdiv (k0 * kf) gq) * g6.Cost + ((Int.tdiv (k0 * kf) (2 * g6.Mean)) * gx))) := u5 21 91 (by kernel_rfl) (by kernel_rfl); exact asg u9 (fin u7 rfl)
      ·intro u2 u3 u4 u5 u6; have u7 := Tch.ext gp u4; have u9 : u2 6 = Value.pointer (some ⟨j2, 0, none⟩) := (u6 6 (by kernel_rfl)).trans ky; have ua : u2 7 = jk := (u6 7 (by kernel_rfl)).trans kz; have ub : u2 10 = vi (k0 * kf) := (u6 10 (by kernel_rfl)).trans g0; have uc : u2 13 = vi (ko + ((Int.tdiv (k0 * kf) gq) * g6.Cost + ((Int.tdiv (k0 * kf) (2 * g6.Mean)) * gx))) := u5 22 13 (by kernel_rfl); have ud : u2 63 = w0 := (u6 63 (by kernel_rfl)).trans g1; have ue : u2 64 = vi ((a0.length : Int)) := (u6 64 (by kernel_rfl)).trans g2; have uf : u2 65 = vi (kp) := (u6 65 (by kernel_rfl)).trans kx; refine block_n (then_n (W_region ?_)); obtain ⟨ug, hr⟩ := chk_some hr; exact ad uf (rv (vi 1)) ug (mv (rv (vi (kp + 1))) (nn ⟨kq, Nat.lt_succ_self _, ⟨u3, (ko + ((Int.tdiv (k0 * kf) gq) * g6.Cost + ((Int.tdiv (k0 * kf) (2 * g6.Mean)) * gx))), (kp + 1), rfl, u7, (kv.trans (gg.le.trans (gn.le.trans u4.le))), hr, uc, rfl, u9, ua, ub, ud, ue, (((g3).ext gg).tch gn ((fun k hk => gk k hk) j2 rfl)).ext u4, (((g4).ext gg).tch gn (fun k hk => gl k hk)).ext u4⟩⟩))
     ·have hr := ite_f g5 hr; refine W_exit (then_x (then_x (block_here ?_))); exact then_n ⟨kt, ko, rfl, ku, kv, Option.some.inj hr, kw, ky, g0, g3⟩
   ·rintro ko kp ⟨kq, kn, rfl, kr, ks, kl, kt, ku, kv, kw⟩
    subst kl
    have hr := km
    try dsimp only at hr
    refine then_n (sr (mv kt (mv kv ?_)))
    obtain ⟨kx, ky, hr⟩ := bind_some hr
    refine L_calls cal77 (args2 (rv (vi kn)) (rv (vi (k0 * kf)))) (check_divisor_ok N _ kn (k0 * kf) kx ky) (by decide) (fun kz g0 g1 g2 => ?_)
    have g3 := Tch.ext kr g1
    obtain rfl := g2.int
    refine asg (rv (vi kx)) (nn (W_seq ?_))
    obtain ⟨g4, hr⟩ := chk_some hr
    obtain ⟨g5, hr⟩ := chk_some hr
    refine W_drawO mixed 8 [PX.eq (vi kn), PX.eq (vi kx), PX.eq (vi (Int.tdiv kn kx)), PX.eq (vi (k0 * kf)), PX.eq (vi kx), PX.eq (vi (Int.tdiv (k0 * kf) kx)), PX.data ((⟨Int.tdiv kn kx, Int.tdiv (k0 * kf) kx⟩ : Loss) : Loss), PX.var s0.w.heap.size 44 ((⟨Int.tdiv kn kx, Int.tdiv (k0 * kf) kx⟩ : Loss) : Loss), PX.var s0.w.heap.size 44 ((⟨0, 0⟩ : Loss) : Loss)] [96, 97, 98, 99, 100, 101, 102, 6, 6] [[], [], [], [], [], [], [], [8]] rfl (by kernel_rfl) (ent1 rfl ⟨j2, ku, (Nat.le_trans j0.size j4), (kw).ext g1⟩) (dis1 rfl) (StepsX_cons ?_ (StepsX_cons ?_ (StepsX_cons ?_ (StepsX_cons ?_ (StepsX_cons ?_ (StepsX_cons ?_ (StepsX_cons ?_ (StepsX_cons ?_ StepsX_nil)))))))) ?_
    ·intro g6 g7 g8 g9 ga gb Q gc; have gd : g6 13 = vi (kn) := (ga 13 (by kernel_rfl)).trans kt; exact mv gd (L_nil (gc _ _ No (Ext.refl g7) (fun _ h => h.elim) rfl (fun _ h => h.elim)))
    ·intro g6 g7 g8 g9 ga gb Q gc; have gd : g6 16 = vi (kx) := (ga 16 (by kernel_rfl)).trans rfl; exact mv gd (L_nil (gc _ _ No (Ext.refl g7) (fun _ h => h.elim) rfl (fun _ h => h.elim)))
    ·intro g6 g7 g8 g9 ga gb Q gc; have gd : g6 96 = vi (kn) := g9 0 (by kernel_rfl) (by show _ < 9; decide); have gg : g6 97 = vi (kx) := g9 1 (by kernel_rfl) (by show _ < 9; decide); exact L_quo gd gg g4.1 g4.2 (by decide) (L_nil (gc _ _ No (Ext.refl g7) (fun _ h => h.elim) rfl (fun _ h => h.elim)))
    ·intro g6 g7 g8 g9 ga gb Q gc; have gd : g6 10 = vi (k0 * kf) := (ga 10 (by kernel_rfl)).trans kv; exact mv gd (L_nil (gc _ _ No (Ext.refl g7) (fun _ h => h.elim) rfl (fun _ h => h.elim)))
    ·intro g6 g7 g8 g9 ga gb Q gc; have gd : g6 16 = vi (kx) := (ga 16 (by kernel_rfl)).trans rfl; exact mv gd (L_nil (gc _ _ No (Ext.refl g7) (fun _ h => h.elim) rfl (fun _ h => h.elim)))
    ·intro g6 g7 g8 g9 ga gb Q gc; have gd : g6 99 = vi (k0 * kf) := g9 3 (by kernel_rfl) (by show _ < 9; decide); have gg : g6 100 = vi (kx) := g9 4 (by kernel_rfl) (by show _ < 9; decide); exact L_quo gd gg g5.1 g5.2 (by decide) (L_nil (gc _ _ No (Ext.refl g7) (fun _ h => h.elim) rfl (fun _ h => h.elim)))
    ·intro g6 g7 g8 g9 ga gb Q gc; have gd : g6 98 = vi (Int.tdiv kn kx) := g9 2 (by kernel_rfl) (by show _ < 9; decide); have gg : g6 101 = vi (Int.tdiv (k0 * kf) kx) := g9 5 (by kernel_rfl) (by show _ < 9; decide); exact L_bld44_0_1 (s := g7) gd gg (Vint : V _ _ (Int.tdiv kn kx : Int)) (Vint : V _ _ (Int.tdiv (k0 * kf) kx : Int)) (by decide) (fun gh gi => L_nil (gc _ _ No (Ext.refl g7) (fun _ h => h.elim) gi (fun _ h => h.elim)))
    ·intro g6 g7 g8 g9 ga gb Q gc
     obtain ⟨gd, gg, gh, gi⟩ : ∃ b, g6 6 = Value.pointer (some ⟨b, 0, none⟩) ∧ s0.w.heap.size ≤ b ∧ Var g7 b 44 ((⟨0, 0⟩ : Loss) : Loss) := g9 8 (by kernel_rfl) (by show _ < 9; decide)
     have gj : g6 6 = Value.pointer (some ⟨j2, 0, none⟩) := (ga 6 (by kernel_rfl)).trans ku
     have gk : gd = j2 := by have jf := gg.symm.trans gj; cases jf; rfl
     rw [gk] at gh gi
     have gl : V _ (g6 102) ((⟨Int.tdiv kn kx, Int.tdiv (k0 * kf) kx⟩ : Loss) : Loss) := g9 6 (by kernel_rfl) (by show _ < 9; decide)
     obtain ⟨gm, gn, go⟩ : ∃ v, _ = v ∧ V _ v _ := ⟨_, rfl, gl⟩
     exact L_store ty44 gj gn go (gi) (fun gp gq gr => L_nil (gc undef _ _ gq (fun k h => ⟨8, (List.mem_singleton.2 rfl : (8 : Nat) ∈ [8]), (by show ownP (g6 6) k; rw [gj]; exact congrArg (fun z => Value.pointer (some ⟨z, 0, none⟩)) h.symm)⟩) ⟨_, gj, gh, gr⟩ (fun k h => Or.inl ⟨8, (List.mem_singleton.2 rfl : (8 : Nat) ∈ [8]), h⟩)))
    ·intro g6 g7 g8 g9 ga gb gc
     have gd := Tch.trans g3 g8 (fun k h => Or.inr (by have h2 := ent_is (k := 8) rfl rfl h; have jf := Eq.mp (congrArg (fun v => ownP v k) (ku : _ = Value.pointer (some ⟨j2, 0, none⟩))) h2; cases jf; exact (Nat.le_trans j0.size j4)))
     obtain ⟨gg, gh, gi, gj⟩ : ∃ b, g6 6 = Value.pointer (some ⟨b, 0, none⟩) ∧ s0.w.heap.size ≤ b ∧ Var g7 b 44 ((⟨Int.tdiv kn kx, Int.tdiv (k0 * kf) kx⟩ : Loss) : Loss) := g9 7 (by show _ < 9; decide) (by kernel_rfl)
     have gk : g6 6 = Value.pointer (some ⟨j2, 0, none⟩) := (gc 6 (by kernel_rfl)).trans ku
     have gl : gg = j2 := by have jf := gh.symm.trans gk; cases jf; rfl
     rw [gl] at gi gj
     refine then_n (W_ret ?_)
     obtain rfl := Option.some.inj hr
     exact done_c (Or.inl rfl) Try.results48 ty44 gk (gj) (fun v hv => ⟨_, _, rfl, rfl, gd, hv⟩)

theorem cmp_Or_int_ok (N : Nat) (s0 : St) (w0 : Value) (a0 : List Int) (h0 : V s0 w0 a0) (r : Int) (hr : cmp_Or_int N a0 = some r) :
    Calls Try.prog 79 #[w0] s0.w (Ret s0 fun v s => V s v r) := by
 unfold cmp_Or_int at hr
 have j0 := Ext.refl s0
 refine Calls_of (n := 18) (args := [w0]) Try.func79 rfl rfl (by simp) (sr (asg (rv (vi 0)) (nn (sr (asg (rv (vi 0)) (nn (W_seq (sr (mv (rv w0) (ln Try.underlying40 (rv w0) h0 (mv (rv (vi 0)) (nn ?_))))))))))))
 obtain ⟨j1, j2, j3⟩ := bind_some hr
 refine W_cut (fun f w => ∃ (s : St), s.w = w ∧ Ext s0 s ∧ Le s0 s ∧ Sum.inl () = j1 ∧ f 3 = vi (0)) ?_ ?_
 ·refine W_block (W_loop (fun m f w => ∃ (s : St) (j4 : Int), s.w = w ∧ Ext s0 s ∧ Le s0 s ∧ cmp_Or_int_l1 N a0 m j4 = some j1 ∧ f 8 = vi j4 ∧ f 3 = vi (0) ∧ f 6 = w0 ∧ f 7 = vi ((a0.length : Int))) N ⟨s0, 0, rfl, j0, (Le.refl _), j2, rfl, rfl, rfl, rfl⟩ ?_)
  rintro j5 j6 j7 ⟨j8, j4, rfl, j9, ja, hr, jb, jc, jd, je⟩
  cases j5 with
  | zero => exact absurd hr (by simp [cmp_Or_int_l1])
  | succ j5 =>
   rw [cmp_Or_int_l1.eq_2] at hr
   refine sr (ls jb je (nn (W_seq ?_)))
   refine W_cond _ (rv (vb (decide (j4 < (a0.length : Int))))) (fun jf => ?_) (fun jf => ?_)
   ·have hr := ite_t jf hr
    refine W_skip (then_n (W_seq (W_block (sr ?_))))
    obtain ⟨jg, jh, hr⟩ := bind_some hr
    refine ix Try.underlying40 ty3.inf jd (h0.mono ja) jb jh (fun ji jj => li ty3 (rv ji) jj (asg (rv (vi jg)) (nn (sr (mv (rv (vi jg)) (mv jc (ne (rv (vi jg)) (rv (vi 0)) (nn ?_))))))))
    refine W_cond _ (rv (vb (!decide (jg = 0)))) (fun jk => ?_) (fun jk => ?_)
    ·have hr := ite_t jk hr; refine sr (mv (rv (vi jg)) (asg (rv (vi jg)) (nn (W_ret (block_r (then_r (then_r (block_r ?_)))))))); obtain rfl := Option.some.inj hr; have hr := j3; (try dsimp only at hr); refine then_r (then_r ?_); obtain rfl := Option.some.inj hr; exact done1 (Or.inl rfl) Try.results79 rfl ⟨_, _, rfl, rfl, j9, Vint⟩
    ·have hr := ite_f jk hr; refine W_skip (block_n (then_n (W_region ?_))); obtain ⟨jl, hr⟩ := chk_some hr; exact ad jb (rv (vi 1)) jl (mv (rv (vi (j4 + 1))) (nn ⟨j5, Nat.lt_succ_self _, ⟨j8, (j4 + 1), rfl, j9, ja, hr, rfl, jc, jd, je⟩⟩))
   ·have hr := ite_f jf hr; refine W_exit (then_x (then_x (block_here ?_))); exact then_n ⟨j8, rfl, j9, ja, Option.some.inj hr, jc⟩
 ·rintro j4 j5 ⟨j6, rfl, j7, j8, j2, j9⟩; subst j2; have hr := j3; (try dsimp only at hr); refine then_n (sr (mv j9 (asg (rv (vi 0)) (nn (W_ret ?_))))); obtain rfl := Option.some.inj hr; exact done1 (Or.inl rfl) Try.results79 rfl ⟨_, _, rfl, rfl, j7, Vint⟩

theorem cmp_isNaN_uint64_ok (N : Nat) (s0 : St) (a0 : U64) (r : Bool) (hr : cmp_isNaN_uint64 N a0 = some r) :
    Calls Try.prog 91 #[.int .u64 a0.n] s0.w (Ret s0 fun v s => V s v r) := by
 unfold cmp_isNaN_uint64 at hr
 have j0 := Ext.refl s0
 refine Calls_of (n := 6) (args := [.int .u64 a0.n]) Try.func91 rfl rfl (by simp) (sr (asg (rv (vb false)) (nn (sr (mv (rv (Value.int .u64 (a0).n)) (mv (rv (Value.int .u64 (a0).n)) (ne (rv (Value.int .u64 (a0).n)) (rv (Value.int .u64 (a0).n)) (asg (rv (vb (!decide (a0.n = a0.n)))) (nn (W_ret ?_))))))))))
 obtain rfl := Option.some.inj hr
 exact done1 (Or.inl rfl) Try.results91 rfl ⟨_, _, rfl, rfl, j0, Vbool⟩

theorem cmp_Compare_uint64_ok (N : Nat) (s0 : St) (a0 : U64) (a1 : U64) (r : Int) (hr : cmp_Compare_uint64 N a0 a1 = some r) :
    Calls Try.prog 80 #[.int .u64 a0.n, .int .u64 a1.n] s0.w (Ret s0 fun v s => V s v r) := by
 unfold cmp_Compare_uint64 at hr
 have j0 := Ext.refl s0
 refine Calls_of (n := 20) (args := [.int .u64 a0.n, .int .u64 a1.n]) Try.func80 rfl rfl (by simp) (sr (asg (rv (vi 0)) (nn (sr (mv (rv (Value.int .u64 (a0).n)) ?_)))))
 obtain ⟨j1, j2, hr⟩ := bind_some hr
 refine L_calls cal91 (args1 (rv (Value.int .u64 (a0).n))) (cmp_isNaN_uint64_ok N _ a0 j1 j2) (by decide) (fun j3 j4 j5 j6 => ?_)
 have j7 := Tch.ext j0 j5
 obtain rfl := j6.bool
 refine asg (rv (vb j1)) (nn (sr (mv (rv (Value.int .u64 (a1).n)) ?_)))
 obtain ⟨j8, j9, hr⟩ := bind_some hr
 refine L_calls cal91 (args1 (rv (Value.int .u64 (a1).n))) (cmp_isNaN_uint64_ok N _ a1 j8 j9) (by decide) (fun ja jb jc jd => ?_)
 have je := Tch.ext j7 jc
 obtain rfl := jd.bool
 refine asg (rv (vb j8)) (nn (W_seq (sr (mv (rv (vb j1)) (nn ?_)))))
 refine W_cond _ (rv (vb j1)) (fun jf => ?_) (fun jf => ?_)
 ·have hr := ite_t jf hr
  refine W_seq (sr (mv (rv (vb j8)) (nn ?_)))
  refine W_cond _ (rv (vb j8)) (fun jg => ?_) (fun jg => ?_)
  ·have hr := ite_t jg hr; refine sr (asg (rv (vi 0)) (nn (W_ret (then_r (then_r ?_))))); obtain rfl := Option.some.inj hr; exact done1 (Or.inl rfl) Try.results80 rfl ⟨_, _, rfl, rfl, je, Vint⟩
  ·have hr := ite_f jg hr; refine W_skip (then_n (sr (asg (rv (vi (-1))) (nn (W_ret (then_r ?_)))))); obtain rfl := Option.some.inj hr; exact done1 (Or.inl rfl) Try.results80 rfl ⟨_, _, rfl, rfl, je, Vint⟩
 ·have hr := ite_f jf hr
  refine W_skip (then_n (W_seq (sr (mv (rv (vb j8)) (nn ?_)))))
  refine W_cond _ (rv (vb j8)) (fun jg => ?_) (fun jg => ?_)
  ·have hr := ite_t jg hr; refine sr (asg (rv (vi 1)) (nn (W_ret (then_r ?_)))); obtain rfl := Option.some.inj hr; exact done1 (Or.inl rfl) Try.results80 rfl ⟨_, _, rfl, rfl, je, Vint⟩
  ·have hr := ite_f jg hr
   refine W_skip (then_n (W_seq (sr (mv (rv (Value.int .u64 (a0).n)) (mv (rv (Value.int .u64 (a1).n)) (ls (rv (Value.int .u64 (a0).n)) (rv (Value.int .u64 (a1).n)) (nn ?_)))))))
   refine W_cond _ (rv (vb (decide (a0.n < a1.n)))) (fun jh => ?_) (fun jh => ?_)
   ·have hr := ite_t jh hr; refine sr (asg (rv (vi (-1))) (nn (W_ret (then_r ?_)))); obtain rfl := Option.some.inj hr; exact done1 (Or.inl rfl) Try.results80 rfl ⟨_, _, rfl, rfl, je, Vint⟩
   ·have hr := ite_f jh hr
    refine W_skip (then_n (W_seq (sr (mv (rv (Value.int .u64 (a0).n)) (mv (rv (Value.int .u64 (a1).n)) (L_gtr (rv (Value.int .u64 (a0).n)) (rv (Value.int .u64 (a1).n)) (by decide) (nn ?_)))))))
    refine W_cond _ (rv (vb (decide (a1.n < a0.n)))) (fun ji => ?_) (fun ji => ?_)
    ·have hr := ite_t ji hr; refine sr (asg (rv (vi 1)) (nn (W_ret (then_r ?_)))); obtain rfl := Option.some.inj hr; exact done1 (Or.inl rfl) Try.results80 rfl ⟨_, _, rfl, rfl, je, Vint⟩
    ·have hr := ite_f ji hr; refine W_skip (then_n (sr (asg (rv (vi 0)) (nn (W_ret ?_))))); obtain rfl := Option.some.inj hr; exact done1 (Or.inl rfl) Try.results80 rfl ⟨_, _, rfl, rfl, je, Vint⟩

theorem check_Loss_compare_ok (N : Nat) (s0 : St) (w0 : Value) (a0 : Loss) (h0 : V s0 w0 a0) (w1 : Value) (a1 : Loss) (h1 : V s0 w1 a1) (r : Int) (hr : check_Loss_compare N a0 a1 = some r) :
    Calls Try.prog 49 #[w0, w1] s0.w (Ret s0 fun v s => V s v r) := by
 unfold check_Loss_compare at hr
 have j0 := Ext.refl s0
 refine Calls_of (n := 37) (args := [w0, w1]) Try.func49 rfl rfl (by simp) (sr (L_box (rv w0) h0 (by decide) (fun j1 j2 j3 j4 => ?_)))
 have j5 := Tch.ext j0 j3
 refine L_box (rv w1) (h1.mono j3.le) (by decide) (fun j6 j7 j8 j9 => ?_)
 have ja := Tch.ext j5 j8
 refine asg (rv (vi 0)) (nn (sr (fa fld44_0 Loss.of_Num (rv j2) (j4.mono j8.le) (fun jb jc => li ty3 (rv jb) jc (L_convK Try.underlying3 Try.underlying163 (rv (vi (a0.Num))) (by decide) (fa fld44_1 Loss.of_Den (rv j7) j9 (fun jd je => li ty3 (rv jd) je (L_convK Try.underlying3 Try.underlying163 (rv (vi (a1.Den))) (by decide) ?_))))))))
 obtain ⟨jf, jg, hr⟩ := bind_some hr
 refine L_calls cal78 (args2 (rv (Value.int .u64 ((⟨convK .u64 a0.Num⟩ : U64)).n)) (rv (Value.int .u64 ((⟨convK .u64 a1.Den⟩ : U64)).n))) (math_bits_Mul64_ok N _ (⟨convK .u64 a0.Num⟩ : U64) (⟨convK .u64 a1.Den⟩ : U64) jf jg) (by decide) (fun jh ji jj jk => ?_)
 have jl := Tch.ext ja jj
 obtain ⟨jm, jn, rfl, jo, jp⟩ := jk
 obtain rfl := jo.u64
 obtain rfl := jp.u64
 refine mv (rv (Value.tuple #[Value.int .u64 (jf.1).n, Value.int .u64 (jf.2).n])) (xt (rv (Value.tuple #[Value.int .u64 (jf.1).n, Value.int .u64 (jf.2).n])) (k := 0) rfl (xt (rv (Value.tuple #[Value.int .u64 (jf.1).n, Value.int .u64 (jf.2).n])) (k := 1) rfl (asg (rv (Value.int .u64 (jf.1).n)) (asg (rv (Value.int .u64 (jf.2).n)) (nn (sr (fa fld44_0 Loss.of_Num (rv j7) (j9.mono jj.le) (fun jq jr => li ty3 (rv jq) jr (L_convK Try.underlying3 Try.underlying163 (rv (vi (a1.Num))) (by decide) (fa fld44_1 Loss.of_Den (rv j2) (j4.mono (j8.le.trans jj.le)) (fun js jt => li ty3 (rv js) jt (L_convK Try.underlying3 Try.underlying163 (rv (vi (a0.Den))) (by decide) ?_))))))))))))
 obtain ⟨ju, jv, hr⟩ := bind_some hr
 refine L_calls cal78 (args2 (rv (Value.int .u64 ((⟨convK .u64 a1.Num⟩ : U64)).n)) (rv (Value.int .u64 ((⟨convK .u64 a0.Den⟩ : U64)).n))) (math_bits_Mul64_ok N _ (⟨convK .u64 a1.Num⟩ : U64) (⟨convK .u64 a0.Den⟩ : U64) ju jv) (by decide) (fun jw jx jy jz => ?_)
 have k0 := Tch.ext jl jy
 obtain ⟨k1, k2, rfl, k3, k4⟩ := jz
 obtain rfl := k3.u64
 obtain rfl := k4.u64
 refine mv (rv (Value.tuple #[Value.int .u64 (ju.1).n, Value.int .u64 (ju.2).n])) (xt (rv (Value.tuple #[Value.int .u64 (ju.1).n, Value.int .u64 (ju.2).n])) (k := 0) rfl (xt (rv (Value.tuple #[Value.int .u64 (ju.1).n, Value.int .u64 (ju.2).n])) (k := 1) rfl (asg (rv (Value.int .u64 (ju.1).n)) (asg (rv (Value.int .u64 (ju.2).n)) (nn (sr (mv (rv (Value.int .u64 (jf.1).n)) (mv (rv (Value.int .u64 (ju.1).n)) ?_))))))))
 obtain ⟨k5, k6, hr⟩ := bind_some hr
 refine L_calls cal80 (args2 (rv (Value.int .u64 (jf.1).n)) (rv (Value.int .u64 (ju.1).n))) (cmp_Compare_uint64_ok N _ jf.1 ju.1 k5 k6) (by decide) (fun k7 k8 k9 ka => ?_)
 have kb := Tch.ext k0 k9
 obtain rfl := ka.int
 refine mv (rv (Value.int .u64 (jf.2).n)) (mv (rv (Value.int .u64 (ju.2).n)) ?_)
 obtain ⟨kc, kd, hr⟩ := bind_some hr
 refine L_calls cal80 (args2 (rv (Value.int .u64 (jf.2).n)) (rv (Value.int .u64 (ju.2).n))) (cmp_Compare_uint64_ok N _ jf.2 ju.2 kc kd) (by decide) (fun ke kf kg kh => ?_)
 have ki := Tch.ext kb kg
 obtain rfl := kh.int
 refine L_buildSlice (xs := ([k5, kc] : List Int)) Try.underlying40 tyz3 (Parts_cons rfl (rv (vi k5)) (Parts_cons rfl (rv (vi kc)) Parts_nil)) (Vs.cons Vint (Vs.cons Vint Vs.nil)) rfl (by decide) (by decide) (fun kj kk kl km kn => ?_)
 have ko := Tch.ext ki kl
 obtain ⟨kp, kq, hr⟩ := bind_some hr
 refine L_calls cal79 (args1 (rv kk)) (cmp_Or_int_ok N _ _ _ kn kp kq) (by decide) (fun kr ks kt ku => ?_)
 have kv := Tch.ext ko kt
 obtain rfl := ku.int
 refine asg (rv (vi kp)) (nn (W_ret ?_))
 obtain rfl := Option.some.inj hr
 exact done1 (Or.inl rfl) Try.results49 rfl ⟨_, _, rfl, rfl, kv, Vint⟩

theorem check_Best_1_ok (N : Nat) (s0 : St) (w0 : Value) (a0 : List Int) (h0 : V s0 w0 a0) (w1 : Value) (a1 : List Level) (h1 : Ptr s0 w1 a1) (bc1 : Nat) (a2 : Int) (hc1 : Var s0 bc1 3 a2) (bc2 : Nat) (a3 : Int) (hc2 : Var s0 bc2 3 a3) (n1_2 : bc1 ≠ bc2) (bc3 : Nat) (a4 : Loss) (hc3 : Var s0 bc3 44 a4) (n1_3 : bc1 ≠ bc3) (n2_3 : bc2 ≠ bc3) (bc4 : Nat) (a5 : List Int) (hc4 : Var s0 bc4 40 a5) (n1_4 : bc1 ≠ bc4) (n2_4 : bc2 ≠ bc4) (n3_4 : bc3 ≠ bc4) (r : Int × Loss × (List Int)) (hr : check_Best_1 N a0 a1 a2 a3 a4 a5 = some r) :
    Calls Try.prog 47 #[w0, w1, .pointer (some ⟨bc1, 0, none⟩), .pointer (some ⟨bc2, 0, none⟩), .pointer (some ⟨bc3, 0, none⟩), .pointer (some ⟨bc4, 0, none⟩)] s0.w (RetM (fun k => k = bc1 ∨ k = bc2 ∨ k = bc3 ∨ k = bc4) s0 fun _ s => Var s bc2 3 r.1 ∧ Var s bc3 44 r.2.1 ∧ Var s bc4 40 r.2.2 ∧ Var s bc1 3 a2) := by
 unfold check_Best_1 at hr
 have j0 : ∀ k, (fun k => k = bc1) k → ¬ (fun k => k = bc2) k := fun k h1 j1 => n1_2 (h1.symm.trans j1)
 have j2 : ∀ k, (fun k => k = bc1) k → ¬ (fun k => k = bc3) k := fun k h1 j1 => n1_3 (h1.symm.trans j1)
 have j3 : ∀ k, (fun k => k = bc2) k → ¬ (fun k => k = bc3) k := fun k h1 j1 => n2_3 (h1.symm.trans j1)
 have j4 : ∀ k, (fun k => k = bc1) k → ¬ (fun k => k = bc4) k := fun k h1 j1 => n1_4 (h1.symm.trans j1)
 have j5 : ∀ k, (fun k => k = bc2) k → ¬ (fun k => k = bc4) k := fun k h1 j1 => n2_4 (h1.symm.trans j1)
 have j6 : ∀ k, (fun k => k = bc3) k → ¬ (fun k => k = bc4) k := fun k h1 j1 => n3_4 (h1.symm.trans j1)
 have j7 := Tch.refl (fun k => k = bc1 ∨ k = bc2 ∨ k = bc3 ∨ k = bc4) s0
 refine Calls_of (n := 23) (args := [w0, w1, .pointer (some ⟨bc1, 0, none⟩), .pointer (some ⟨bc2, 0, none⟩), .pointer (some ⟨bc3, 0, none⟩), .pointer (some ⟨bc4, 0, none⟩)]) Try.func47 rfl rfl (by simp) (sr (ld ty37 (rv w1) h1 (fun j8 j9 => L_load_var ty3 (rv (Value.pointer (some ⟨bc1, 0, none⟩))) (hc1) (by decide) (fun ja jb => ?_))))
 obtain rfl := jb.int
 refine mv (rv w0) ?_
 obtain ⟨jc, jd, hr⟩ := bind_some hr
 refine L_calls cal48 (args3 (rv j8) (rv (vi a2)) (rv w0)) (check_lose_ok N _ _ _ j9 a2 _ _ h0 jc jd) (by decide) (fun je jf jg jh => ?_)
 have ji := Tch.ext j7 jg
 refine L_alloc (α := Loss) (x := ⟨0, 0⟩) zero44 Loss.zero_rel (by decide) (fun jj jk jl jm jn => ?_)
 have jo := Tch.ext ji jl
 have jp : ∀ k, (fun k => k = bc1) k → ¬ (fun k => k = jk) k := fun k h1 j1 => by have jq := (fun k (hk : k = bc1) => lt_at hk ((hc1).ext jg).lt) k h1; have jr := jm; subst j1; omega
 have js : ∀ k, (fun k => k = bc2) k → ¬ (fun k => k = jk) k := fun k h1 j1 => by have jq := (fun k (hk : k = bc2) => lt_at hk ((hc2).ext jg).lt) k h1; have jr := jm; subst j1; omega
 have jt : ∀ k, (fun k => k = bc3) k → ¬ (fun k => k = jk) k := fun k h1 j1 => by have jq := (fun k (hk : k = bc3) => lt_at hk ((hc3).ext jg).lt) k h1; have jr := jm; subst j1; omega
 have ju : ∀ k, (fun k => k = bc4) k → ¬ (fun k => k = jk) k := fun k h1 j1 => by have jq := (fun k (hk : k = bc4) => lt_at hk ((hc4).ext jg).lt) k h1; have jr := jm; subst j1; omega
 refine L_store_ro ty44 (rv (Value.pointer (some ⟨jk, 0, none⟩))) (rv je) (jh.mono jl.le) (jn) (fun jv jw jx => ?_)
 have jy := Tch.trans jo jw (fun k hk => Or.inr (by subst hk; exact (Nat.le_trans ji.size jm)))
 refine nn ?_
 obtain ⟨jz, k0, k1⟩ := bind_some hr
 refine W_seq_cut (fun f w => ∃ (s : St) (k2 : Bool), s.w = w ∧ Tch (fun k => k = bc1 ∨ k = bc2 ∨ k = bc3 ∨ k = bc4) s0 s ∧ Le jv s ∧ k2 = jz ∧ f 19 = vb k2 ∧ f 0 = w0 ∧ f 2 = Value.pointer (some ⟨bc1, 0, none⟩) ∧ f 3 = Value.pointer (some ⟨bc2, 0, none⟩) ∧ f 4 = Value.pointer (some ⟨bc3, 0, none⟩) ∧ f 5 = Value.pointer (some ⟨bc4, 0, none⟩) ∧ f 7 = Value.pointer (some ⟨jk, 0, none⟩) ∧ Var s bc1 3 a2 ∧ Var s bc2 3 a3 ∧ Var s bc3 44 a4 ∧ Var s bc4 40 a5) ?_ ?_
 ·have hr := k0
  refine W_region (L_load_var ty3 (rv (Value.pointer (some ⟨bc2, 0, none⟩))) ((((hc2).ext jg).ext jl).tch jw ((fun k hk => js k hk) bc2 rfl)) (by decide) (fun k3 k4 => ?_))
  obtain rfl := k4.int
  refine el (rv (vi a3)) (rv (vi 0)) (mv (rv (vb (decide (a3 = 0)))) ?_)
  rcases tf (decide (a3 = 0)) with k5 | k5
  ·have hr := ite_t k5 hr; exact gf 14 (rv (vb (decide (a3 = 0)))) k5 (gf 14 (rv (vb (decide (a3 = 0)))) k5 (gf 14 (rv (vb (decide (a3 = 0)))) k5 (gf 14 (rv (vb (decide (a3 = 0)))) k5 (pt (rv (vb (decide (a3 = 0)))) k5 (rv (vb true)) (nn ⟨jv, true, rfl, jy, (Le.refl _), Option.some.inj hr, rfl, rfl, rfl, rfl, rfl, rfl, rfl, (((hc1).ext jg).ext jl).tch jw ((fun k hk => jp k hk) bc1 rfl), (((hc2).ext jg).ext jl).tch jw ((fun k hk => js k hk) bc2 rfl), (((hc3).ext jg).ext jl).tch jw ((fun k hk => jt k hk) bc3 rfl), (((hc4).ext jg).ext jl).tch jw ((fun k hk => ju k hk) bc4 rfl)⟩)))))
  ·have hr := ite_f k5 hr; refine gt 14 (rv (vb (decide (a3 = 0)))) k5 (ld ty44 (rv (Value.pointer (some ⟨jk, 0, none⟩))) jx (fun k6 k7 => gt 14 (rv (vb (decide (a3 = 0)))) k5 (L_load_var ty44 (rv (Value.pointer (some ⟨bc3, 0, none⟩))) ((((hc3).ext jg).ext jl).tch jw ((fun k hk => jt k hk) bc3 rfl)) (by decide) (fun k8 k9 => gt 14 (rv (vb (decide (a3 = 0)))) k5 ?_)))); obtain ⟨ka, kb, hr⟩ := bind_some hr; refine L_calls cal49 (args2 (rv k6) (rv k8)) (check_Loss_compare_ok N _ _ _ k7 _ _ k9 ka kb) (by decide) (fun kc kd ke kf => ?_); have kg := Tch.ext jy ke; obtain rfl := kf.int; exact gt 14 (rv (vb (decide (a3 = 0)))) k5 (ls (rv (vi ka)) (rv (vi 0)) (pf (rv (vb (decide (a3 = 0)))) k5 (rv (vb (decide (ka < 0)))) (nn ⟨kd, (decide (ka < 0)), rfl, kg, ke.le, Option.some.inj hr, rfl, rfl, rfl, rfl, rfl, rfl, rfl, ((((hc1).ext jg).ext jl).tch jw ((fun k hk => jp k hk) bc1 rfl)).ext ke, ((((hc2).ext jg).ext jl).tch jw ((fun k hk => js k hk) bc2 rfl)).ext ke, ((((hc3).ext jg).ext jl).tch jw ((fun k hk => jt k hk) bc3 rfl)).ext ke, ((((hc4).ext jg).ext jl).tch jw ((fun k hk => ju k hk) bc4 rfl)).ext ke⟩)))
 ·rintro k3 k4 ⟨k5, k2, rfl, k6, k7, k0, k8, k9, ka, kb, kc, kd, ke, kf, kg, kh, ki⟩
  subst k0
  have hr := k1
  try dsimp only at hr
  refine W_cond _ k8 (fun kj => ?_) (fun kj => ?_)
  ·have hr := ite_t kj hr
   refine W_drawO mixed 6 [PX.eq (vi a2), PX.data (a0 : List Int), PX.data (jc : Loss), PX.var 0 3 (a2 : Int), PX.var 0 40 (a0 : List Int), PX.var 0 44 (jc : Loss), PX.var 0 3 (a3 : Int), PX.var 0 40 (a5 : List Int), PX.var 0 44 (a4 : Loss), PX.var 0 3 (a2 : Int)] [20, 21, 22, 3, 5, 4, 3, 5, 4, 2] [[], [], [], [6], [7], [8]] rfl (by kernel_rfl) (ent4 rfl ⟨bc2, kb, Nat.zero_le _, kg⟩ ⟨bc4, kd, Nat.zero_le _, ki⟩ ⟨bc3, kc, Nat.zero_le _, kh⟩ ⟨bc1, ka, Nat.zero_le _, kf⟩) (dis4 rfl (fun k h1 j1 => j5 k (own_ptr (kb : _ = Value.pointer (some ⟨bc2, 0, none⟩)) h1) (own_ptr (kd : _ = Value.pointer (some ⟨bc4, 0, none⟩)) j1)) (fun k h1 j1 => (fun k hk hm => j5 k hm hk) k (own_ptr (kd : _ = Value.pointer (some ⟨bc4, 0, none⟩)) h1) (own_ptr (kb : _ = Value.pointer (some ⟨bc2, 0, none⟩)) j1)) (fun k h1 j1 => j3 k (own_ptr (kb : _ = Value.pointer (some ⟨bc2, 0, none⟩)) h1) (own_ptr (kc : _ = Value.pointer (some ⟨bc3, 0, none⟩)) j1)) (fun k h1 j1 => (fun k hk hm => j3 k hm hk) k (own_ptr (kc : _ = Value.pointer (some ⟨bc3, 0, none⟩)) h1) (own_ptr (kb : _ = Value.pointer (some ⟨bc2, 0, none⟩)) j1)) (fun k h1 j1 => (fun k hk hm => j0 k hm hk) k (own_ptr (kb : _ = Value.pointer (some ⟨bc2, 0, none⟩)) h1) (own_ptr (ka : _ = Value.pointer (some ⟨bc1, 0, none⟩)) j1)) (fun k h1 j1 => j0 k (own_ptr (ka : _ = Value.pointer (some ⟨bc1, 0, none⟩)) h1) (own_ptr (kb : _ = Value.pointer (some ⟨bc2, 0, none⟩)) j1)) (fun k h1 j1 => (fun k hk hm => j6 k hm hk) k (own_ptr (kd : _ = Value.pointer (some ⟨bc4, 0, none⟩)) h1) (own_ptr (kc : _ = Value.pointer (some ⟨bc3, 0, none⟩)) j1)) (fun k h1 j1 => j6 k (own_ptr (kc : _ = Value.pointer (some ⟨bc3, 0, none⟩)) h1) (own_ptr (kd : _ = Value.pointer (some ⟨bc4, 0, none⟩)) j1)) (fun k h1 j1 => (fun k hk hm => j4 k hm hk) k (own_ptr (kd : _ = Value.pointer (some ⟨bc4, 0, none⟩)) h1) (own_ptr (ka : _ = Value.pointer (some ⟨bc1, 0, none⟩)) j1)) (fun k h1 j1 => j4 k (own_ptr (ka : _ = Value.pointer (some ⟨bc1, 0, none⟩)) h1) (own_ptr (kd : _ = Value.pointer (some ⟨bc4, 0, none⟩)) j1)) (fun k h1 j1 => (fun k hk hm => j2 k hm hk) k (own_ptr (kc : _ = Value.pointer (some ⟨bc3, 0, none⟩)) h1) (own_ptr (ka : _ = Value.pointer (some ⟨bc1, 0, none⟩)) j1)) (fun k h1 j1 => j2 k (own_ptr (ka : _ = Value.pointer (some ⟨bc1, 0, none⟩)) h1) (own_ptr (kc : _ = Value.pointer (some ⟨bc3, 0, none⟩)) j1))) (StepsX_cons ?_ (StepsX_cons ?_ (StepsX_cons ?_ (StepsX_cons ?_ (StepsX_cons ?_ (StepsX_cons ?_ StepsX_nil)))))) ?_
   ·intro kk kl km kn ko kp Q kq
    obtain ⟨kr, ks, kt, ku⟩ : ∃ b, kk 2 = Value.pointer (some ⟨b, 0, none⟩) ∧ 0 ≤ b ∧ Var kl b 3 (a2 : Int) := kn 9 (by kernel_rfl) (by show _ < 10; decide)
    have kv : kk 2 = Value.pointer (some ⟨bc1, 0, none⟩) := (ko 2 (by kernel_rfl)).trans ka
    have kw : kr = bc1 := by have jq := ks.symm.trans kv; cases jq; rfl
    rw [kw] at kt ku
    refine L_load_var ty3 kv (ku) (by decide) (fun kx ky => ?_)
    obtain rfl := ky.int
    exact L_nil (kq _ _ No (Ext.refl kl) (fun _ h => h.elim) rfl (fun _ h => h.elim))
   ·intro kk kl km kn ko kp Q kq; have kr : kk 0 = w0 := (ko 0 (by kernel_rfl)).trans k9; exact mv kr (L_nil (kq _ _ No (Ext.refl kl) (fun _ h => h.elim) (h0.mono (jg.le.trans (jl.le.trans (jw.le.trans (k7.trans km.le))))) (fun _ h => h.elim)))
   ·intro kk kl km kn ko kp Q kq; have kr : kk 7 = Value.pointer (some ⟨jk, 0, none⟩) := (ko 7 (by kernel_rfl)).trans ke; exact ld ty44 kr (jx.mono (k7.trans km.le)) (fun ks kt => L_nil (kq _ _ No (Ext.refl kl) (fun _ h => h.elim) kt (fun _ h => h.elim)))
   ·intro kk kl km kn ko kp Q kq
    obtain ⟨kr, ks, kt, ku⟩ : ∃ b, kk 3 = Value.pointer (some ⟨b, 0, none⟩) ∧ 0 ≤ b ∧ Var kl b 3 (a3 : Int) := kn 6 (by kernel_rfl) (by show _ < 10; decide)
    have kv : kk 3 = Value.pointer (some ⟨bc2, 0, none⟩) := (ko 3 (by kernel_rfl)).trans kb
    have kw : kr = bc2 := by have jq := ks.symm.trans kv; cases jq; rfl
    rw [kw] at kt ku
    have kx : kk 20 = vi (a2) := kn 0 (by kernel_rfl) (by show _ < 10; decide)
    exact L_store ty3 kv kx Vint (ku) (fun ky kz g0 => L_nil (kq undef _ _ kz (fun k h => ⟨6, (List.mem_singleton.2 rfl : (6 : Nat) ∈ [6]), (by show ownP (kk 3) k; rw [kv]; exact congrArg (fun z => Value.pointer (some ⟨z, 0, none⟩)) h.symm)⟩) ⟨_, kv, kt, g0⟩ (fun k h => Or.inl ⟨6, (List.mem_singleton.2 rfl : (6 : Nat) ∈ [6]), h⟩)))
   ·intro kk kl km kn ko kp Q kq
    obtain ⟨kr, ks, kt, ku⟩ : ∃ b, kk 5 = Value.pointer (some ⟨b, 0, none⟩) ∧ 0 ≤ b ∧ Var kl b 40 (a5 : List Int) := kn 7 (by kernel_rfl) (by show _ < 10; decide)
    have kv : kk 5 = Value.pointer (some ⟨bc4, 0, none⟩) := (ko 5 (by kernel_rfl)).trans kd
    have kw : kr = bc4 := by have jq := ks.symm.trans kv; cases jq; rfl
    rw [kw] at kt ku
    have kx : V _ (kk 21) (a0 : List Int) := kn 1 (by kernel_rfl) (by show _ < 10; decide)
    obtain ⟨ky, kz, g0⟩ : ∃ v, _ = v ∧ V _ v _ := ⟨_, rfl, kx⟩
    exact L_store ty40 kv kz g0 (ku) (fun g1 g2 g3 => L_nil (kq undef _ _ g2 (fun k h => ⟨7, (List.mem_singleton.2 rfl : (7 : Nat) ∈ [7]), (by show ownP (kk 5) k; rw [kv]; exact congrArg (fun z => Value.pointer (some ⟨z, 0, none⟩)) h.symm)⟩) ⟨_, kv, kt, g3⟩ (fun k h => Or.inl ⟨7, (List.mem_singleton.2 rfl : (7 : Nat) ∈ [7]), h⟩)))
   ·intro kk kl km kn ko kp Q kq
    obtain ⟨kr, ks, kt, ku⟩ : ∃ b, kk 4 = Value.pointer (some ⟨b, 0, none⟩) ∧ 0 ≤ b ∧ Var kl b 44 (a4 : Loss) := kn 8 (by kernel_rfl) (by show _ < 10; decide)
    have kv : kk 4 = Value.pointer (some ⟨bc3, 0, none⟩) := (ko 4 (by kernel_rfl)).trans kc
    have kw : kr = bc3 := by have jq := ks.symm.trans kv; cases jq; rfl
    rw [kw] at kt ku
    have kx : V _ (kk 22) (jc : Loss) := kn 2 (by kernel_rfl) (by show _ < 10; decide)
    obtain ⟨ky, kz, g0⟩ : ∃ v, _ = v ∧ V _ v _ := ⟨_, rfl, kx⟩
    exact L_store ty44 kv kz g0 (ku) (fun g1 g2 g3 => L_nil (kq undef _ _ g2 (fun k h => ⟨8, (List.mem_singleton.2 rfl : (8 : Nat) ∈ [8]), (by show ownP (kk 4) k; rw [kv]; exact congrArg (fun z => Value.pointer (some ⟨z, 0, none⟩)) h.symm)⟩) ⟨_, kv, kt, g3⟩ (fun k h => Or.inl ⟨8, (List.mem_singleton.2 rfl : (8 : Nat) ∈ [8]), h⟩)))
   ·intro kk kl km kn ko kp kq
    have kr := Tch.trans k6 km (fun k h => (fun h => h.elim (fun j1 => Or.inl ((fun h => (Or.inr (Or.inl h))) (own_ptr (kb : _ = Value.pointer (some ⟨bc2, 0, none⟩)) j1))) (fun h => h.elim (fun j1 => Or.inl ((fun h => (Or.inr (Or.inr (Or.inr h)))) (own_ptr (kd : _ = Value.pointer (some ⟨bc4, 0, none⟩)) j1))) (fun h => h.elim (fun j1 => Or.inl ((fun h => (Or.inr (Or.inr (Or.inl h)))) (own_ptr (kc : _ = Value.pointer (some ⟨bc3, 0, none⟩)) j1))) (fun j1 => Or.inl ((fun h => (Or.inl h)) (own_ptr (ka : _ = Value.pointer (some ⟨bc1, 0, none⟩)) j1)))))) (ent_is4 (k := 6) rfl rfl h))
    obtain ⟨ks, kt, ku, kv⟩ : ∃ b, kk 3 = Value.pointer (some ⟨b, 0, none⟩) ∧ 0 ≤ b ∧ Var kl b 3 (a2 : Int) := kn 3 (by show _ < 10; decide) (by kernel_rfl)
    have kw : kk 3 = Value.pointer (some ⟨bc2, 0, none⟩) := (kq 3 (by kernel_rfl)).trans kb
    have kx : ks = bc2 := by have jq := kt.symm.trans kw; cases jq; rfl
    rw [kx] at ku kv
    obtain ⟨ky, kz, g0, g1⟩ : ∃ b, kk 5 = Value.pointer (some ⟨b, 0, none⟩) ∧ 0 ≤ b ∧ Var kl b 40 (a0 : List Int) := kn 4 (by show _ < 10; decide) (by kernel_rfl)
    have g2 : kk 5 = Value.pointer (some ⟨bc4, 0, none⟩) := (kq 5 (by kernel_rfl)).trans kd
    have g3 : ky = bc4 := by have jq := kz.symm.trans g2; cases jq; rfl
    rw [g3] at g0 g1
    obtain ⟨g4, g5, g6, g7⟩ : ∃ b, kk 4 = Value.pointer (some ⟨b, 0, none⟩) ∧ 0 ≤ b ∧ Var kl b 44 (jc : Loss) := kn 5 (by show _ < 10; decide) (by kernel_rfl)
    have g8 : kk 4 = Value.pointer (some ⟨bc3, 0, none⟩) := (kq 4 (by kernel_rfl)).trans kc
    have g9 : g4 = bc3 := by have jq := g5.symm.trans g8; cases jq; rfl
    rw [g9] at g6 g7
    obtain ⟨ga, gb, gc, gd⟩ : ∃ b, kk 2 = Value.pointer (some ⟨b, 0, none⟩) ∧ 0 ≤ b ∧ Var kl b 3 (a2 : Int) := kn 9 (by show _ < 10; decide) (by kernel_rfl)
    have gg : kk 2 = Value.pointer (some ⟨bc1, 0, none⟩) := (kq 2 (by kernel_rfl)).trans ka
    have gh : ga = bc1 := by have jq := gb.symm.trans gg; cases jq; rfl
    rw [gh] at gc gd
    obtain rfl := Option.some.inj hr
    exact done0 (Or.inr rfl) Try.results47 ⟨_, _, rfl, rfl, kr, kv, g7, g1, gd⟩
  ·have hr := ite_f kj hr; refine W_skip ?_; obtain rfl := Option.some.inj hr; exact done0 (Or.inr rfl) Try.results47 ⟨_, _, rfl, rfl, k6, kg, kh, ki, kf⟩

theorem check_Best_ok (N : Nat) (s0 : St) (w0 : Value) (a0 : List Level) (h0 : V s0 w0 a0) (a1 : Int) (a2 : Int) (r : Int × (List Int) × Int) (hr : check_Best N a0 a1 a2 = some r) :
    Calls Try.prog 16 #[w0, .int .i64 a1, .int .i64 a2] s0.w (Ret s0 fun v s => ∃ a b c, v = .tuple #[a, b, c] ∧ V s a r.1 ∧ V s b r.2.1 ∧ V s c r.2.2) := by
 unfold check_Best at hr
 have j0 := Ext.refl s0
 refine Calls_of (n := 48) (args := [w0, .int .i64 a1, .int .i64 a2]) Try.func16 rfl rfl (by simp) (sr (L_box (rv w0) h0 (by decide) (fun j1 j2 j3 j4 => ?_)))
 have j5 := Tch.ext j0 j3
 refine asg (rv (vi 0)) (asg (rv (Value.slice none 0 0)) (asg (rv (vi 0)) (nn (W_seq (sr (ld ty37 (rv j2) j4 (fun j6 j7 => ?_)))))))
 obtain ⟨j8, j9, hr⟩ := bind_some hr
 refine L_calls cal45 (args1 (rv j6)) (check_levelled_ok N _ _ _ j7 j8 j9) (by decide) (fun ja jb jc jd => ?_)
 have je := Tch.ext j5 jc
 obtain rfl := jd.int
 refine asg (rv (vi j8)) (nn (sr (mv (rv (vi j8)) (ne (rv (vi j8)) (rv (vi 0)) (nn ?_)))))
 refine W_cond _ (rv (vb (!decide (j8 = 0)))) (fun jf => ?_) (fun jf => ?_)
 ·have hr := ite_t jf hr; refine sr (mv (rv (vi j8)) (asg (rv (vi 0)) (asg (rv (Value.slice none 0 0)) (asg (rv (vi j8)) (nn (W_ret (then_r ?_))))))); obtain rfl := Option.some.inj hr; exact done3 (Or.inl rfl) Try.results16 rfl rfl rfl ⟨_, _, rfl, rfl, je, _, _, _, rfl, Vint, Vnil, Vint⟩
 ·have hr := ite_f jf hr
  refine W_skip (then_n (W_seq ?_))
  obtain ⟨jg, jh, ji⟩ := bind_some hr
  refine W_seq_cut (fun f w => ∃ (s : St) (jj : Bool), s.w = w ∧ Ext s0 s ∧ Le jb s ∧ jj = jg ∧ f 32 = vb jj ∧ f 1 = vi (a1) ∧ f 2 = vi (a2) ∧ f 3 = j2) ?_ ?_
  ·have hr := jh
   refine W_region (mv (rv (vi a1)) (ls (rv (vi a1)) (rv (vi 1)) (mv (rv (vb (decide (a1 < 1)))) ?_)))
   rcases tf (decide (a1 < 1)) with jk | jk
   ·have hr := ite_t jk hr; exact gf 21 (rv (vb (decide (a1 < 1)))) jk (gf 21 (rv (vb (decide (a1 < 1)))) jk (pt (rv (vb (decide (a1 < 1)))) jk (rv (vb true)) (mv (rv (vb true)) (gf 25 (rv (vb true)) rfl (gf 25 (rv (vb true)) rfl (pt (rv (vb true)) rfl (rv (vb true)) (mv (rv (vb true)) (gf 29 (rv (vb true)) rfl (gf 29 (rv (vb true)) rfl (pt (rv (vb true)) rfl (rv (vb true)) (nn ⟨jb, true, rfl, je, (Le.refl _), Option.some.inj hr, rfl, rfl, rfl, rfl⟩)))))))))))
   ·have hr := ite_f jk hr
    refine gt 21 (rv (vb (decide (a1 < 1)))) jk (mv (rv (vi a1)) (gt 21 (rv (vb (decide (a1 < 1)))) jk (L_gtr (rv (vi a1)) (rv (vi 4096)) (by decide) (pf (rv (vb (decide (a1 < 1)))) jk (rv (vb (decide (4096 < a1)))) (mv (rv (vb (decide (4096 < a1)))) ?_)))))
    rcases tf (decide (4096 < a1)) with jl | jl
    ·have hr := ite_t jl hr; exact gf 25 (rv (vb (decide (4096 < a1)))) jl (gf 25 (rv (vb (decide (4096 < a1)))) jl (pt (rv (vb (decide (4096 < a1)))) jl (rv (vb true)) (mv (rv (vb true)) (gf 29 (rv (vb true)) rfl (gf 29 (rv (vb true)) rfl (pt (rv (vb true)) rfl (rv (vb true)) (nn ⟨jb, true, rfl, je, (Le.refl _), Option.some.inj hr, rfl, rfl, rfl, rfl⟩)))))))
    ·have hr := ite_f jl hr
     refine gt 25 (rv (vb (decide (4096 < a1)))) jl (mv (rv (vi a2)) (gt 25 (rv (vb (decide (4096 < a1)))) jl (ls (rv (vi a2)) (rv (vi 1)) (pf (rv (vb (decide (4096 < a1)))) jl (rv (vb (decide (a2 < 1)))) (mv (rv (vb (decide (a2 < 1)))) ?_)))))
     rcases tf (decide (a2 < 1)) with jm | jm
     ·have hr := ite_t jm hr; exact gf 29 (rv (vb (decide (a2 < 1)))) jm (gf 29 (rv (vb (decide (a2 < 1)))) jm (pt (rv (vb (decide (a2 < 1)))) jm (rv (vb true)) (nn ⟨jb, true, rfl, je, (Le.refl _), Option.some.inj hr, rfl, rfl, rfl, rfl⟩)))
     ·have hr := ite_f jm hr; exact gt 29 (rv (vb (decide (a2 < 1)))) jm (mv (rv (vi a2)) (gt 29 (rv (vb (decide (a2 < 1)))) jm (L_gtr (rv (vi a2)) (rv (vi 8)) (by decide) (pf (rv (vb (decide (a2 < 1)))) jm (rv (vb (decide (8 < a2)))) (nn ⟨jb, (decide (8 < a2)), rfl, je, (Le.refl _), Option.some.inj hr, rfl, rfl, rfl, rfl⟩)))))
  ·rintro jk jl ⟨jm, jj, rfl, jn, jo, jh, jp, jq, jr, js⟩
   subst jh
   have hr := ji
   try dsimp only at hr
   refine W_cond _ jp (fun jt => ?_) (fun jt => ?_)
   ·have hr := ite_t jt hr; refine sr (asg (rv (vi 0)) (asg (rv (Value.slice none 0 0)) (asg (rv (vi 3)) (nn (W_ret (then_r ?_)))))); obtain rfl := Option.some.inj hr; exact done3 (Or.inl rfl) Try.results16 rfl rfl rfl ⟨_, _, rfl, rfl, jn, _, _, _, rfl, Vint, Vnil, Vint⟩
   ·have hr := ite_f jt hr
    refine W_skip (then_n (sr (L_buildSlice (xs := ([] : List Int)) Try.underlying40 tyz3 Parts_nil Vs.nil rfl (by decide) (by decide) (fun ju jv jw jx jy => ?_))))
    have jz := Tch.ext jn jw
    refine L_alloc (α := Int) (x := 0) zero3 (fun _ => rfl) (by decide) (fun k0 k1 k2 k3 k4 => ?_)
    have k5 := Tch.ext jz k2
    refine L_alloc (α := List Int) (x := []) zero40 (fun _ => ⟨none, 0, rfl, Nat.le_refl _, fun h => (h rfl).elim⟩) (by decide) (fun k6 k7 k8 k9 ka => ?_)
    have kb := Tch.ext k5 k8
    have kc : ∀ k, (fun k => k = k1) k → ¬ (fun k => k = k7) k := fun k kd ke => by have kf := (fun k (hk : k = k1) => lt_at hk (k4).lt) k kd; have kg := k9; subst ke; omega
    refine L_store ty3 (rv (Value.pointer (some ⟨k1, 0, none⟩))) (rv (vi 0)) Vint ((k4).ext k8) (fun kh ki kj => ?_)
    have kk := Tch.trans kb ki (fun k hk => Or.inr (by subst hk; exact (Nat.le_trans jz.size k3)))
    refine L_store ty40 (rv (Value.pointer (some ⟨k7, 0, none⟩))) (rv jv) (jy.mono (k2.le.trans (k8.le.trans ki.le))) ((ka).tch ki ((fun k hk hm => kc k hm hk) k7 rfl)) (fun kl km kn => ?_)
    have ko := Tch.trans kk km (fun k hk => Or.inr (by subst hk; exact (Nat.le_trans k5.size k9)))
    refine nn (sr (L_alloc (α := Loss) (x := ⟨0, 0⟩) zero44 Loss.zero_rel (by decide) (fun kp kq kr ks kt => ?_)))
    have ku := Tch.ext ko kr
    have kv : ∀ k, (fun k => k = k1) k → ¬ (fun k => k = kq) k := fun k kd ke => by have kf := (fun k (hk : k = k1) => lt_at hk ((kj).tch km ((fun k hk => kc k hk) k1 rfl)).lt) k kd; have kg := ks; subst ke; omega
    have kw : ∀ k, (fun k => k = k7) k → ¬ (fun k => k = kq) k := fun k kd ke => by have kf := (fun k (hk : k = k7) => lt_at hk (kn).lt) k kd; have kg := ks; subst ke; omega
    refine nn (W_seq (sr (L_alloc (α := Int) (x := 0) zero3 (fun _ => rfl) (by decide) (fun kx ky kz g0 g1 => ?_))))
    have g2 := Tch.ext ku kz
    have g3 : ∀ k, (fun k => k = k1) k → ¬ (fun k => k = ky) k := fun k kd ke => by have kf := (fun k (hk : k = k1) => lt_at hk (((kj).tch km ((fun k hk => kc k hk) k1 rfl)).ext kr).lt) k kd; have kg := g0; subst ke; omega
    have g4 : ∀ k, (fun k => k = k7) k → ¬ (fun k => k = ky) k := fun k kd ke => by have kf := (fun k (hk : k = k7) => lt_at hk ((kn).ext kr).lt) k kd; have kg := g0; subst ke; omega
    have g5 : ∀ k, (fun k => k = kq) k → ¬ (fun k => k = ky) k := fun k kd ke => by have kf := (fun k (hk : k = kq) => lt_at hk (kt).lt) k kd; have kg := g0; subst ke; omega
    refine L_store ty3 (rv (Value.pointer (some ⟨ky, 0, none⟩))) (rv (vi 1)) Vint (g1) (fun g6 g7 g8 => ?_)
    have g9 := Tch.trans g2 g7 (fun k hk => Or.inr (by subst hk; exact (Nat.le_trans ku.size g0)))
    refine nn ?_
    obtain ⟨ga, gb, gc⟩ := bind_some hr
    refine W_cut (fun f w => ∃ (s : St) (gd : Int) (gg : List Int), s.w = w ∧ Ext s0 s ∧ Le g6 s ∧ (gd, gg) = ga ∧ f 10 = Value.pointer (some ⟨k1, 0, none⟩) ∧ f 11 = Value.pointer (some ⟨k7, 0, none⟩) ∧ Var s k1 3 gd ∧ Var s k7 40 gg) ?_ ?_
    ·refine W_block (W_loop (fun m f w => ∃ (s : St) (gh : Nat) (gi : Int) (gj : Int) (gk : List Int) (gl : Loss), s.w = w ∧ Ext s0 s ∧ Le g6 s ∧ check_Best_l1 N a0 a1 a2 m gi gj gk gl = some ga ∧ f 13 = Value.pointer (some ⟨gh, 0, none⟩) ∧ s0.w.heap.size ≤ gh ∧ Var s gh 3 gi ∧ f 1 = vi (a1) ∧ f 2 = vi (a2) ∧ f 3 = j2 ∧ f 10 = Value.pointer (some ⟨k1, 0, none⟩) ∧ f 11 = Value.pointer (some ⟨k7, 0, none⟩) ∧ f 12 = Value.pointer (some ⟨kq, 0, none⟩) ∧ Var s k1 3 gj ∧ Var s k7 40 gk ∧ Var s kq 44 gl ∧ (∀ k, (fun k => k = gh) k → ¬ (fun k => k = k1) k) ∧ (∀ k, (fun k => k = gh) k → ¬ (fun k => k = k7) k) ∧ (∀ k, (fun k => k = gh) k → ¬ (fun k => k = kq) k)) N ⟨g6, ky, 1, 0, ([] : List Int), (⟨0, 0⟩ : Loss), rfl, g9, (Le.refl _), gb, rfl, (Nat.le_trans ku.size g0), g8, jq, jr, js, rfl, rfl, rfl, ((((kj).tch km ((fun k hk => kc k hk) k1 rfl)).ext kr).ext kz).tch g7 ((fun k hk => g3 k hk) k1 rfl), (((kn).ext kr).ext kz).tch g7 ((fun k hk => g4 k hk) k7 rfl), ((kt).ext kz).tch g7 ((fun k hk => g5 k hk) kq rfl), (fun k hk hm => g3 k hm hk), (fun k hk hm => g4 k hm hk), (fun k hk hm => g5 k hm hk)⟩ ?_)
     rintro gm gn go ⟨gp, gh, gi, gj, gk, gl, rfl, gq, gr, hr, gs, gu, gv, gw, gx, gy, gz, u0, u1, u2, u3, u4, u5, u6, u7⟩
     cases gm with
     | zero => exact absurd hr (by simp [check_Best_l1])
     | succ gm =>
      rw [check_Best_l1.eq_2] at hr
      refine W_seq (sr (L_load_var ty3 gs (gv) (by decide) (fun u9 ua => ?_)))
      obtain rfl := ua.int
      refine mv gw (L_leq (rv (vi gi)) (rv (vi a1)) (by decide) (nn ?_))
      refine W_cond _ (rv (vb (decide (gi ≤ a1)))) (fun ub => ?_) (fun ub => ?_)
      ·have hr := ite_t ub hr
       refine W_skip (then_n ?_)
       obtain ⟨uc, ud, ue⟩ := bind_some hr
       refine W_seq_cut (fun f w => ∃ (s : St) (uf : Int) (ug : List Int) (uh : Loss), s.w = w ∧ Ext s0 s ∧ Le gp s ∧ (uf, ug, uh) = uc ∧ f 1 = vi (a1) ∧ f 2 = vi (a2) ∧ f 3 = j2 ∧ f 10 = Value.pointer (some ⟨k1, 0, none⟩) ∧ f 11 = Value.pointer (some ⟨k7, 0, none⟩) ∧ f 12 = Value.pointer (some ⟨kq, 0, none⟩) ∧ f 13 = Value.pointer (some ⟨gh, 0, none⟩) ∧ Var s k1 3 uf ∧ Var s k7 40 ug ∧ Var s kq 44 uh ∧ Var s gh 3 gi) ?_ ?_
       ·have hr := ud; refine W_block (W_region (ld ty37 gy (j4.mono (jc.le.trans (jo.trans (jw.le.trans (k2.le.trans (k8.le.trans (ki.le.trans (km.le.trans (kr.le.trans (kz.le.trans (g7.le.trans gr))))))))))) (fun ui uj => ln Try.underlying37 (rv ui) uj ?_))); obtain ⟨uk, hr⟩ := chk_some hr; refine L_sub (rv (vi ((a0.length : Int)))) (rv (vi 1)) uk (by decide) (mv gx (L_makeFunc (args5 gy gs gz u1 u0) (by decide) ?_)); obtain ⟨ul, um, hr⟩ := bind_some hr; have un : FnE Try.prog gp (Value.func (.func 47) #[] #[j2, Value.pointer (some ⟨gh, 0, none⟩), Value.pointer (some ⟨k1, 0, none⟩), Value.pointer (some ⟨kq, 0, none⟩), Value.pointer (some ⟨k7, 0, none⟩)]) (Eff.vars4 gh 3 gi k1 3 kq 44 k7 40 : Eff (Int × Loss × (List Int))) (fun x q => check_Best_1 N x a0 gi q.1 q.2.1 q.2.2) := ⟨47, _, rfl, cal47, fun s vx x q r l hv hi hr => check_Best_1_ok N s vx x hv _ _ ((j4.mono (jc.le.trans (jo.trans (jw.le.trans (k2.le.trans (k8.le.trans (ki.le.trans (km.le.trans (kr.le.trans (kz.le.trans (g7.le.trans gr))))))))))).mono l) gh gi hi.2.2.2 k1 q.1 hi.1 (fun e => u5 _ rfl e) kq q.2.1 hi.2.1 (fun e => u7 _ rfl e) (fun e => (fun k hk => kv k hk) _ rfl e) k7 q.2.2 hi.2.2.1 (fun e => u6 _ rfl e) (fun e => (fun k hk => kc k hk) _ rfl e) (fun e => (fun k hk hm => kw k hm hk) _ rfl e) r hr⟩; refine L_calls_mut cal46 (args3 (rv (vi ((a0.length : Int) - 1))) (rv (vi a2)) (rv (Value.func (.func 47) #[] #[j2, Value.pointer (some ⟨gh, 0, none⟩), Value.pointer (some ⟨k1, 0, none⟩), Value.pointer (some ⟨kq, 0, none⟩), Value.pointer (some ⟨k7, 0, none⟩)]))) (check_numbers_ok N _ ((a0.length : Int) - 1) a2 (Eff.vars4 gh 3 gi k1 3 kq 44 k7 40 : Eff (Int × Loss × (List Int))) _ (fun x q => check_Best_1 N x a0 gi q.1 q.2.1 q.2.2) un (gj, gl, gk) ⟨u2, u4, u3, gv⟩ ul um) (by decide) (fun uo up uq ur => ?_); obtain ⟨us, ut, uu, uv⟩ := ur; have uw := Tch.trans gq uq (fun k hk => Or.inr (hk.elim (fun (h : k = gh) => by rw [h]; exact gu) (fun hk => (hk.elim (fun (h : k = k1) => by rw [h]; exact (Nat.le_trans jz.size k3)) (fun hk => (hk.elim (fun (h : k = kq) => by rw [h]; exact (Nat.le_trans ko.size ks)) (fun hk => ((fun (h : k = k7) => by rw [h]; exact (Nat.le_trans k5.size k9)) hk)))))))); refine L_nil (block_n ?_); exact then_n ⟨up, ul.1, ul.2.2, ul.2.1, rfl, uw, uq.le, Option.some.inj hr, gw, gx, gy, gz, u0, u1, gs, us, uu, ut, uv⟩
       ·rintro ui uj ⟨uk, uf, ug, uh, rfl, ul, um, ud, un, uo, up, uq, ur, us, ut, uu, uv, uw, ux⟩
        subst ud
        have hr := ue
        try dsimp only at hr
        refine W_seq (sr (L_load_var ty3 ut (ux) (by decide) (fun uy uz => ?_)))
        obtain rfl := uz.int
        refine nn (W_region (L_alloc (α := Int) (x := 0) zero3 (fun _ => rfl) (by decide) (fun t0 t1 t2 t3 t4 => ?_)))
        have t5 := Tch.ext ul t2
        have t6 : ∀ k, (fun k => k = k1) k → ¬ (fun k => k = t1) k := fun k kd ke => by have kf := (fun k (hk : k = k1) => lt_at hk (uu).lt) k kd; have kg := t3; subst ke; omega
        have t7 : ∀ k, (fun k => k = k7) k → ¬ (fun k => k = t1) k := fun k kd ke => by have kf := (fun k (hk : k = k7) => lt_at hk (uv).lt) k kd; have kg := t3; subst ke; omega
        have t8 : ∀ k, (fun k => k = kq) k → ¬ (fun k => k = t1) k := fun k kd ke => by have kf := (fun k (hk : k = kq) => lt_at hk (uw).lt) k kd; have kg := t3; subst ke; omega
        refine L_store ty3 (rv (Value.pointer (some ⟨t1, 0, none⟩))) (rv (vi gi)) Vint (t4) (fun t9 ta tb => ?_)
        have tc := Tch.trans t5 ta (fun k hk => Or.inr (by subst hk; exact (Nat.le_trans ul.size t3)))
        refine nn (W_region (L_load_var ty3 (rv (Value.pointer (some ⟨t1, 0, none⟩))) (tb) (by decide) (fun td te => ?_)))
        obtain rfl := te.int
        obtain ⟨tg, hr⟩ := chk_some hr
        refine ad (rv (vi gi)) (rv (vi 1)) tg (L_store ty3 (rv (Value.pointer (some ⟨t1, 0, none⟩))) (rv (vi (gi + 1))) Vint (tb) (fun th ti tj => ?_))
        have tk := Tch.trans tc ti (fun k hk => Or.inr (by subst hk; exact (Nat.le_trans ul.size t3)))
        exact nn ⟨gm, Nat.lt_succ_self _, ⟨th, t1, (gi + 1), uf, ug, uh, rfl, tk, (gr.trans (um.trans (t2.le.trans (ta.le.trans ti.le)))), hr, rfl, (Nat.le_trans ul.size t3), tj, un, uo, up, uq, ur, us, (((uu).ext t2).tch ta ((fun k hk => t6 k hk) k1 rfl)).tch ti ((fun k hk => t6 k hk) k1 rfl), (((uv).ext t2).tch ta ((fun k hk => t7 k hk) k7 rfl)).tch ti ((fun k hk => t7 k hk) k7 rfl), (((uw).ext t2).tch ta ((fun k hk => t8 k hk) kq rfl)).tch ti ((fun k hk => t8 k hk) kq rfl), (fun k hk hm => t6 k hm hk), (fun k hk hm => t7 k hm hk), (fun k hk hm => t8 k hm hk)⟩⟩
      ·have hr := ite_f ub hr; refine W_exit (then_x (then_x (block_here ?_))); exact then_n ⟨gp, gj, gk, rfl, gq, gr, Option.some.inj hr, gz, u0, u2, u3⟩
    ·rintro gh gi ⟨gj, gd, gg, rfl, gk, gl, gb, gm, gn, go, gp⟩
     subst gb
     have hr := gc
     try dsimp only at hr
     refine then_n (W_seq ?_)
     refine W_draws mixed (by kernel_rfl) [PV.eq (vi gd), PV.data (gg : List Int), PV.eq (vi gd), PV.data (gg : List Int), PV.eq (vi 0)] (Steps_cons ?_ (Steps_cons ?_ (Steps_cons ?_ (Steps_cons ?_ (Steps_cons ?_ Steps_nil))))) ?_
     ·intro gq gr gs gu gv Q gw; have gx : gq 10 = Value.pointer (some ⟨k1, 0, none⟩) := (gv 10 (by kernel_rfl)).trans gm; refine L_load_var ty3 gx ((go).ext gs) (by decide) (fun gy gz => ?_); obtain rfl := gz.int; exact fin gw rfl
     ·intro gq gr gs gu gv Q gw; have gx : gq 11 = Value.pointer (some ⟨k7, 0, none⟩) := (gv 11 (by kernel_rfl)).trans gn; exact L_load_var ty40 gx ((gp).ext gs) (by decide) (fun gy gz => fin gw gz)
     ·intro gq gr gs gu gv Q gw; have gx : gq 46 = vi (gd) := gu 0 46 (by kernel_rfl) (by kernel_rfl); exact asg gx (fin gw rfl)
     ·intro gq gr gs gu gv Q gw; have gx : V _ (gq 47) (gg : List Int) := gu 1 47 (by kernel_rfl) (by kernel_rfl); obtain ⟨gy, gz, u0⟩ : ∃ v, _ = v ∧ V _ v _ := ⟨_, rfl, gx⟩; exact asg gz (fin gw u0)
     ·intro gq gr gs gu gv Q gw; exact asg (rv (vi 0)) (fin gw rfl)
     ·intro gq gr gs gu gv; have gw := Tch.ext gk gs; have gx : gq 6 = vi (gd) := gu 2 6 (by kernel_rfl); have gy : V _ (gq 7) (gg : List Int) := gu 3 7 (by kernel_rfl); obtain ⟨gz, u0, u1⟩ : ∃ v, _ = v ∧ V _ v _ := ⟨_, rfl, gy⟩; have u2 : gq 8 = vi (0) := gu 4 8 (by kernel_rfl); refine then_n (W_ret ?_); obtain rfl := Option.some.inj hr; exact done3 (Or.inl rfl) Try.results16 gx u0 u2 ⟨_, _, rfl, rfl, gw, _, _, _, rfl, Vint, u1, Vint⟩

theorem slices_IndexFunc_Lint_int_ok (N : Nat) (s0 : St) (w0 : Value) (a0 : List Int) (h0 : V s0 w0 a0) (w1 : Value) (a1 : Int → Option Bool) (h1 : Fn1 Try.prog s0 w1 a1) (r : Int) (hr : slices_IndexFunc_Lint_int N a0 a1 = some r) :
    Calls Try.prog 81 #[w0, w1] s0.w (Ret s0 fun v s => V s v r) := by
 unfold slices_IndexFunc_Lint_int at hr
 have j0 := Ext.refl s0
 refine Calls_of (n := 19) (args := [w0, w1]) Try.func81 rfl rfl (by simp) (sr (asg (rv (vi 0)) (nn (W_seq (sr (mv (rv w0) (ln Try.underlying40 (rv w0) h0 (mv (rv (vi 0)) (nn ?_)))))))))
 obtain ⟨j1, j2, j3⟩ := bind_some hr
 refine W_cut (fun f w => ∃ (s : St), s.w = w ∧ Ext s0 s ∧ Le s0 s ∧ Sum.inl () = j1) ?_ ?_
 ·refine W_block (W_loop (fun m f w => ∃ (s : St) (j4 : Int), s.w = w ∧ Ext s0 s ∧ Le s0 s ∧ slices_IndexFunc_Lint_int_l1 N a0 a1 m j4 = some j1 ∧ f 8 = vi j4 ∧ f 0 = w0 ∧ f 1 = w1 ∧ f 7 = vi ((a0.length : Int))) N ⟨s0, 0, rfl, j0, (Le.refl _), j2, rfl, rfl, rfl, rfl⟩ ?_)
  rintro j5 j6 j7 ⟨j8, j4, rfl, j9, ja, hr, jb, jc, jd, je⟩
  cases j5 with
  | zero => exact absurd hr (by simp [slices_IndexFunc_Lint_int_l1])
  | succ j5 =>
   rw [slices_IndexFunc_Lint_int_l1.eq_2] at hr
   refine sr (ls jb je (nn (W_seq ?_)))
   refine W_cond _ (rv (vb (decide (j4 < (a0.length : Int))))) (fun jf => ?_) (fun jf => ?_)
   ·have hr := ite_t jf hr
    refine W_skip (then_n (W_seq (W_block (sr (mv jb (asg (rv (vi j4)) (nn (sr (mv jd (mv jc (mv (rv (vi j4)) ?_)))))))))))
    obtain ⟨jg, jh, hr⟩ := bind_some hr
    refine ix Try.underlying40 ty3.inf (rv w0) (h0.mono ja) (rv (vi j4)) jh (fun ji jj => li ty3 (rv ji) jj ?_)
    obtain ⟨jk, jl, hr⟩ := bind_some hr
    refine L_call1 (rv w1) (h1.mono ja) (rv (vi jg)) Vint jl (by decide) (fun jm jn jo jp => ?_)
    have jq := Tch.ext j9 jo
    obtain rfl := jp.bool
    refine nn ?_
    refine W_cond _ (rv (vb jk)) (fun jr => ?_) (fun jr => ?_)
    ·have hr := ite_t jr hr; refine sr (mv (rv (vi j4)) (asg (rv (vi j4)) (nn (W_ret (block_r (then_r (then_r (block_r ?_)))))))); obtain rfl := Option.some.inj hr; have hr := j3; (try dsimp only at hr); refine then_r (then_r ?_); obtain rfl := Option.some.inj hr; exact done1 (Or.inl rfl) Try.results81 rfl ⟨_, _, rfl, rfl, jq, Vint⟩
    ·have hr := ite_f jr hr; refine W_skip (block_n (then_n (W_region ?_))); obtain ⟨js, hr⟩ := chk_some hr; exact ad jb (rv (vi 1)) js (mv (rv (vi (j4 + 1))) (nn ⟨j5, Nat.lt_succ_self _, ⟨jn, (j4 + 1), rfl, jq, (ja.trans jo.le), hr, rfl, jc, jd, je⟩⟩))
   ·have hr := ite_f jf hr; refine W_exit (then_x (then_x (block_here ?_))); exact then_n ⟨j8, rfl, j9, ja, Option.some.inj hr⟩
 ·rintro j4 j5 ⟨j6, rfl, j7, j8, j2⟩; subst j2; have hr := j3; (try dsimp only at hr); refine then_n (sr (asg (rv (vi (-1))) (nn (W_ret ?_)))); obtain rfl := Option.some.inj hr; exact done1 (Or.inl rfl) Try.results81 rfl ⟨_, _, rfl, rfl, j7, Vint⟩

theorem slices_ContainsFunc_Lint_int_ok (N : Nat) (s0 : St) (w0 : Value) (a0 : List Int) (h0 : V s0 w0 a0) (w1 : Value) (a1 : Int → Option Bool) (h1 : Fn1 Try.prog s0 w1 a1) (r : Bool) (hr : slices_ContainsFunc_Lint_int N a0 a1 = some r) :
    Calls Try.prog 50 #[w0, w1] s0.w (Ret s0 fun v s => V s v r) := by
 unfold slices_ContainsFunc_Lint_int at hr
 have j0 := Ext.refl s0
 refine Calls_of (n := 9) (args := [w0, w1]) Try.func50 rfl rfl (by simp) (sr (asg (rv (vb false)) (nn (sr (mv (rv w0) (mv (rv w1) ?_))))))
 obtain ⟨j1, j2, hr⟩ := bind_some hr
 refine L_calls cal81 (args2 (rv w0) (rv w1)) (slices_IndexFunc_Lint_int_ok N _ _ _ h0 _ a1 h1 j1 j2) (by decide) (fun j3 j4 j5 j6 => ?_)
 have j7 := Tch.ext j0 j5
 obtain rfl := j6.int
 refine L_geq (rv (vi j1)) (rv (vi 0)) (by decide) (asg (rv (vb (decide (0 ≤ j1)))) (nn (W_ret ?_)))
 obtain rfl := Option.some.inj hr
 exact done1 (Or.inl rfl) Try.results50 rfl ⟨_, _, rfl, rfl, j7, Vbool⟩

theorem check_Lose_1_ok (N : Nat) (s0 : St) (a0 : Int) (r : Bool) (hr : check_Lose_1 N a0 = some r) :
    Calls Try.prog 51 #[.int .i64 a0] s0.w (Ret s0 fun v s => V s v r) := by
 unfold check_Lose_1 at hr
 have j0 := Ext.refl s0
 refine Calls_of (n := 9) (args := [.int .i64 a0]) Try.func51 rfl rfl (by simp) (sr (asg (rv (vb false)) (nn (sr (mv (rv (vi a0)) (ls (rv (vi a0)) (rv (vi 1)) (mv (rv (vb (decide (a0 < 1)))) ?_)))))))
 rcases tf (decide (a0 < 1)) with j1 | j1
 ·have hr := ite_t j1 hr; refine gf 5 (rv (vb (decide (a0 < 1)))) j1 (gf 5 (rv (vb (decide (a0 < 1)))) j1 (pt (rv (vb (decide (a0 < 1)))) j1 (rv (vb true)) (asg (rv (vb true)) (nn (W_ret ?_))))); obtain rfl := Option.some.inj hr; exact done1 (Or.inl rfl) Try.results51 rfl ⟨_, _, rfl, rfl, j0, Vbool⟩
 ·have hr := ite_f j1 hr; refine gt 5 (rv (vb (decide (a0 < 1)))) j1 (mv (rv (vi a0)) (gt 5 (rv (vb (decide (a0 < 1)))) j1 (L_gtr (rv (vi a0)) (rv (vi 8)) (by decide) (pf (rv (vb (decide (a0 < 1)))) j1 (rv (vb (decide (8 < a0)))) (asg (rv (vb (decide (8 < a0)))) (nn (W_ret ?_))))))); obtain rfl := Option.some.inj hr; exact done1 (Or.inl rfl) Try.results51 rfl ⟨_, _, rfl, rfl, j0, Vbool⟩

theorem check_Lose_ok (N : Nat) (s0 : St) (w0 : Value) (a0 : List Level) (h0 : V s0 w0 a0) (a1 : Int) (w2 : Value) (a2 : List Int) (h2 : V s0 w2 a2) (r : Loss × Int) (hr : check_Lose N a0 a1 a2 = some r) :
    Calls Try.prog 17 #[w0, .int .i64 a1, w2] s0.w (Ret s0 fun v s => ∃ a b, v = .tuple #[a, b] ∧ V s a r.1 ∧ V s b r.2) := by
 unfold check_Lose at hr
 have j0 := Ext.refl s0
 refine Calls_of (n := 39) (args := [w0, .int .i64 a1, w2]) Try.func17 rfl rfl (by simp) (sr (L_alloc (α := Loss) (x := ⟨0, 0⟩) zero44 Loss.zero_rel (by decide) (fun j1 j2 j3 j4 j5 => ?_)))
 have j6 := Tch.ext j0 j3
 refine asg (rv (vi 0)) (nn (W_seq (sr (mv (rv w0) ?_))))
 obtain ⟨j7, j8, hr⟩ := bind_some hr
 refine L_calls cal45 (args1 (rv w0)) (check_levelled_ok N _ _ _ (h0.mono j3.le) j7 j8) (by decide) (fun j9 ja jb jc => ?_)
 have jd := Tch.ext j6 jb
 obtain rfl := jc.int
 refine asg (rv (vi j7)) (nn (sr (mv (rv (vi j7)) (ne (rv (vi j7)) (rv (vi 0)) (nn ?_)))))
 refine W_cond _ (rv (vb (!decide (j7 = 0)))) (fun je => ?_) (fun je => ?_)
 ·have hr := ite_t je hr; refine sr (L_bld44_ (s := ja)   (by decide) (fun jf jg => mv (rv (vi j7)) (L_store ty44 (rv (Value.pointer (some ⟨j2, 0, none⟩))) (rv jf) jg ((j5).ext jb) (fun jh ji jj => ?_)))); have jk := Tch.trans jd ji (fun k hk => Or.inr (by subst hk; exact (Nat.le_trans j0.size j4))); refine asg (rv (vi j7)) (nn (W_ret (then_r ?_))); obtain rfl := Option.some.inj hr; exact done_ct (Or.inl rfl) Try.results17 ty44 rfl (jj) rfl (fun v hv => ⟨_, _, rfl, rfl, jk, _, _, rfl, hv, Vint⟩)
 ·have hr := ite_f je hr
  refine W_skip (then_n ?_)
  obtain ⟨jf, jg, jh⟩ := bind_some hr
  refine W_seq_cut (fun f w => ∃ (s : St) (ji : Loss), s.w = w ∧ Ext s0 s ∧ Le ja s ∧ Sum.inl ji = jf ∧ f 0 = w0 ∧ f 1 = vi (a1) ∧ f 2 = w2 ∧ f 6 = Value.pointer (some ⟨j2, 0, none⟩) ∧ Var s j2 44 ji) ?_ ?_
  ·have hr := jg
   refine W_block ?_
   obtain ⟨jj, jk, jl⟩ := bind_some hr
   refine W_seq_cut (fun f w => ∃ (s : St) (jm : Bool), s.w = w ∧ Ext s0 s ∧ Le ja s ∧ jm = jj ∧ f 15 = vb jm ∧ f 0 = w0 ∧ f 1 = vi (a1) ∧ f 2 = w2 ∧ f 6 = Value.pointer (some ⟨j2, 0, none⟩) ∧ Var s j2 44 (⟨0, 0⟩ : Loss)) ?_ ?_
   ·have hr := jk
    refine W_region (mv (rv (vi a1)) (ls (rv (vi a1)) (rv (vi 1)) (mv (rv (vb (decide (a1 < 1)))) ?_)))
    rcases tf (decide (a1 < 1)) with jn | jn
    ·have hr := ite_t jn hr; exact gf 18 (rv (vb (decide (a1 < 1)))) jn (gf 18 (rv (vb (decide (a1 < 1)))) jn (pt (rv (vb (decide (a1 < 1)))) jn (rv (vb true)) (asg (rv (vb true)) (nn ⟨ja, true, rfl, jd, (Le.refl _), Option.some.inj hr, rfl, rfl, rfl, rfl, rfl, (j5).ext jb⟩))))
    ·have hr := ite_f jn hr; exact gt 18 (rv (vb (decide (a1 < 1)))) jn (mv (rv (vi a1)) (gt 18 (rv (vb (decide (a1 < 1)))) jn (L_gtr (rv (vi a1)) (rv (vi 4096)) (by decide) (pf (rv (vb (decide (a1 < 1)))) jn (rv (vb (decide (4096 < a1)))) (asg (rv (vb (decide (4096 < a1)))) (nn ⟨ja, (decide (4096 < a1)), rfl, jd, (Le.refl _), Option.some.inj hr, rfl, rfl, rfl, rfl, rfl, (j5).ext jb⟩))))))
   ·rintro jn jo ⟨jp, jm, rfl, jq, jr, jk, js, jt, ju, jv, jw, jx⟩
    subst jk
    have hr := jl
    try dsimp only at hr
    refine W_cond _ js (fun jy => ?_) (fun jy => ?_)
    ·have hr := ite_t jy hr; refine sr (L_bld44_ (s := jp)   (by decide) (fun jz k0 => L_store ty44 jw (rv jz) k0 (jx) (fun k1 k2 k3 => ?_))); have k4 := Tch.trans jq k2 (fun k hk => Or.inr (by subst hk; exact (Nat.le_trans j0.size j4))); refine asg (rv (vi 3)) (nn (W_ret (block_r ?_))); obtain rfl := Option.some.inj hr; have hr := jh; (try dsimp only at hr); refine then_r ?_; obtain rfl := Option.some.inj hr; exact done_ct (Or.inl rfl) Try.results17 ty44 jw (k3) rfl (fun v hv => ⟨_, _, rfl, rfl, k4, _, _, rfl, hv, Vint⟩)
    ·have hr := ite_f jy hr
     refine sr (mv jv (ln Try.underlying40 (rv w2) (h2.mono (j3.le.trans (jb.le.trans jr))) (mv jt (ln Try.underlying37 (rv w0) (h0.mono (j3.le.trans (jb.le.trans jr))) ?_))))
     obtain ⟨jz, hr⟩ := chk_some hr
     refine L_sub (rv (vi ((a0.length : Int)))) (rv (vi 1)) jz (by decide) (ne (rv (vi ((a2.length : Int)))) (rv (vi ((a0.length : Int) - 1))) (asg (rv (vb (!decide ((a2.length : Int) = ((a0.length : Int) - 1))))) (nn ?_)))
     refine W_cond _ (rv (vb (!decide ((a2.length : Int) = ((a0.length : Int) - 1))))) (fun k0 => ?_) (fun k0 => ?_)
     ·have hr := ite_t k0 hr; refine sr (L_bld44_ (s := jp)   (by decide) (fun k1 k2 => L_store ty44 jw (rv k1) k2 (jx) (fun k3 k4 k5 => ?_))); have k6 := Tch.trans jq k4 (fun k hk => Or.inr (by subst hk; exact (Nat.le_trans j0.size j4))); refine asg (rv (vi 26)) (nn (W_ret (block_r ?_))); obtain rfl := Option.some.inj hr; have hr := jh; (try dsimp only at hr); refine then_r ?_; obtain rfl := Option.some.inj hr; exact done_ct (Or.inl rfl) Try.results17 ty44 jw (k5) rfl (fun v hv => ⟨_, _, rfl, rfl, k6, _, _, rfl, hv, Vint⟩)
     ·have hr := ite_f k0 hr
      refine sr (mv jv ?_)
      obtain ⟨k1, k2, hr⟩ := bind_some hr
      refine L_calls cal50 (args2 (rv w2) (rv (Value.func (.func 51) #[] #[]))) (slices_ContainsFunc_Lint_int_ok N _ _ _ (h2.mono (j3.le.trans (jb.le.trans jr))) _ (fun x => check_Lose_1 N x ) (Fn1.mk0 cal51 fun t vx x r hl hv hr => by obtain rfl := hv.int; exact check_Lose_1_ok N t x  r hr) k1 k2) (by decide) (fun k3 k4 k5 k6 => ?_)
      have k7 := Tch.ext jq k5
      obtain rfl := k6.bool
      refine asg (rv (vb k1)) (nn ?_)
      refine W_cond _ (rv (vb k1)) (fun k8 => ?_) (fun k8 => ?_)
      ·have hr := ite_t k8 hr; refine sr (L_bld44_ (s := k4)   (by decide) (fun k9 ka => L_store ty44 jw (rv k9) ka ((jx).ext k5) (fun kb kc kd => ?_))); have ke := Tch.trans k7 kc (fun k hk => Or.inr (by subst hk; exact (Nat.le_trans j0.size j4))); refine asg (rv (vi 3)) (nn (W_ret (block_r ?_))); obtain rfl := Option.some.inj hr; have hr := jh; (try dsimp only at hr); refine then_r ?_; obtain rfl := Option.some.inj hr; exact done_ct (Or.inl rfl) Try.results17 ty44 jw (kd) rfl (fun v hv => ⟨_, _, rfl, rfl, ke, _, _, rfl, hv, Vint⟩)
      ·have hr := ite_f k8 hr; refine W_skip (block_n ?_); exact then_n ⟨k4, (⟨0, 0⟩ : Loss), rfl, k7, (jr.trans k5.le), Option.some.inj hr, jt, ju, jv, jw, (jx).ext k5⟩
  ·rintro jj jk ⟨jl, ji, rfl, jm, jn, jg, jo, jp, jq, jr, js⟩; subst jg; have hr := jh; (try dsimp only at hr); refine sr (mv jo (mv jp (mv jq ?_))); obtain ⟨jt, ju, hr⟩ := bind_some hr; refine L_calls cal48 (args3 (rv w0) (rv (vi a1)) (rv w2)) (check_lose_ok N _ _ _ (h0.mono (j3.le.trans (jb.le.trans jn))) a1 _ _ (h2.mono (j3.le.trans (jb.le.trans jn))) jt ju) (by decide) (fun jv jw jx jy => ?_); have jz := Tch.ext jm jx; refine L_store ty44 jr (rv jv) jy ((js).ext jx) (fun k0 k1 k2 => ?_); have k3 := Tch.trans jz k1 (fun k hk => Or.inr (by subst hk; exact (Nat.le_trans j0.size j4))); refine asg (rv (vi 0)) (nn (W_ret ?_)); obtain rfl := Option.some.inj hr; exact done_ct (Or.inl rfl) Try.results17 ty44 jr (k2) rfl (fun v hv => ⟨_, _, rfl, rfl, k3, _, _, rfl, hv, Vint⟩)

theorem law14_less_ok (N : Nat) (s0 : St) (w0 : Value) (a0 : Loss) (h0 : V s0 w0 a0) (w1 : Value) (a1 : Loss) (h1 : V s0 w1 a1) (r : Bool) (hr : law14_less N a0 a1 = some r) :
    Calls Try.prog 18 #[w0, w1] s0.w (Ret s0 fun v s => V s v r) := by
 unfold law14_less at hr
 have j0 := Ext.refl s0
 refine Calls_of (n := 16) (args := [w0, w1]) Try.func18 rfl rfl (by simp) (sr (L_box (rv w0) h0 (by decide) (fun j1 j2 j3 j4 => ?_)))
 have j5 := Tch.ext j0 j3
 refine L_box (rv w1) (h1.mono j3.le) (by decide) (fun j6 j7 j8 j9 => ?_)
 have ja := Tch.ext j5 j8
 refine asg (rv (vb false)) (nn (sr (fa fld44_0 Loss.of_Num (rv j2) (j4.mono j8.le) (fun jb jc => li ty3 (rv jb) jc (fa fld44_1 Loss.of_Den (rv j7) j9 (fun jd je => li ty3 (rv jd) je ?_))))))
 obtain ⟨jf, hr⟩ := chk_some hr
 refine L_mul (rv (vi (a0.Num))) (rv (vi (a1.Den))) jf (by decide) (fa fld44_0 Loss.of_Num (rv j7) j9 (fun jg jh => li ty3 (rv jg) jh (fa fld44_1 Loss.of_Den (rv j2) (j4.mono j8.le) (fun ji jj => li ty3 (rv ji) jj ?_))))
 obtain ⟨jk, hr⟩ := chk_some hr
 refine L_mul (rv (vi (a1.Num))) (rv (vi (a0.Den))) jk (by decide) (ls (rv (vi (a0.Num * a1.Den))) (rv (vi (a1.Num * a0.Den))) (asg (rv (vb (decide ((a0.Num * a1.Den) < (a1.Num * a0.Den))))) (nn (W_ret ?_))))
 obtain rfl := Option.some.inj hr
 exact done1 (Or.inl rfl) Try.results18 rfl ⟨_, _, rfl, rfl, ja, Vbool⟩

set_option maxHeartbeats 1104000 in
theorem law14_CheckBest_ok (N : Nat) (s0 : St) (w0 : Value) (a0 : List Level) (h0 : V s0 w0 a0) (a1 : U8) (a2 : U8) (a3 : U8) (a4 : U8) (r : Bool) (hr : law14_CheckBest N a0 a1 a2 a3 a4 = some r) :
    Calls Try.prog 4 #[w0, .int .u8 a1.n, .int .u8 a2.n, .int .u8 a3.n, .int .u8 a4.n] s0.w (Ret s0 fun v s => V s v r) := by
 unfold law14_CheckBest at hr
 have j0 := Ext.refl s0
 refine Calls_of (n := 235) (args := [w0, .int .u8 a1.n, .int .u8 a2.n, .int .u8 a3.n, .int .u8 a4.n]) Try.func4 rfl rfl (by simp) (sr (asg (rv (vb false)) (nn (W_seq ?_))))
 obtain ⟨j1, j2, j3⟩ := bind_some hr
 refine W_seq_cut (fun f w => ∃ (s : St) (j4 : Bool), s.w = w ∧ Ext s0 s ∧ Le s0 s ∧ j4 = j1 ∧ f 33 = vb j4 ∧ f 0 = w0 ∧ f 1 = Value.int .u8 (a1).n ∧ f 2 = Value.int .u8 (a2).n ∧ f 3 = Value.int .u8 (a3).n ∧ f 4 = Value.int .u8 (a4).n) ?_ ?_
 ·have hr := j2
  refine W_region (mv (rv w0) (ln Try.underlying37 (rv w0) h0 (ls (rv (vi ((a0.length : Int)))) (rv (vi 1)) (mv (rv (vb (decide ((a0.length : Int) < 1)))) ?_))))
  rcases tf (decide ((a0.length : Int) < 1)) with j5 | j5
  ·have hr := ite_t j5 hr; exact gf 29 (rv (vb (decide ((a0.length : Int) < 1)))) j5 (gf 29 (rv (vb (decide ((a0.length : Int) < 1)))) j5 (gf 29 (rv (vb (decide ((a0.length : Int) < 1)))) j5 (pt (rv (vb (decide ((a0.length : Int) < 1)))) j5 (rv (vb true)) (nn ⟨s0, true, rfl, j0, (Le.refl _), Option.some.inj hr, rfl, rfl, rfl, rfl, rfl, rfl⟩))))
  ·have hr := ite_f j5 hr; exact gt 29 (rv (vb (decide ((a0.length : Int) < 1)))) j5 (mv (rv w0) (gt 29 (rv (vb (decide ((a0.length : Int) < 1)))) j5 (ln Try.underlying37 (rv w0) h0 (gt 29 (rv (vb (decide ((a0.length : Int) < 1)))) j5 (L_gtr (rv (vi ((a0.length : Int)))) (rv (vi 2)) (by decide) (pf (rv (vb (decide ((a0.length : Int) < 1)))) j5 (rv (vb (decide (2 < (a0.length : Int))))) (nn ⟨s0, (decide (2 < (a0.length : Int))), rfl, j0, (Le.refl _), Option.some.inj hr, rfl, rfl, rfl, rfl, rfl, rfl⟩)))))))
 ·rintro j5 j6 ⟨j7, j4, rfl, j8, j9, j2, ja, jb, jc, jd, je, jf⟩
  subst j2
  have hr := j3
  try dsimp only at hr
  refine W_cond _ ja (fun jg => ?_) (fun jg => ?_)
  ·have hr := ite_t jg hr; refine sr ?_; obtain ⟨jh, ji, hr⟩ := bind_some hr; refine L_calls cal9 (args0) (law14_works_ok N _  jh ji) (by decide) (fun jj jk jl jm => ?_); have jn := Tch.ext j8 jl; obtain rfl := jm.bool; refine asg (rv (vb jh)) (nn (W_ret (then_r ?_))); obtain rfl := Option.some.inj hr; exact done1 (Or.inl rfl) Try.results4 rfl ⟨_, _, rfl, rfl, jn, Vbool⟩
  ·have hr := ite_f jg hr
   refine W_skip (then_n (W_seq (sr (mv jb (ln Try.underlying37 (rv w0) (h0.mono j9) (mv (rv (vi 0)) (nn ?_)))))))
   obtain ⟨jh, ji, jj⟩ := bind_some hr
   refine W_cut (fun f w => ∃ (s : St), s.w = w ∧ Ext s0 s ∧ Le j7 s ∧ Sum.inl () = jh ∧ f 0 = w0 ∧ f 1 = Value.int .u8 (a1).n ∧ f 2 = Value.int .u8 (a2).n ∧ f 3 = Value.int .u8 (a3).n ∧ f 4 = Value.int .u8 (a4).n) ?_ ?_
   ·refine W_block (W_loop (fun m f w => ∃ (s : St) (jk : Int), s.w = w ∧ Ext s0 s ∧ Le j7 s ∧ law14_CheckBest_l1 N a0 m jk = some jh ∧ f 37 = vi jk ∧ f 0 = w0 ∧ f 1 = Value.int .u8 (a1).n ∧ f 2 = Value.int .u8 (a2).n ∧ f 3 = Value.int .u8 (a3).n ∧ f 4 = Value.int .u8 (a4).n ∧ f 36 = vi ((a0.length : Int))) N ⟨j7, 0, rfl, j8, (Le.refl _), ji, rfl, jb, jc, jd, je, jf, rfl⟩ ?_)
    rintro jl jm jn ⟨jo, jk, rfl, jp, jq, hr, jr, js, jt, ju, jv, jw, jx⟩
    cases jl with
    | zero => exact absurd hr (by simp [law14_CheckBest_l1])
    | succ jl =>
     rw [law14_CheckBest_l1.eq_2] at hr
     refine sr (ls jr jx (nn (W_seq ?_)))
     refine W_cond _ (rv (vb (decide (jk < (a0.length : Int))))) (fun jy => ?_) (fun jy => ?_)
     ·have hr := ite_t jy hr
      refine W_skip (then_n (W_seq (W_block (sr (mv jr (asg (rv (vi jk)) (nn ?_)))))))
      obtain ⟨jz, k0, k1⟩ := bind_some hr
      refine W_seq_cut (fun f w => ∃ (s : St) (k2 : Bool), s.w = w ∧ Ext s0 s ∧ Le jo s ∧ k2 = jz ∧ f 69 = vb k2 ∧ f 0 = w0 ∧ f 1 = Value.int .u8 (a1).n ∧ f 2 = Value.int .u8 (a2).n ∧ f 3 = Value.int .u8 (a3).n ∧ f 4 = Value.int .u8 (a4).n ∧ f 36 = vi ((a0.length : Int)) ∧ f 37 = vi (jk)) ?_ ?_
      ·have hr := k0
       refine W_region (mv js (mv (rv (vi jk)) ?_))
       obtain ⟨k3, k4, hr⟩ := bind_some hr
       refine ix Try.underlying37 ty39.inf (rv w0) (h0.mono (j9.trans jq)) (rv (vi jk)) k4 (fun k5 k6 => fa fld39_0 Level.of_Cost (rv k5) k6 (fun k7 k8 => li ty3 (rv k7) k8 (ls (rv (vi (k3.Cost))) (rv (vi 1)) (mv (rv (vb (decide (k3.Cost < 1)))) ?_))))
       rcases tf (decide (k3.Cost < 1)) with k9 | k9
       ·have hr := ite_t k9 hr; refine gf 46 (rv (vb (decide (k3.Cost < 1)))) k9 (gf 46 (rv (vb (decide (k3.Cost < 1)))) k9 (gf 46 (rv (vb (decide (k3.Cost < 1)))) k9 (gf 46 (rv (vb (decide (k3.Cost < 1)))) k9 (gf 46 (rv (vb (decide (k3.Cost < 1)))) k9 (gf 46 (rv (vb (decide (k3.Cost < 1)))) k9 (pt (rv (vb (decide (k3.Cost < 1)))) k9 (rv (vb true)) (mv (rv (vb true)) (gf 54 (rv (vb true)) rfl (gf 54 (rv (vb true)) rfl (gf 54 (rv (vb true)) rfl (gf 54 (rv (vb true)) rfl (gf 54 (rv (vb true)) rfl (gf 54 (rv (vb true)) rfl ?_))))))))))))); exact pt (rv (vb true)) rfl (rv (vb true)) (mv (rv (vb true)) (gf 62 (rv (vb true)) rfl (gf 62 (rv (vb true)) rfl (gf 62 (rv (vb true)) rfl (gf 62 (rv (vb true)) rfl (gf 62 (rv (vb true)) rfl (gf 62 (rv (vb true)) rfl (pt (rv (vb true)) rfl (rv (vb true)) (nn ⟨jo, true, rfl, jp, (Le.refl _), Option.some.inj hr, rfl, js, jt, ju, jv, jw, jx, jr⟩)))))))))
       ·have hr := ite_f k9 hr
        refine gt 46 (rv (vb (decide (k3.Cost < 1)))) k9 (mv js (gt 46 (rv (vb (decide (k3.Cost < 1)))) k9 (mv (rv (vi jk)) (gt 46 (rv (vb (decide (k3.Cost < 1)))) k9 ?_))))
        obtain ⟨ka, kb, hr⟩ := bind_some hr
        refine ix Try.underlying37 ty39.inf (rv w0) (h0.mono (j9.trans jq)) (rv (vi jk)) kb (fun kc kd => gt 46 (rv (vb (decide (k3.Cost < 1)))) k9 (fa fld39_0 Level.of_Cost (rv kc) kd (fun ke kf => gt 46 (rv (vb (decide (k3.Cost < 1)))) k9 (li ty3 (rv ke) kf (gt 46 (rv (vb (decide (k3.Cost < 1)))) k9 (L_gtr (rv (vi (ka.Cost))) (rv (vi 30)) (by decide) (pf (rv (vb (decide (k3.Cost < 1)))) k9 (rv (vb (decide (30 < ka.Cost)))) (mv (rv (vb (decide (30 < ka.Cost)))) ?_))))))))
        rcases tf (decide (30 < ka.Cost)) with kg | kg
        ·have hr := ite_t kg hr; refine gf 54 (rv (vb (decide (30 < ka.Cost)))) kg (gf 54 (rv (vb (decide (30 < ka.Cost)))) kg (gf 54 (rv (vb (decide (30 < ka.Cost)))) kg (gf 54 (rv (vb (decide (30 < ka.Cost)))) kg (gf 54 (rv (vb (decide (30 < ka.Cost)))) kg (gf 54 (rv (vb (decide (30 < ka.Cost)))) kg (pt (rv (vb (decide (30 < ka.Cost)))) kg (rv (vb true)) (mv (rv (vb true)) (gf 62 (rv (vb true)) rfl (gf 62 (rv (vb true)) rfl (gf 62 (rv (vb true)) rfl (gf 62 (rv (vb true)) rfl (gf 62 (rv (vb true)) rfl (gf 62 (rv (vb true)) rfl ?_))))))))))))); exact pt (rv (vb true)) rfl (rv (vb true)) (nn ⟨jo, true, rfl, jp, (Le.refl _), Option.some.inj hr, rfl, js, jt, ju, jv, jw, jx, jr⟩)
        ·have hr := ite_f kg hr
         refine gt 54 (rv (vb (decide (30 < ka.Cost)))) kg (mv js (gt 54 (rv (vb (decide (30 < ka.Cost)))) kg (mv (rv (vi jk)) (gt 54 (rv (vb (decide (30 < ka.Cost)))) kg ?_))))
         obtain ⟨kh, ki, hr⟩ := bind_some hr
         refine ix Try.underlying37 ty39.inf (rv w0) (h0.mono (j9.trans jq)) (rv (vi jk)) ki (fun kj kk => gt 54 (rv (vb (decide (30 < ka.Cost)))) kg (fa fld39_1 Level.of_Mean (rv kj) kk (fun kl km => gt 54 (rv (vb (decide (30 < ka.Cost)))) kg (li ty3 (rv kl) km (gt 54 (rv (vb (decide (30 < ka.Cost)))) kg (ls (rv (vi (kh.Mean))) (rv (vi 1)) (pf (rv (vb (decide (30 < ka.Cost)))) kg (rv (vb (decide (kh.Mean < 1)))) (mv (rv (vb (decide (kh.Mean < 1)))) ?_))))))))
         rcases tf (decide (kh.Mean < 1)) with kn | kn
         ·have hr := ite_t kn hr; exact gf 62 (rv (vb (decide (kh.Mean < 1)))) kn (gf 62 (rv (vb (decide (kh.Mean < 1)))) kn (gf 62 (rv (vb (decide (kh.Mean < 1)))) kn (gf 62 (rv (vb (decide (kh.Mean < 1)))) kn (gf 62 (rv (vb (decide (kh.Mean < 1)))) kn (gf 62 (rv (vb (decide (kh.Mean < 1)))) kn (pt (rv (vb (decide (kh.Mean < 1)))) kn (rv (vb true)) (nn ⟨jo, true, rfl, jp, (Le.refl _), Option.some.inj hr, rfl, js, jt, ju, jv, jw, jx, jr⟩)))))))
         ·have hr := ite_f kn hr; refine gt 62 (rv (vb (decide (kh.Mean < 1)))) kn (mv js (gt 62 (rv (vb (decide (kh.Mean < 1)))) kn (mv (rv (vi jk)) (gt 62 (rv (vb (decide (kh.Mean < 1)))) kn ?_)))); obtain ⟨ko, kp, hr⟩ := bind_some hr; exact ix Try.underlying37 ty39.inf (rv w0) (h0.mono (j9.trans jq)) (rv (vi jk)) kp (fun kq kr => gt 62 (rv (vb (decide (kh.Mean < 1)))) kn (fa fld39_1 Level.of_Mean (rv kq) kr (fun ks kt => gt 62 (rv (vb (decide (kh.Mean < 1)))) kn (li ty3 (rv ks) kt (gt 62 (rv (vb (decide (kh.Mean < 1)))) kn (L_gtr (rv (vi (ko.Mean))) (rv (vi 30)) (by decide) (pf (rv (vb (decide (kh.Mean < 1)))) kn (rv (vb (decide (30 < ko.Mean)))) (nn ⟨jo, (decide (30 < ko.Mean)), rfl, jp, (Le.refl _), Option.some.inj hr, rfl, js, jt, ju, jv, jw, jx, jr⟩))))))))
      ·rintro k3 k4 ⟨k5, k2, rfl, k6, k7, k0, k8, k9, ka, kb, kc, kd, ke, kf⟩
       subst k0
       have hr := k1
       try dsimp only at hr
       refine W_cond _ k8 (fun kg => ?_) (fun kg => ?_)
       ·have hr := ite_t kg hr; refine sr ?_; obtain ⟨kh, ki, hr⟩ := bind_some hr; refine L_calls cal9 (args0) (law14_works_ok N _  kh ki) (by decide) (fun kj kk kl km => ?_); have kn := Tch.ext k6 kl; obtain rfl := km.bool; refine asg (rv (vb kh)) (nn (W_ret (block_r (then_r (then_r (block_r ?_)))))); obtain rfl := Option.some.inj hr; have hr := jj; (try dsimp only at hr); refine then_r (then_r ?_); obtain rfl := Option.some.inj hr; exact done1 (Or.inl rfl) Try.results4 rfl ⟨_, _, rfl, rfl, kn, Vbool⟩
       ·have hr := ite_f kg hr; refine W_skip (block_n (then_n (W_region ?_))); obtain ⟨kh, hr⟩ := chk_some hr; exact ad kf (rv (vi 1)) kh (mv (rv (vi (jk + 1))) (nn ⟨jl, Nat.lt_succ_self _, ⟨k5, (jk + 1), rfl, k6, (jq.trans k7), hr, rfl, k9, ka, kb, kc, kd, ke⟩⟩))
     ·have hr := ite_f jy hr; refine W_exit (then_x (then_x (block_here ?_))); exact then_n ⟨jo, rfl, jp, jq, Option.some.inj hr, js, jt, ju, jv, jw⟩
   ·rintro jk jl ⟨jm, rfl, jn, jo, ji, jp, jq, jr, js, jt⟩
    subst ji
    have hr := jj
    try dsimp only at hr
    refine then_n (sr (mv jq ?_))
    obtain ⟨ju, hr⟩ := chk_some hr
    refine L_convert_i64 Try.underlying5 Try.underlying3 (rv (Value.int .u8 (a1).n)) ju (by decide) ?_
    obtain ⟨jv, hr⟩ := chk_some hr
    refine L_rem (rv (vi (a1.n))) (rv (vi 40)) jv (by decide) ?_
    obtain ⟨jw, hr⟩ := chk_some hr
    refine ad (rv (vi 1)) (rv (vi (Int.tmod a1.n 40))) jw (mv jr ?_)
    obtain ⟨jx, hr⟩ := chk_some hr
    refine L_convert_i64 Try.underlying5 Try.underlying3 (rv (Value.int .u8 (a2).n)) jx (by decide) ?_
    obtain ⟨jy, hr⟩ := chk_some hr
    refine L_rem (rv (vi (a2.n))) (rv (vi 4)) jy (by decide) ?_
    obtain ⟨jz, hr⟩ := chk_some hr
    refine ad (rv (vi 1)) (rv (vi (Int.tmod a2.n 4))) jz (asg (rv (vi (1 + (Int.tmod a1.n 40)))) (asg (rv (vi (1 + (Int.tmod a2.n 4)))) (nn (sr (mv jp (mv (rv (vi (1 + (Int.tmod a1.n 40)))) (mv (rv (vi (1 + (Int.tmod a2.n 4)))) ?_)))))))
    obtain ⟨k0, k1, hr⟩ := bind_some hr
    refine L_calls cal16 (args3 (rv w0) (rv (vi (1 + (Int.tmod a1.n 40)))) (rv (vi (1 + (Int.tmod a2.n 4))))) (check_Best_ok N _ _ _ (h0.mono (j9.trans jo)) (1 + (Int.tmod a1.n 40)) (1 + (Int.tmod a2.n 4)) k0 k1) (by decide) (fun k2 k3 k4 k5 => ?_)
    have k6 := Tch.ext jn k4
    obtain ⟨k7, k8, k9, rfl, ka, kb, kc⟩ := k5
    obtain rfl := ka.int
    obtain rfl := kc.int
    refine mv (rv (Value.tuple #[vi (k0.1), k8, vi (k0.2.2)])) (xt (rv (Value.tuple #[vi (k0.1), k8, vi (k0.2.2)])) (k := 0) rfl (xt (rv (Value.tuple #[vi (k0.1), k8, vi (k0.2.2)])) (k := 1) rfl (xt (rv (Value.tuple #[vi (k0.1), k8, vi (k0.2.2)])) (k := 2) rfl (asg (rv (vi (k0.1))) (asg (rv k8) (asg (rv (vi (k0.2.2))) (nn (W_seq ?_))))))))
    obtain ⟨kd, ke, kf⟩ := bind_some hr
    refine W_seq_cut (fun f w => ∃ (s : St) (kg : Bool), s.w = w ∧ Ext s0 s ∧ Le k3 s ∧ kg = kd ∧ f 106 = vb kg ∧ f 0 = w0 ∧ f 3 = Value.int .u8 (a3).n ∧ f 4 = Value.int .u8 (a4).n ∧ f 12 = vi (1 + (Int.tmod a1.n 40)) ∧ f 13 = vi (1 + (Int.tmod a2.n 4)) ∧ f 14 = vi (k0.1) ∧ f 15 = k8) ?_ ?_
    ·have hr := ke
     refine W_region (mv (rv (vi (k0.2.2))) (ne (rv (vi (k0.2.2))) (rv (vi 0)) (mv (rv (vb (!decide (k0.2.2 = 0)))) ?_)))
     rcases tf (!decide (k0.2.2 = 0)) with kh | kh
     ·have hr := ite_t kh hr; refine gf 90 (rv (vb (!decide (k0.2.2 = 0)))) kh (gf 90 (rv (vb (!decide (k0.2.2 = 0)))) kh (pt (rv (vb (!decide (k0.2.2 = 0)))) kh (rv (vb true)) (mv (rv (vb true)) (gf 94 (rv (vb true)) rfl (gf 94 (rv (vb true)) rfl (gf 94 (rv (vb true)) rfl (pt (rv (vb true)) rfl (rv (vb true)) (mv (rv (vb true)) (gf 99 (rv (vb true)) rfl (gf 99 (rv (vb true)) rfl (gf 99 (rv (vb true)) rfl (gf 99 (rv (vb true)) rfl (gf 99 (rv (vb true)) rfl ?_))))))))))))); exact gf 99 (rv (vb true)) rfl (pt (rv (vb true)) rfl (rv (vb true)) (nn ⟨k3, true, rfl, k6, (Le.refl _), Option.some.inj hr, rfl, jp, js, jt, rfl, rfl, rfl, rfl⟩))
     ·have hr := ite_f kh hr
      refine gt 90 (rv (vb (!decide (k0.2.2 = 0)))) kh (mv (rv (vi (k0.1))) (gt 90 (rv (vb (!decide (k0.2.2 = 0)))) kh (ls (rv (vi (k0.1))) (rv (vi 1)) (pf (rv (vb (!decide (k0.2.2 = 0)))) kh (rv (vb (decide (k0.1 < 1)))) (mv (rv (vb (decide (k0.1 < 1)))) ?_)))))
      rcases tf (decide (k0.1 < 1)) with ki | ki
      ·have hr := ite_t ki hr; exact gf 94 (rv (vb (decide (k0.1 < 1)))) ki (gf 94 (rv (vb (decide (k0.1 < 1)))) ki (gf 94 (rv (vb (decide (k0.1 < 1)))) ki (pt (rv (vb (decide (k0.1 < 1)))) ki (rv (vb true)) (mv (rv (vb true)) (gf 99 (rv (vb true)) rfl (gf 99 (rv (vb true)) rfl (gf 99 (rv (vb true)) rfl (gf 99 (rv (vb true)) rfl (gf 99 (rv (vb true)) rfl (gf 99 (rv (vb true)) rfl (pt (rv (vb true)) rfl (rv (vb true)) (nn ⟨k3, true, rfl, k6, (Le.refl _), Option.some.inj hr, rfl, jp, js, jt, rfl, rfl, rfl, rfl⟩))))))))))))
      ·have hr := ite_f ki hr
       refine gt 94 (rv (vb (decide (k0.1 < 1)))) ki (mv (rv (vi (k0.1))) (gt 94 (rv (vb (decide (k0.1 < 1)))) ki (mv (rv (vi (1 + (Int.tmod a1.n 40)))) (gt 94 (rv (vb (decide (k0.1 < 1)))) ki (L_gtr (rv (vi (k0.1))) (rv (vi (1 + (Int.tmod a1.n 40)))) (by decide) (pf (rv (vb (decide (k0.1 < 1)))) ki (rv (vb (decide ((1 + (Int.tmod a1.n 40)) < k0.1)))) (mv (rv (vb (decide ((1 + (Int.tmod a1.n 40)) < k0.1)))) ?_)))))))
       rcases tf (decide ((1 + (Int.tmod a1.n 40)) < k0.1)) with kj | kj
       ·have hr := ite_t kj hr; exact gf 99 (rv (vb (decide ((1 + (Int.tmod a1.n 40)) < k0.1)))) kj (gf 99 (rv (vb (decide ((1 + (Int.tmod a1.n 40)) < k0.1)))) kj (gf 99 (rv (vb (decide ((1 + (Int.tmod a1.n 40)) < k0.1)))) kj (gf 99 (rv (vb (decide ((1 + (Int.tmod a1.n 40)) < k0.1)))) kj (gf 99 (rv (vb (decide ((1 + (Int.tmod a1.n 40)) < k0.1)))) kj (gf 99 (rv (vb (decide ((1 + (Int.tmod a1.n 40)) < k0.1)))) kj (pt (rv (vb (decide ((1 + (Int.tmod a1.n 40)) < k0.1)))) kj (rv (vb true)) (nn ⟨k3, true, rfl, k6, (Le.refl _), Option.some.inj hr, rfl, jp, js, jt, rfl, rfl, rfl, rfl⟩)))))))
       ·have hr := ite_f kj hr; refine gt 99 (rv (vb (decide ((1 + (Int.tmod a1.n 40)) < k0.1)))) kj (mv (rv k8) (gt 99 (rv (vb (decide ((1 + (Int.tmod a1.n 40)) < k0.1)))) kj (ln Try.underlying40 (rv k8) kb (gt 99 (rv (vb (decide ((1 + (Int.tmod a1.n 40)) < k0.1)))) kj (mv jp (gt 99 (rv (vb (decide ((1 + (Int.tmod a1.n 40)) < k0.1)))) kj (ln Try.underlying37 (rv w0) (h0.mono (j9.trans (jo.trans k4.le))) (gt 99 (rv (vb (decide ((1 + (Int.tmod a1.n 40)) < k0.1)))) kj ?_)))))))); obtain ⟨kk, hr⟩ := chk_some hr; exact L_sub (rv (vi ((a0.length : Int)))) (rv (vi 1)) kk (by decide) (gt 99 (rv (vb (decide ((1 + (Int.tmod a1.n 40)) < k0.1)))) kj (ne (rv (vi ((k0.2.1.length : Int)))) (rv (vi ((a0.length : Int) - 1))) (pf (rv (vb (decide ((1 + (Int.tmod a1.n 40)) < k0.1)))) kj (rv (vb (!decide ((k0.2.1.length : Int) = ((a0.length : Int) - 1))))) (nn ⟨k3, (!decide ((k0.2.1.length : Int) = ((a0.length : Int) - 1))), rfl, k6, (Le.refl _), Option.some.inj hr, rfl, jp, js, jt, rfl, rfl, rfl, rfl⟩))))
    ·rintro kh ki ⟨kj, kg, rfl, kk, kl, ke, km, kn, ko, kp, kq, kr, ks, kt⟩
     subst ke
     have hr := kf
     try dsimp only at hr
     refine W_cond _ km (fun ku => ?_) (fun ku => ?_)
     ·have hr := ite_t ku hr; refine sr (asg (rv (vb false)) (nn (W_ret (then_r ?_)))); obtain rfl := Option.some.inj hr; exact done1 (Or.inl rfl) Try.results4 rfl ⟨_, _, rfl, rfl, kk, Vbool⟩
     ·have hr := ite_f ku hr
      refine W_skip (then_n (sr (mv kt (ln Try.underlying40 (rv k8) (kb.mono kl) ?_))))
      obtain ⟨kv, hr⟩ := chk_some hr
      refine L_makeArr (x0 := (0 : Int)) Try.underlying40 tyz3 (rv (vi ((k0.2.1.length : Int)))) kv.1 kv.2.1 kv.2.2 (fun _ => rfl) (by decide) (fun kw kx ky kz g0 => ?_)
      have g1 := Tch.ext kk ky
      refine asg (rv (Value.slice (some ⟨kx, 0, none⟩) ((k0.2.1.length : Int)).toNat ((k0.2.1.length : Int)).toNat)) (nn (W_seq (sr (mv kt (ln Try.underlying40 (rv k8) (kb.mono (kl.trans ky.le)) (mv (rv (vi 0)) (nn ?_)))))))
      obtain ⟨g2, g3, g4⟩ := bind_some hr
      refine W_cut (fun f w => ∃ (s : St) (g5 : List Int), s.w = w ∧ Ext s0 s ∧ Le kw s ∧ Sum.inl g5 = g2 ∧ f 0 = w0 ∧ f 3 = Value.int .u8 (a3).n ∧ f 12 = vi (1 + (Int.tmod a1.n 40)) ∧ f 14 = vi (k0.1) ∧ f 15 = k8 ∧ f 17 = Value.slice (some ⟨kx, 0, none⟩) ((k0.2.1.length : Int)).toNat ((k0.2.1.length : Int)).toNat ∧ Arr s kx 3 ((k0.2.1.length : Int)).toNat g5) ?_ ?_
      ·refine W_block (W_loop (fun m f w => ∃ (s : St) (g6 : Int) (g7 : List Int), s.w = w ∧ Ext s0 s ∧ Le kw s ∧ law14_CheckBest_l2 N a2 a4 k0 m g6 g7 = some g2 ∧ f 112 = vi g6 ∧ f 0 = w0 ∧ f 3 = Value.int .u8 (a3).n ∧ f 4 = Value.int .u8 (a4).n ∧ f 12 = vi (1 + (Int.tmod a1.n 40)) ∧ f 13 = vi (1 + (Int.tmod a2.n 4)) ∧ f 14 = vi (k0.1) ∧ f 15 = k8 ∧ f 17 = Value.slice (some ⟨kx, 0, none⟩) ((k0.2.1.length : Int)).toNat ((k0.2.1.length : Int)).toNat ∧ f 111 = vi ((k0.2.1.length : Int)) ∧ Arr s kx 3 ((k0.2.1.length : Int)).toNat g7) N ⟨kw, 0, (List.replicate ((k0.2.1.length : Int)).toNat (0 : Int)), rfl, g1, (Le.refl _), g3, rfl, kn, ko, kp, kq, kr, ks, kt, rfl, rfl, g0⟩ ?_)
       rintro g8 g9 ga ⟨gb, g6, g7, rfl, gc, gd, hr, gg, gh, gi, gj, gk, gl, gm, gn, go, gp, gq⟩
       cases g8 with
       | zero => exact absurd hr (by simp [law14_CheckBest_l2])
       | succ g8 =>
        rw [law14_CheckBest_l2.eq_2] at hr
        refine sr (ls gg gp (nn (W_seq ?_)))
        refine W_cond _ (rv (vb (decide (g6 < (k0.2.1.length : Int))))) (fun gr => ?_) (fun gr => ?_)
        ·have hr := ite_t gr hr
         refine W_skip (then_n (W_seq (W_block (sr (mv gg (asg (rv (vi g6)) (nn (W_seq ?_))))))))
         obtain ⟨gs, gu, gv⟩ := bind_some hr
         refine W_seq_cut (fun f w => ∃ (s : St) (gw : Bool), s.w = w ∧ Ext s0 s ∧ Le gb s ∧ gw = gs ∧ f 127 = vb gw ∧ f 0 = w0 ∧ f 3 = Value.int .u8 (a3).n ∧ f 4 = Value.int .u8 (a4).n ∧ f 12 = vi (1 + (Int.tmod a1.n 40)) ∧ f 13 = vi (1 + (Int.tmod a2.n 4)) ∧ f 14 = vi (k0.1) ∧ f 15 = k8 ∧ f 17 = Value.slice (some ⟨kx, 0, none⟩) ((k0.2.1.length : Int)).toNat ((k0.2.1.length : Int)).toNat ∧ f 18 = vi (g6) ∧ f 111 = vi ((k0.2.1.length : Int)) ∧ f 112 = vi (g6) ∧ Arr s kx 3 ((k0.2.1.length : Int)).toNat g7) ?_ ?_
         ·have hr := gu
          refine W_region (mv gn (mv (rv (vi g6)) ?_))
          obtain ⟨gx, gy, hr⟩ := bind_some hr
          refine ix Try.underlying40 ty3.inf (rv k8) (kb.mono (kl.trans (ky.le.trans gd))) (rv (vi g6)) gy (fun gz u0 => li ty3 (rv gz) u0 (ls (rv (vi gx)) (rv (vi 1)) (mv (rv (vb (decide (gx < 1)))) ?_)))
          rcases tf (decide (gx < 1)) with u1 | u1
          ·have hr := ite_t u1 hr; exact gf 120 (rv (vb (decide (gx < 1)))) u1 (gf 120 (rv (vb (decide (gx < 1)))) u1 (gf 120 (rv (vb (decide (gx < 1)))) u1 (gf 120 (rv (vb (decide (gx < 1)))) u1 (gf 120 (rv (vb (decide (gx < 1)))) u1 (gf 120 (rv (vb (decide (gx < 1)))) u1 (pt (rv (vb (decide (gx < 1)))) u1 (rv (vb true)) (nn ⟨gb, true, rfl, gc, (Le.refl _), Option.some.inj hr, rfl, gh, gi, gj, gk, gl, gm, gn, go, rfl, gp, gg, gq⟩)))))))
          ·have hr := ite_f u1 hr; refine gt 120 (rv (vb (decide (gx < 1)))) u1 (mv gn (gt 120 (rv (vb (decide (gx < 1)))) u1 (mv (rv (vi g6)) (gt 120 (rv (vb (decide (gx < 1)))) u1 ?_)))); obtain ⟨u2, u3, hr⟩ := bind_some hr; exact ix Try.underlying40 ty3.inf (rv k8) (kb.mono (kl.trans (ky.le.trans gd))) (rv (vi g6)) u3 (fun u4 u5 => gt 120 (rv (vb (decide (gx < 1)))) u1 (li ty3 (rv u4) u5 (gt 120 (rv (vb (decide (gx < 1)))) u1 (mv gl (gt 120 (rv (vb (decide (gx < 1)))) u1 (L_gtr (rv (vi u2)) (rv (vi (1 + (Int.tmod a2.n 4)))) (by decide) (pf (rv (vb (decide (gx < 1)))) u1 (rv (vb (decide ((1 + (Int.tmod a2.n 4)) < u2)))) (nn ⟨gb, (decide ((1 + (Int.tmod a2.n 4)) < u2)), rfl, gc, (Le.refl _), Option.some.inj hr, rfl, gh, gi, gj, gk, gl, gm, gn, go, rfl, gp, gg, gq⟩))))))))
         ·rintro gx gy ⟨gz, gw, rfl, u0, u1, gu, u2, u3, u4, u5, u6, u7, u9, ua, ub, uc, ud, ue, uf⟩
          subst gu
          have hr := gv
          try dsimp only at hr
          refine W_cond _ u2 (fun ug => ?_) (fun ug => ?_)
          ·have hr := ite_t ug hr; refine sr (asg (rv (vb false)) (nn (W_ret (then_r (block_r (then_r (then_r (block_r ?_)))))))); obtain rfl := Option.some.inj hr; have hr := g4; (try dsimp only at hr); refine then_r (then_r ?_); obtain rfl := Option.some.inj hr; exact done1 (Or.inl rfl) Try.results4 rfl ⟨_, _, rfl, rfl, u0, Vbool⟩
          ·have hr := ite_f ug hr; refine W_skip (then_n (W_region (mv ub (mv uc (mv u5 ?_))))); obtain ⟨uh, hr⟩ := chk_some hr; refine L_convert_i64 Try.underlying5 Try.underlying3 (rv (Value.int .u8 (a4).n)) uh (by decide) (mv u7 ?_); obtain ⟨ui, hr⟩ := chk_some hr; refine L_rem (rv (vi (a4.n))) (rv (vi (1 + (Int.tmod a2.n 4)))) ui (by decide) ?_; obtain ⟨uj, hr⟩ := chk_some hr; refine ad (rv (vi 1)) (rv (vi (Int.tmod a4.n (1 + (Int.tmod a2.n 4))))) uj ?_; obtain ⟨uk, ul, hr⟩ := bind_some hr; refine L_indexA (sz := 1) Try.underlying40 ty3.inf (rv (Value.slice (some ⟨kx, 0, none⟩) ((k0.2.1.length : Int)).toNat ((k0.2.1.length : Int)).toNat)) (rv (vi g6)) (idx_some ul).1 (by have := (idx_some ul).2.1; have := (uf).1; omega) (by decide) (L_storeA (xs := g7) ty3 (rv (Value.pointer (some ⟨kx, (g6).toNat * 1, none⟩))) (rv (vi (1 + (Int.tmod a4.n (1 + (Int.tmod a2.n 4)))))) Vint (uf) ul (fun um un uo => ?_)); have up := Tch.trans u0 un (fun k hk => Or.inr (by subst hk; exact (Nat.le_trans kk.size kz))); refine L_nil (block_n (then_n (W_region ?_))); obtain ⟨uq, hr⟩ := chk_some hr; exact ad ue (rv (vi 1)) uq (mv (rv (vi (g6 + 1))) (nn ⟨g8, Nat.lt_succ_self _, ⟨um, (g6 + 1), (g7.set (g6).toNat (1 + (Int.tmod a4.n (1 + (Int.tmod a2.n 4))))), rfl, up, (gd.trans (u1.trans un.le)), hr, rfl, u3, u4, u5, u6, u7, u9, ua, ub, ud, uo⟩⟩))
        ·have hr := ite_f gr hr; refine W_exit (then_x (then_x (block_here ?_))); exact then_n ⟨gb, g7, rfl, gc, gd, Option.some.inj hr, gh, gi, gk, gm, gn, go, gq⟩
      ·rintro g6 g7 ⟨g8, g5, rfl, g9, ga, g3, gb, gc, gd, gg, gh, gi, gj⟩
       subst g3
       have hr := g4
       try dsimp only at hr
       refine then_n (sr (mv gb (mv gg (mv gh ?_))))
       obtain ⟨gk, gl, hr⟩ := bind_some hr
       refine L_calls cal17 (args3 (rv w0) (rv (vi (k0.1))) (rv k8)) (check_Lose_ok N _ _ _ (h0.mono (j9.trans (jo.trans (k4.le.trans (kl.trans (ky.le.trans ga)))))) k0.1 _ _ (kb.mono (kl.trans (ky.le.trans ga))) gk gl) (by decide) (fun gm gn go gp => ?_)
       have gq := Tch.ext g9 go
       obtain ⟨gr, gs, rfl, gu, gv⟩ := gp
       obtain rfl := gv.int
       refine mv (rv (Value.tuple #[gr, vi (gk.2)])) (xt (rv (Value.tuple #[gr, vi (gk.2)])) (k := 0) rfl (xt (rv (Value.tuple #[gr, vi (gk.2)])) (k := 1) rfl (L_alloc (α := Loss) (x := ⟨0, 0⟩) zero44 Loss.zero_rel (by decide) (fun gw gx gy gz u0 => ?_))))
       have u1 := Tch.ext gq gy
       have u2 : ∀ k, (fun k => k = kx) k → ¬ (fun k => k = gx) k := fun k u3 u4 => by have u5 := (fun k (hk : k = kx) => lt_at hk ((gj).ext go).lt) k u3; have u6 := gz; subst u4; omega
       refine L_store_ro ty44 (rv (Value.pointer (some ⟨gx, 0, none⟩))) (rv gr) (gu.mono gy.le) (u0) (fun u7 u9 ua => ?_)
       have ub := Tch.trans u1 u9 (fun k hk => Or.inr (by subst hk; exact (Nat.le_trans gq.size gz)))
       refine asg (rv (vi (gk.2))) (nn (sr (mv gb (mv gc ?_))))
       obtain ⟨uc, hr⟩ := chk_some hr
       refine L_convert_i64 Try.underlying5 Try.underlying3 (rv (Value.int .u8 (a3).n)) uc (by decide) (mv gd ?_)
       obtain ⟨ud, hr⟩ := chk_some hr
       refine L_rem (rv (vi (a3.n))) (rv (vi (1 + (Int.tmod a1.n 40)))) ud (by decide) ?_
       obtain ⟨ue, hr⟩ := chk_some hr
       refine ad (rv (vi 1)) (rv (vi (Int.tmod a3.n (1 + (Int.tmod a1.n 40))))) ue (mv gi ?_)
       obtain ⟨uf, ug, hr⟩ := bind_some hr
       obtain ⟨uh, ui, uj, uk⟩ := ((((gj).ext go).ext gy).tch u9 ((fun k hk => u2 k hk) kx rfl)).freeze
       refine L_calls_fz cal17 (args3 (rv w0) (rv (vi (1 + (Int.tmod a3.n (1 + (Int.tmod a1.n 40)))))) (rv (Value.slice (some ⟨kx, 0, none⟩) ((k0.2.1.length : Int)).toNat ((k0.2.1.length : Int)).toNat))) ui uj (fun k hk => by have ul : k = kx := hk; rw [ul]; exact ((((gj).ext go).ext gy).tch u9 ((fun k hk => u2 k hk) kx rfl)).g) (check_Lose_ok N _ _ _ (h0.mono (j9.trans (jo.trans (k4.le.trans (kl.trans (ky.le.trans (ga.trans (go.le.trans (gy.le.trans (u9.le.trans uj.le)))))))))) (1 + (Int.tmod a3.n (1 + (Int.tmod a1.n 40)))) _ _ uk uf ug) (by decide) (fun um un uo up uq ur => ?_)
       have us := Tch.ext ub uq
       obtain ⟨ut, uu, rfl, uv, uw⟩ := ur
       obtain rfl := Loss.val uv
       have ux : V uo (Value.agg #[vi uf.1.Num, vi uf.1.Den]) (uf.1 : Loss) := Loss.mk_V Vint Vint
       obtain rfl := uw.int
       refine mv (rv (Value.tuple #[(Value.agg #[vi uf.1.Num, vi uf.1.Den]), vi (uf.2)])) (xt (rv (Value.tuple #[(Value.agg #[vi uf.1.Num, vi uf.1.Den]), vi (uf.2)])) (k := 0) rfl (xt (rv (Value.tuple #[(Value.agg #[vi uf.1.Num, vi uf.1.Den]), vi (uf.2)])) (k := 1) rfl (L_alloc (α := Loss) (x := ⟨0, 0⟩) zero44 Loss.zero_rel (by decide) (fun uy uz t0 t1 t2 => ?_))))
       have t3 := Tch.ext us t0
       refine L_store_ro ty44 (rv (Value.pointer (some ⟨uz, 0, none⟩))) (rv ((Value.agg #[vi uf.1.Num, vi uf.1.Den]))) (ux.mono t0.le) (t2) (fun t4 t5 t6 => ?_)
       have t7 := Tch.trans t3 t5 (fun k hk => Or.inr (by subst hk; exact (Nat.le_trans us.size t1)))
       refine asg (rv (vi (uf.2))) (nn (W_seq ?_))
       obtain ⟨t8, t9, ta⟩ := bind_some hr
       refine W_seq_cut (fun f w => ∃ (s : St) (tb : Bool), s.w = w ∧ Ext s0 s ∧ Le t4 s ∧ tb = t8 ∧ f 187 = vb tb ∧ f 0 = w0) ?_ ?_
       ·have hr := t9
        refine W_region (mv (rv (vi (gk.2))) (ne (rv (vi (gk.2))) (rv (vi 0)) (mv (rv (vb (!decide (gk.2 = 0)))) ?_)))
        rcases tf (!decide (gk.2 = 0)) with tc | tc
        ·have hr := ite_t tc hr; refine gf 157 (rv (vb (!decide (gk.2 = 0)))) tc (gf 157 (rv (vb (!decide (gk.2 = 0)))) tc (pt (rv (vb (!decide (gk.2 = 0)))) tc (rv (vb true)) (mv (rv (vb true)) (gf 161 (rv (vb true)) rfl (gf 161 (rv (vb true)) rfl (gf 161 (rv (vb true)) rfl (pt (rv (vb true)) rfl (rv (vb true)) (mv (rv (vb true)) (gf 166 (rv (vb true)) rfl (gf 166 (rv (vb true)) rfl (gf 166 (rv (vb true)) rfl (pt (rv (vb true)) rfl (rv (vb true)) (mv (rv (vb true)) ?_))))))))))))); refine gf 171 (rv (vb true)) rfl (gf 171 (rv (vb true)) rfl (gf 171 (rv (vb true)) rfl (gf 171 (rv (vb true)) rfl (gf 171 (rv (vb true)) rfl (gf 171 (rv (vb true)) rfl (gf 171 (rv (vb true)) rfl (gf 171 (rv (vb true)) rfl (gf 171 (rv (vb true)) rfl (gf 171 (rv (vb true)) rfl (pt (rv (vb true)) rfl (rv (vb true)) (mv (rv (vb true)) (gf 183 (rv (vb true)) rfl (gf 183 (rv (vb true)) rfl ?_))))))))))))); exact gf 183 (rv (vb true)) rfl (pt (rv (vb true)) rfl (rv (vb true)) (nn ⟨t4, true, rfl, t7, (Le.refl _), Option.some.inj hr, rfl, gb⟩))
        ·have hr := ite_f tc hr
         refine gt 157 (rv (vb (!decide (gk.2 = 0)))) tc (mv (rv (vi (uf.2))) (gt 157 (rv (vb (!decide (gk.2 = 0)))) tc (ne (rv (vi (uf.2))) (rv (vi 0)) (pf (rv (vb (!decide (gk.2 = 0)))) tc (rv (vb (!decide (uf.2 = 0)))) (mv (rv (vb (!decide (uf.2 = 0)))) ?_)))))
         rcases tf (!decide (uf.2 = 0)) with td | td
         ·have hr := ite_t td hr; refine gf 161 (rv (vb (!decide (uf.2 = 0)))) td (gf 161 (rv (vb (!decide (uf.2 = 0)))) td (gf 161 (rv (vb (!decide (uf.2 = 0)))) td (pt (rv (vb (!decide (uf.2 = 0)))) td (rv (vb true)) (mv (rv (vb true)) (gf 166 (rv (vb true)) rfl (gf 166 (rv (vb true)) rfl (gf 166 (rv (vb true)) rfl (pt (rv (vb true)) rfl (rv (vb true)) (mv (rv (vb true)) (gf 171 (rv (vb true)) rfl (gf 171 (rv (vb true)) rfl (gf 171 (rv (vb true)) rfl (gf 171 (rv (vb true)) rfl ?_))))))))))))); exact gf 171 (rv (vb true)) rfl (gf 171 (rv (vb true)) rfl (gf 171 (rv (vb true)) rfl (gf 171 (rv (vb true)) rfl (gf 171 (rv (vb true)) rfl (gf 171 (rv (vb true)) rfl (pt (rv (vb true)) rfl (rv (vb true)) (mv (rv (vb true)) (gf 183 (rv (vb true)) rfl (gf 183 (rv (vb true)) rfl (gf 183 (rv (vb true)) rfl (pt (rv (vb true)) rfl (rv (vb true)) (nn ⟨t4, true, rfl, t7, (Le.refl _), Option.some.inj hr, rfl, gb⟩))))))))))))
         ·have hr := ite_f td hr
          refine gt 161 (rv (vb (!decide (uf.2 = 0)))) td (fa fld44_1 Loss.of_Den (rv (Value.pointer (some ⟨gx, 0, none⟩))) (ua.mono (uq.le.trans (t0.le.trans t5.le))) (fun te tg => gt 161 (rv (vb (!decide (uf.2 = 0)))) td (li ty3 (rv te) tg (gt 161 (rv (vb (!decide (uf.2 = 0)))) td (ls (rv (vi (gk.1.Den))) (rv (vi 1)) (pf (rv (vb (!decide (uf.2 = 0)))) td (rv (vb (decide (gk.1.Den < 1)))) (mv (rv (vb (decide (gk.1.Den < 1)))) ?_)))))))
          rcases tf (decide (gk.1.Den < 1)) with th | th
          ·have hr := ite_t th hr; refine gf 166 (rv (vb (decide (gk.1.Den < 1)))) th (gf 166 (rv (vb (decide (gk.1.Den < 1)))) th (gf 166 (rv (vb (decide (gk.1.Den < 1)))) th (pt (rv (vb (decide (gk.1.Den < 1)))) th (rv (vb true)) (mv (rv (vb true)) (gf 171 (rv (vb true)) rfl (gf 171 (rv (vb true)) rfl (gf 171 (rv (vb true)) rfl (gf 171 (rv (vb true)) rfl (gf 171 (rv (vb true)) rfl (gf 171 (rv (vb true)) rfl (gf 171 (rv (vb true)) rfl (gf 171 (rv (vb true)) rfl (gf 171 (rv (vb true)) rfl ?_))))))))))))); exact gf 171 (rv (vb true)) rfl (pt (rv (vb true)) rfl (rv (vb true)) (mv (rv (vb true)) (gf 183 (rv (vb true)) rfl (gf 183 (rv (vb true)) rfl (gf 183 (rv (vb true)) rfl (pt (rv (vb true)) rfl (rv (vb true)) (nn ⟨t4, true, rfl, t7, (Le.refl _), Option.some.inj hr, rfl, gb⟩)))))))
          ·have hr := ite_f th hr
           refine gt 166 (rv (vb (decide (gk.1.Den < 1)))) th (fa fld44_1 Loss.of_Den (rv (Value.pointer (some ⟨uz, 0, none⟩))) t6 (fun ti tj => gt 166 (rv (vb (decide (gk.1.Den < 1)))) th (li ty3 (rv ti) tj (gt 166 (rv (vb (decide (gk.1.Den < 1)))) th (ls (rv (vi (uf.1.Den))) (rv (vi 1)) (pf (rv (vb (decide (gk.1.Den < 1)))) th (rv (vb (decide (uf.1.Den < 1)))) (mv (rv (vb (decide (uf.1.Den < 1)))) ?_)))))))
           rcases tf (decide (uf.1.Den < 1)) with tk | tk
           ·have hr := ite_t tk hr; refine gf 171 (rv (vb (decide (uf.1.Den < 1)))) tk (gf 171 (rv (vb (decide (uf.1.Den < 1)))) tk (gf 171 (rv (vb (decide (uf.1.Den < 1)))) tk (gf 171 (rv (vb (decide (uf.1.Den < 1)))) tk (gf 171 (rv (vb (decide (uf.1.Den < 1)))) tk (gf 171 (rv (vb (decide (uf.1.Den < 1)))) tk (gf 171 (rv (vb (decide (uf.1.Den < 1)))) tk (gf 171 (rv (vb (decide (uf.1.Den < 1)))) tk (gf 171 (rv (vb (decide (uf.1.Den < 1)))) tk (gf 171 (rv (vb (decide (uf.1.Den < 1)))) tk (pt (rv (vb (decide (uf.1.Den < 1)))) tk (rv (vb true)) (mv (rv (vb true)) (gf 183 (rv (vb true)) rfl (gf 183 (rv (vb true)) rfl ?_))))))))))))); exact gf 183 (rv (vb true)) rfl (pt (rv (vb true)) rfl (rv (vb true)) (nn ⟨t4, true, rfl, t7, (Le.refl _), Option.some.inj hr, rfl, gb⟩))
           ·have hr := ite_f tk hr
            refine gt 171 (rv (vb (decide (uf.1.Den < 1)))) tk (fa fld44_0 Loss.of_Num (rv (Value.pointer (some ⟨gx, 0, none⟩))) (ua.mono (uq.le.trans (t0.le.trans t5.le))) (fun tl tm => gt 171 (rv (vb (decide (uf.1.Den < 1)))) tk (li ty3 (rv tl) tm (gt 171 (rv (vb (decide (uf.1.Den < 1)))) tk (fa fld44_1 Loss.of_Den (rv (Value.pointer (some ⟨gx, 0, none⟩))) (ua.mono (uq.le.trans (t0.le.trans t5.le))) (fun tn tp => gt 171 (rv (vb (decide (uf.1.Den < 1)))) tk (li ty3 (rv tn) tp (gt 171 (rv (vb (decide (uf.1.Den < 1)))) tk (fa fld44_0 Loss.of_Num (rv (Value.pointer (some ⟨uz, 0, none⟩))) t6 (fun tq tr => gt 171 (rv (vb (decide (uf.1.Den < 1)))) tk (li ty3 (rv tq) tr (gt 171 (rv (vb (decide (uf.1.Den < 1)))) tk (fa fld44_1 Loss.of_Den (rv (Value.pointer (some ⟨uz, 0, none⟩))) t6 ?_)))))))))))))
            intro ts tt
            refine gt 171 (rv (vb (decide (uf.1.Den < 1)))) tk (li ty3 (rv ts) tt (gt 171 (rv (vb (decide (uf.1.Den < 1)))) tk (L_max4 (rv (vi (gk.1.Num))) (rv (vi (gk.1.Den))) (rv (vi (uf.1.Num))) (rv (vi (uf.1.Den))) (by decide) (gt 171 (rv (vb (decide (uf.1.Den < 1)))) tk (L_gtr (rv (vi (max (max (max gk.1.Num gk.1.Den) uf.1.Num) uf.1.Den))) (rv (vi 1073741824)) (by decide) (pf (rv (vb (decide (uf.1.Den < 1)))) tk (rfl : _ = vb (decide (1073741824 < (max (max (max gk.1.Num gk.1.Den) uf.1.Num) uf.1.Den)))) (mv (rfl : _ = vb (decide (1073741824 < (max (max (max gk.1.Num gk.1.Den) uf.1.Num) uf.1.Den)))) ?_)))))))
            rcases tf (decide (1073741824 < (max (max (max gk.1.Num gk.1.Den) uf.1.Num) uf.1.Den))) with tu | tu
            ·have hr := ite_t tu hr; exact gf 183 (rfl : _ = vb (decide (1073741824 < (max (max (max gk.1.Num gk.1.Den) uf.1.Num) uf.1.Den)))) tu (gf 183 (rfl : _ = vb (decide (1073741824 < (max (max (max gk.1.Num gk.1.Den) uf.1.Num) uf.1.Den)))) tu (gf 183 (rfl : _ = vb (decide (1073741824 < (max (max (max gk.1.Num gk.1.Den) uf.1.Num) uf.1.Den)))) tu (pt (rfl : _ = vb (decide (1073741824 < (max (max (max gk.1.Num gk.1.Den) uf.1.Num) uf.1.Den)))) tu (rv (vb true)) (nn ⟨t4, true, rfl, t7, (Le.refl _), Option.some.inj hr, rfl, gb⟩))))
            ·have hr := ite_f tu hr; refine gt 183 (rfl : _ = vb (decide (1073741824 < (max (max (max gk.1.Num gk.1.Den) uf.1.Num) uf.1.Den)))) tu (ld ty44 (rv (Value.pointer (some ⟨uz, 0, none⟩))) t6 (fun tv tw => gt 183 (rfl : _ = vb (decide (1073741824 < (max (max (max gk.1.Num gk.1.Den) uf.1.Num) uf.1.Den)))) tu (ld ty44 (rv (Value.pointer (some ⟨gx, 0, none⟩))) (ua.mono (uq.le.trans (t0.le.trans t5.le))) (fun tx ty => gt 183 (rfl : _ = vb (decide (1073741824 < (max (max (max gk.1.Num gk.1.Den) uf.1.Num) uf.1.Den)))) tu ?_)))); obtain ⟨tz, c0, hr⟩ := bind_some hr; refine L_calls cal18 (args2 (rv tv) (rv tx)) (law14_less_ok N _ _ _ tw _ _ ty tz c0) (by decide) (fun c1 c2 c3 c4 => ?_); have c5 := Tch.ext t7 c3; obtain rfl := c4.bool; exact pf (rfl : _ = vb (decide (1073741824 < (max (max (max gk.1.Num gk.1.Den) uf.1.Num) uf.1.Den)))) tu (rv (vb tz)) (nn ⟨c2, tz, rfl, c5, c3.le, Option.some.inj hr, rfl, gb⟩)
       ·rintro tc td ⟨te, tb, rfl, tg, th, t9, ti, tj⟩
        subst t9
        have hr := ta
        try dsimp only at hr
        refine W_cond _ ti (fun tk => ?_) (fun tk => ?_)
        ·have hr := ite_t tk hr; refine sr (asg (rv (vb false)) (nn (W_ret (then_r ?_)))); obtain rfl := Option.some.inj hr; exact done1 (Or.inl rfl) Try.results4 rfl ⟨_, _, rfl, rfl, tg, Vbool⟩
        ·have hr := ite_f tk hr
         refine W_skip (then_n (W_seq (sr (mv tj (ln Try.underlying37 (rv w0) (h0.mono (j9.trans (jo.trans (k4.le.trans (kl.trans (ky.le.trans (ga.trans (go.le.trans (gy.le.trans (u9.le.trans (uq.le.trans (t0.le.trans (t5.le.trans th))))))))))))) (el (rv (vi ((a0.length : Int)))) (rv (vi 1)) (nn ?_)))))))
         refine W_cond _ (rv (vb (decide ((a0.length : Int) = 1)))) (fun tl => ?_) (fun tl => ?_)
         ·have hr := ite_t tl hr
          refine W_seq ?_
          obtain ⟨tm, tn, hr⟩ := bind_some hr
          obtain ⟨tp, hr⟩ := chk_some hr
          obtain ⟨tq, tr, hr⟩ := bind_some hr
          obtain ⟨ts, hr⟩ := chk_some hr
          refine W_draws mixed (by kernel_rfl) [PV.data (a0 : List Level), PV.ptr (tm : Level), PV.ptr (tm.Cost : Int), PV.eq (vi (tm.Cost)), PV.eq (vi (2 * tm.Cost)), PV.data (a0 : List Level), PV.ptr (tq : Level), PV.ptr (tq.Mean : Int), PV.eq (vi (tq.Mean)), PV.eq (vi ((2 * tm.Cost) * tq.Mean)), PV.eq (vi ((2 * tm.Cost) * tq.Mean))] (Steps_cons ?_ (Steps_cons ?_ (Steps_cons ?_ (Steps_cons ?_ (Steps_cons ?_ (Steps_cons ?_ (Steps_cons ?_ (Steps_cons ?_ (Steps_cons ?_ (Steps_cons ?_ (Steps_cons ?_ Steps_nil))))))))))) ?_
          ·intro tt tu tv tw tx Q ty; have tz : tt 0 = w0 := (tx 0 (by kernel_rfl)).trans tj; exact mv tz (fin ty (h0.mono (j9.trans (jo.trans (k4.le.trans (kl.trans (ky.le.trans (ga.trans (go.le.trans (gy.le.trans (u9.le.trans (uq.le.trans (t0.le.trans (t5.le.trans (th.trans tv.le)))))))))))))))
          ·intro tt tu tv tw tx Q ty; have tz : V _ (tt 191) (a0 : List Level) := tw 0 191 (by kernel_rfl) (by kernel_rfl); obtain ⟨c0, c1, c2⟩ : ∃ v, _ = v ∧ V _ v _ := ⟨_, rfl, tz⟩; exact ix Try.underlying37 ty39.inf c1 c2 (rv (vi 0)) tn (fun c3 c4 => fin ty c4)
          ·intro tt tu tv tw tx Q ty; have tz : Ptr _ (tt 192) (tm : Level) := tw 1 192 (by kernel_rfl) (by kernel_rfl); obtain ⟨c0, c1, c2⟩ : ∃ v, _ = v ∧ Ptr _ v _ := ⟨_, rfl, tz⟩; exact fa fld39_0 Level.of_Cost c1 c2 (fun c3 c4 => fin ty c4)
          ·intro tt tu tv tw tx Q ty; have tz : Ptr _ (tt 193) (tm.Cost : Int) := tw 2 193 (by kernel_rfl) (by kernel_rfl); obtain ⟨c0, c1, c2⟩ : ∃ v, _ = v ∧ Ptr _ v _ := ⟨_, rfl, tz⟩; exact li ty3 c1 c2 (fin ty rfl)
          ·intro tt tu tv tw tx Q ty; have tz : tt 194 = vi (tm.Cost) := tw 3 194 (by kernel_rfl) (by kernel_rfl); exact L_mul (rv (vi 2)) tz tp (by decide) (fin ty rfl)
          ·intro tt tu tv tw tx Q ty; have tz : tt 0 = w0 := (tx 0 (by kernel_rfl)).trans tj; exact mv tz (fin ty (h0.mono (j9.trans (jo.trans (k4.le.trans (kl.trans (ky.le.trans (ga.trans (go.le.trans (gy.le.trans (u9.le.trans (uq.le.trans (t0.le.trans (t5.le.trans (th.trans tv.le)))))))))))))))
          ·intro tt tu tv tw tx Q ty; have tz : V _ (tt 196) (a0 : List Level) := tw 5 196 (by kernel_rfl) (by kernel_rfl); obtain ⟨c0, c1, c2⟩ : ∃ v, _ = v ∧ V _ v _ := ⟨_, rfl, tz⟩; exact ix Try.underlying37 ty39.inf c1 c2 (rv (vi 0)) tr (fun c3 c4 => fin ty c4)
          ·intro tt tu tv tw tx Q ty; have tz : Ptr _ (tt 197) (tq : Level) := tw 6 197 (by kernel_rfl) (by kernel_rfl); obtain ⟨c0, c1, c2⟩ : ∃ v, _ = v ∧ Ptr _ v _ := ⟨_, rfl, tz⟩; exact fa fld39_1 Level.of_Mean c1 c2 (fun c3 c4 => fin ty c4)
          ·intro tt tu tv tw tx Q ty; have tz : Ptr _ (tt 198) (tq.Mean : Int) := tw 7 198 (by kernel_rfl) (by kernel_rfl); obtain ⟨c0, c1, c2⟩ : ∃ v, _ = v ∧ Ptr _ v _ := ⟨_, rfl, tz⟩; exact li ty3 c1 c2 (fin ty rfl)
          ·intro tt tu tv tw tx Q ty; have tz : tt 195 = vi (2 * tm.Cost) := tw 4 195 (by kernel_rfl) (by kernel_rfl); have c0 : tt 199 = vi (tq.Mean) := tw 8 199 (by kernel_rfl) (by kernel_rfl); exact L_mul tz c0 ts (by decide) (fin ty rfl)
          ·intro tt tu tv tw tx Q ty; have tz : tt 200 = vi ((2 * tm.Cost) * tq.Mean) := tw 9 200 (by kernel_rfl) (by kernel_rfl); exact asg tz (fin ty rfl)
          ·intro tt tu tv tw tx
           have ty := Tch.ext tg tv
           have tz : tt 0 = w0 := (tx 0 (by kernel_rfl)).trans tj
           have c0 : tt 22 = vi ((2 * tm.Cost) * tq.Mean) := tw 10 22 (by kernel_rfl)
           refine then_n (sr (mv tz ?_))
           obtain ⟨c1, c2, hr⟩ := bind_some hr
           refine L_calls cal16 (args3 (rv w0) (rv (vi 4096)) (rv (vi 1))) (check_Best_ok N _ _ _ (h0.mono (j9.trans (jo.trans (k4.le.trans (kl.trans (ky.le.trans (ga.trans (go.le.trans (gy.le.trans (u9.le.trans (uq.le.trans (t0.le.trans (t5.le.trans (th.trans tv.le)))))))))))))) 4096 1 c1 c2) (by decide) (fun c3 c4 c5 c6 => ?_)
           have c7 := Tch.ext ty c5
           obtain ⟨c8, c9, ca, rfl, cb, cc, cd⟩ := c6
           obtain rfl := cb.int
           obtain rfl := cd.int
           refine mv (rv (Value.tuple #[vi (c1.1), c9, vi (c1.2.2)])) (xt (rv (Value.tuple #[vi (c1.1), c9, vi (c1.2.2)])) (k := 0) rfl (xt (rv (Value.tuple #[vi (c1.1), c9, vi (c1.2.2)])) (k := 1) rfl (xt (rv (Value.tuple #[vi (c1.1), c9, vi (c1.2.2)])) (k := 2) rfl (asg (rv (vi (c1.1))) (asg (rv c9) (asg (rv (vi (c1.2.2))) (nn ?_)))))))
           obtain ⟨ce, cf, cg⟩ := bind_some hr
           refine W_seq_cut (fun f w => ∃ (s : St) (ch : Bool), s.w = w ∧ Ext s0 s ∧ Le c4 s ∧ ch = ce ∧ f 233 = vb ch) ?_ ?_
           ·have hr := cf
            refine W_region (mv (rv (vi (c1.2.2))) (ne (rv (vi (c1.2.2))) (rv (vi 0)) (mv (rv (vb (!decide (c1.2.2 = 0)))) ?_)))
            rcases tf (!decide (c1.2.2 = 0)) with ci | ci
            ·have hr := ite_t ci hr; refine gf 209 (rv (vb (!decide (c1.2.2 = 0)))) ci (gf 209 (rv (vb (!decide (c1.2.2 = 0)))) ci (gf 209 (rv (vb (!decide (c1.2.2 = 0)))) ci (gf 209 (rv (vb (!decide (c1.2.2 = 0)))) ci (gf 209 (rv (vb (!decide (c1.2.2 = 0)))) ci (gf 209 (rv (vb (!decide (c1.2.2 = 0)))) ci (gf 209 (rv (vb (!decide (c1.2.2 = 0)))) ci (pt (rv (vb (!decide (c1.2.2 = 0)))) ci (rv (vb true)) (mv (rv (vb true)) (gf 218 (rv (vb true)) rfl (gf 218 (rv (vb true)) rfl (gf 218 (rv (vb true)) rfl (gf 218 (rv (vb true)) rfl (gf 218 (rv (vb true)) rfl ?_))))))))))))); exact gf 218 (rv (vb true)) rfl (gf 218 (rv (vb true)) rfl (gf 218 (rv (vb true)) rfl (L_gu (e := 226) (by rfl) (rv (undef)) (by decide) (L_gu (e := 226) (by rfl) (rv (undef)) (by decide) (L_gu (e := 226) (by rfl) (rv (undef)) (by decide) (L_gu (e := 226) (by rfl) (rv (undef)) (by decide) (L_gu (e := 226) (by rfl) (rv (undef)) (by decide) (gf 218 (rv (vb true)) rfl (pt (rv (vb true)) rfl (rv (vb true)) (nn ⟨c4, true, rfl, c7, (Le.refl _), Option.some.inj hr, rfl⟩))))))))))
            ·have hr := ite_f ci hr
             refine gt 209 (rv (vb (!decide (c1.2.2 = 0)))) ci (mv (rv (vi (c1.1))) (gt 209 (rv (vb (!decide (c1.2.2 = 0)))) ci ?_))
             obtain ⟨cj, hr⟩ := chk_some hr
             refine L_sub (rv (vi (c1.1))) (rv (vi 1)) cj (by decide) (gt 209 (rv (vb (!decide (c1.2.2 = 0)))) ci (mv (rv (vi (c1.1))) (gt 209 (rv (vb (!decide (c1.2.2 = 0)))) ci ?_)))
             obtain ⟨ck, hr⟩ := chk_some hr
             refine L_sub (rv (vi (c1.1))) (rv (vi 1)) ck (by decide) (gt 209 (rv (vb (!decide (c1.2.2 = 0)))) ci ?_)
             obtain ⟨cl, hr⟩ := chk_some hr
             refine L_mul (rv (vi (c1.1 - 1))) (rv (vi (c1.1 - 1))) cl (by decide) (gt 209 (rv (vb (!decide (c1.2.2 = 0)))) ci (mv c0 (gt 209 (rv (vb (!decide (c1.2.2 = 0)))) ci (L_geq (rv (vi ((c1.1 - 1) * (c1.1 - 1)))) (rv (vi ((2 * tm.Cost) * tq.Mean))) (by decide) (pf (rv (vb (!decide (c1.2.2 = 0)))) ci (rv (vb (decide (((2 * tm.Cost) * tq.Mean) ≤ ((c1.1 - 1) * (c1.1 - 1)))))) (mv (rv (vb (decide (((2 * tm.Cost) * tq.Mean) ≤ ((c1.1 - 1) * (c1.1 - 1)))))) ?_))))))
             rcases tf (decide (((2 * tm.Cost) * tq.Mean) ≤ ((c1.1 - 1) * (c1.1 - 1)))) with cm | cm
             ·have hr := ite_t cm hr; refine gf 218 (rv (vb (decide (((2 * tm.Cost) * tq.Mean) ≤ ((c1.1 - 1) * (c1.1 - 1)))))) cm (gf 218 (rv (vb (decide (((2 * tm.Cost) * tq.Mean) ≤ ((c1.1 - 1) * (c1.1 - 1)))))) cm (gf 218 (rv (vb (decide (((2 * tm.Cost) * tq.Mean) ≤ ((c1.1 - 1) * (c1.1 - 1)))))) cm (gf 218 (rv (vb (decide (((2 * tm.Cost) * tq.Mean) ≤ ((c1.1 - 1) * (c1.1 - 1)))))) cm (gf 218 (rv (vb (decide (((2 * tm.Cost) * tq.Mean) ≤ ((c1.1 - 1) * (c1.1 - 1)))))) cm (gf 218 (rv (vb (decide (((2 * tm.Cost) * tq.Mean) ≤ ((c1.1 - 1) * (c1.1 - 1)))))) cm (gf 218 (rv (vb (decide (((2 * tm.Cost) * tq.Mean) ≤ ((c1.1 - 1) * (c1.1 - 1)))))) cm (gf 218 (rv (vb (decide (((2 * tm.Cost) * tq.Mean) ≤ ((c1.1 - 1) * (c1.1 - 1)))))) cm (L_gu (e := 226) (by rfl) (rv (undef)) (by decide) (L_gu (e := 226) (by rfl) (rv (undef)) (by decide) (L_gu (e := 226) (by rfl) (rv (undef)) (by decide) (L_gu (e := 226) (by rfl) (rv (undef)) (by decide) (L_gu (e := 226) (by rfl) (rv (undef)) (by decide) (gf 218 (rv (vb (decide (((2 * tm.Cost) * tq.Mean) ≤ ((c1.1 - 1) * (c1.1 - 1)))))) cm ?_))))))))))))); exact pt (rv (vb (decide (((2 * tm.Cost) * tq.Mean) ≤ ((c1.1 - 1) * (c1.1 - 1)))))) cm (rv (vb true)) (nn ⟨c4, true, rfl, c7, (Le.refl _), Option.some.inj hr, rfl⟩)
             ·have hr := ite_f cm hr
              refine gt 218 (rv (vb (decide (((2 * tm.Cost) * tq.Mean) ≤ ((c1.1 - 1) * (c1.1 - 1)))))) cm (mv (rv (vi (c1.1))) (gt 218 (rv (vb (decide (((2 * tm.Cost) * tq.Mean) ≤ ((c1.1 - 1) * (c1.1 - 1)))))) cm ?_))
              obtain ⟨cn, hr⟩ := chk_some hr
              refine ad (rv (vi (c1.1))) (rv (vi 1)) cn (gt 218 (rv (vb (decide (((2 * tm.Cost) * tq.Mean) ≤ ((c1.1 - 1) * (c1.1 - 1)))))) cm (mv (rv (vi (c1.1))) (gt 218 (rv (vb (decide (((2 * tm.Cost) * tq.Mean) ≤ ((c1.1 - 1) * (c1.1 - 1)))))) cm ?_)))
              obtain ⟨co, hr⟩ := chk_some hr
              refine ad (rv (vi (c1.1))) (rv (vi 1)) co (gt 218 (rv (vb (decide (((2 * tm.Cost) * tq.Mean) ≤ ((c1.1 - 1) * (c1.1 - 1)))))) cm ?_)
              obtain ⟨cp, hr⟩ := chk_some hr
              refine L_mul (rv (vi (c1.1 + 1))) (rv (vi (c1.1 + 1))) cp (by decide) (gt 218 (rv (vb (decide (((2 * tm.Cost) * tq.Mean) ≤ ((c1.1 - 1) * (c1.1 - 1)))))) cm (mv c0 (gt 218 (rv (vb (decide (((2 * tm.Cost) * tq.Mean) ≤ ((c1.1 - 1) * (c1.1 - 1)))))) cm (L_leq (rv (vi ((c1.1 + 1) * (c1.1 + 1)))) (rv (vi ((2 * tm.Cost) * tq.Mean))) (by decide) (gt 218 (rv (vb (decide (((2 * tm.Cost) * tq.Mean) ≤ ((c1.1 - 1) * (c1.1 - 1)))))) cm (mv (rv (vb (decide (((c1.1 + 1) * (c1.1 + 1)) ≤ ((2 * tm.Cost) * tq.Mean))))) ?_))))))
              rcases tf (decide (((c1.1 + 1) * (c1.1 + 1)) ≤ ((2 * tm.Cost) * tq.Mean))) with cq | cq
              ·have hr := ite_t cq hr; refine gt 226 (rv (vb (decide (((c1.1 + 1) * (c1.1 + 1)) ≤ ((2 * tm.Cost) * tq.Mean))))) cq (mv (rv (vi (c1.1))) (gt 226 (rv (vb (decide (((c1.1 + 1) * (c1.1 + 1)) ≤ ((2 * tm.Cost) * tq.Mean))))) cq (mv (rv (vi (c1.1))) (gt 226 (rv (vb (decide (((c1.1 + 1) * (c1.1 + 1)) ≤ ((2 * tm.Cost) * tq.Mean))))) cq ?_)))); obtain ⟨cr, hr⟩ := chk_some hr; exact L_mul (rv (vi (c1.1))) (rv (vi (c1.1))) cr (by decide) (gt 226 (rv (vb (decide (((c1.1 + 1) * (c1.1 + 1)) ≤ ((2 * tm.Cost) * tq.Mean))))) cq (mv c0 (gt 226 (rv (vb (decide (((c1.1 + 1) * (c1.1 + 1)) ≤ ((2 * tm.Cost) * tq.Mean))))) cq (ne (rv (vi (c1.1 * c1.1))) (rv (vi ((2 * tm.Cost) * tq.Mean))) (gt 218 (rv (vb (decide (((2 * tm.Cost) * tq.Mean) ≤ ((c1.1 - 1) * (c1.1 - 1)))))) cm (pt (rv (vb (decide (((c1.1 + 1) * (c1.1 + 1)) ≤ ((2 * tm.Cost) * tq.Mean))))) cq (rv (vb (!decide ((c1.1 * c1.1) = ((2 * tm.Cost) * tq.Mean))))) (pf (rv (vb (decide (((2 * tm.Cost) * tq.Mean) ≤ ((c1.1 - 1) * (c1.1 - 1)))))) cm (rv (vb (!decide ((c1.1 * c1.1) = ((2 * tm.Cost) * tq.Mean))))) (nn ⟨c4, (!decide ((c1.1 * c1.1) = ((2 * tm.Cost) * tq.Mean))), rfl, c7, (Le.refl _), Option.some.inj hr, rfl⟩))))))))
              ·have hr := ite_f cq hr; exact gf 226 (rv (vb (decide (((c1.1 + 1) * (c1.1 + 1)) ≤ ((2 * tm.Cost) * tq.Mean))))) cq (gf 226 (rv (vb (decide (((c1.1 + 1) * (c1.1 + 1)) ≤ ((2 * tm.Cost) * tq.Mean))))) cq (gf 226 (rv (vb (decide (((c1.1 + 1) * (c1.1 + 1)) ≤ ((2 * tm.Cost) * tq.Mean))))) cq (gf 226 (rv (vb (decide (((c1.1 + 1) * (c1.1 + 1)) ≤ ((2 * tm.Cost) * tq.Mean))))) cq (gf 226 (rv (vb (decide (((c1.1 + 1) * (c1.1 + 1)) ≤ ((2 * tm.Cost) * tq.Mean))))) cq (gt 218 (rv (vb (decide (((2 * tm.Cost) * tq.Mean) ≤ ((c1.1 - 1) * (c1.1 - 1)))))) cm (pf (rv (vb (decide (((c1.1 + 1) * (c1.1 + 1)) ≤ ((2 * tm.Cost) * tq.Mean))))) cq (rv (vb false)) (pf (rv (vb (decide (((2 * tm.Cost) * tq.Mean) ≤ ((c1.1 - 1) * (c1.1 - 1)))))) cm (rv (vb false)) (nn ⟨c4, false, rfl, c7, (Le.refl _), Option.some.inj hr, rfl⟩))))))))
           ·rintro ci cj ⟨ck, ch, rfl, cl, cm, cf, cn⟩
            subst cf
            have hr := cg
            try dsimp only at hr
            refine W_cond _ cn (fun co => ?_) (fun co => ?_)
            ·have hr := ite_t co hr; refine sr (asg (rv (vb false)) (nn (W_ret (then_r ?_)))); obtain rfl := Option.some.inj hr; exact done1 (Or.inl rfl) Try.results4 rfl ⟨_, _, rfl, rfl, cl, Vbool⟩
            ·have hr := ite_f co hr; refine W_skip (then_n (sr ?_)); obtain ⟨cp, cq, hr⟩ := bind_some hr; refine L_calls cal9 (args0) (law14_works_ok N _  cp cq) (by decide) (fun cr cs ct cu => ?_); have cv := Tch.ext cl ct; obtain rfl := cu.bool; refine asg (rv (vb cp)) (nn (W_ret ?_)); obtain rfl := Option.some.inj hr; exact done1 (Or.inl rfl) Try.results4 rfl ⟨_, _, rfl, rfl, cv, Vbool⟩
         ·have hr := ite_f tl hr; refine W_skip (then_n (sr ?_)); obtain ⟨tm, tn, hr⟩ := bind_some hr; refine L_calls cal9 (args0) (law14_works_ok N _  tm tn) (by decide) (fun tp tq tr ts => ?_); have tt := Tch.ext tg tr; obtain rfl := ts.bool; refine asg (rv (vb tm)) (nn (W_ret ?_)); obtain rfl := Option.some.inj hr; exact done1 (Or.inl rfl) Try.results4 rfl ⟨_, _, rfl, rfl, tt, Vbool⟩

end Go.Arm
