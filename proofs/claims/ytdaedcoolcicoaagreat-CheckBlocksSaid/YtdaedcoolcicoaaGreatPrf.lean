/- A part of the proof. -/
import Derived.Test.YtdaedcoolcicoaaGreatPure
namespace Go.Arm
open Go Go.RowKit Go.Proofs
variable {σ : Type}
theorem law14_few_ok (N : Nat) (s0 : St) (w0 : Value) (a0 : List (List U8)) (h0 : V s0 w0 a0) (r : Bool) (hr : law14_few N a0 = some r) :
    Calls Tryz.prog 10 #[w0] s0.w (Ret s0 fun v s => V s v r) := by
 unfold law14_few at hr
 have j0 := Ext.refl s0
 refine Calls_of (n := 25) (args := [w0]) Tryz.func10 rfl rfl (by simp) (sr (asg (rv (vb false)) (nn (sr (asg (rv (vi 0)) (nn (W_seq (sr (asg (rv (vi 0)) (nn ?_))))))))))
 obtain ⟨j1, j2, j3⟩ := bind_some hr
 refine W_cut (fun f w => ∃ (s : St) (j4 : Int), s.w = w ∧ Ext s0 s ∧ Le s0 s ∧ j4 = j1 ∧ f 3 = vi j4 ∧ f 0 = w0) ?_ ?_
 ·refine W_block (W_loop (fun m f w => ∃ (s : St) (j5 : Int) (j6 : Int), s.w = w ∧ Ext s0 s ∧ Le s0 s ∧ law14_few_l1 N a0 m j5 j6 = some j1 ∧ f 3 = vi j5 ∧ f 4 = vi j6 ∧ f 0 = w0) N ⟨s0, 0, 0, rfl, j0, (Le.refl _), j2, rfl, rfl, rfl⟩ ?_)
  rintro j7 j8 j9 ⟨ja, j5, j6, rfl, jb, jc, hr, jd, je, jf⟩
  cases j7 with
  | zero => exact absurd hr (by simp [law14_few_l1])
  | succ j7 =>
   rw [law14_few_l1.eq_2] at hr
   refine W_seq (sr (mv je (mv jf (ln Tryz.underlying22 (rv w0) (h0.mono jc) (ls (rv (vi j6)) (rv (vi ((a0.length : Int)))) (nn ?_))))))
   refine W_cond _ (rv (vb (decide (j6 < (a0.length : Int))))) (fun jg => ?_) (fun jg => ?_)
   ·have hr := ite_t jg hr; refine W_skip (then_n (W_seq (W_block (W_region (mv jd (mv jf (mv je ?_))))))); obtain ⟨jh, ji, hr⟩ := bind_some hr; refine ix Tryz.underlying22 ty23.inf (rv w0) (h0.mono jc) (rv (vi j6)) ji (fun jj jk => ld ty23 (rv jj) jk (fun jl jm => ln Tryz.underlying23 (rv jl) jm (L_addK (rv (vi j5)) (rv (vi ((jh.length : Int)))) (by decide) (asg (rv (vi (addK .i64 j5 (jh.length : Int)))) (L_nil (block_n (then_n (W_region (mv je ?_))))))))); obtain ⟨jn, hr⟩ := chk_some hr; exact ad (rv (vi j6)) (rv (vi 1)) jn (asg (rv (vi (j6 + 1))) (nn ⟨j7, Nat.lt_succ_self _, ⟨ja, (addK .i64 j5 (jh.length : Int)), (j6 + 1), rfl, jb, jc, hr, rfl, rfl, jf⟩⟩))
   ·have hr := ite_f jg hr; refine W_exit (then_x (then_x (block_here ?_))); exact then_n ⟨ja, j5, rfl, jb, jc, Option.some.inj hr, jd, jf⟩
 ·rintro j5 j6 ⟨j7, j4, rfl, j8, j9, j2, ja, jb⟩
  subst j2
  have hr := j3
  try dsimp only at hr
  refine then_n (sr (mv jb (ln Tryz.underlying22 (rv w0) (h0.mono j9) (L_leq (rv (vi ((a0.length : Int)))) (rv (vi 40)) (by decide) (mv (rv (vb (decide ((a0.length : Int) ≤ 40)))) ?_)))))
  rcases tf (decide ((a0.length : Int) ≤ 40)) with jc | jc
  ·have hr := ite_t jc hr; refine gt 21 (rv (vb (decide ((a0.length : Int) ≤ 40)))) jc (mv ja (gt 21 (rv (vb (decide ((a0.length : Int) ≤ 40)))) jc (L_leq (rv (vi j4)) (rv (vi 2000)) (by decide) (pt (rv (vb (decide ((a0.length : Int) ≤ 40)))) jc (rv (vb (decide (j4 ≤ 2000)))) (asg (rv (vb (decide (j4 ≤ 2000)))) (nn (W_ret ?_))))))); obtain rfl := Option.some.inj hr; exact done1 (Or.inl rfl) Tryz.results10 rfl ⟨_, _, rfl, rfl, j8, Vbool⟩
  ·have hr := ite_f jc hr; refine gf 21 (rv (vb (decide ((a0.length : Int) ≤ 40)))) jc (gf 21 (rv (vb (decide ((a0.length : Int) ≤ 40)))) jc (pf (rv (vb (decide ((a0.length : Int) ≤ 40)))) jc (rv (vb false)) (asg (rv (vb false)) (nn (W_ret ?_))))); obtain rfl := Option.some.inj hr; exact done1 (Or.inl rfl) Tryz.results10 rfl ⟨_, _, rfl, rfl, j8, Vbool⟩

theorem law14_equal_ok (N : Nat) (s0 : St) (w0 : Value) (a0 : List (List U8)) (h0 : V s0 w0 a0) (w1 : Value) (a1 : List (List U8)) (h1 : V s0 w1 a1) (r : Bool) (hr : law14_equal N a0 a1 = some r) :
    Calls Tryz.prog 14 #[w0, w1] s0.w (Ret s0 fun v s => V s v r) := by
 unfold law14_equal at hr
 have j0 := Ext.refl s0
 refine Calls_of (n := 28) (args := [w0, w1]) Tryz.func14 rfl rfl (by simp) (sr (asg (rv (vb false)) (nn (W_seq (sr (mv (rv w0) (ln Tryz.underlying22 (rv w0) h0 (mv (rv w1) (ln Tryz.underlying22 (rv w1) h1 (ne (rv (vi ((a0.length : Int)))) (rv (vi ((a1.length : Int)))) (nn ?_)))))))))))
 refine W_cond _ (rv (vb (!decide ((a0.length : Int) = (a1.length : Int))))) (fun j1 => ?_) (fun j1 => ?_)
 ·have hr := ite_t j1 hr; refine sr (asg (rv (vb false)) (nn (W_ret (then_r ?_)))); obtain rfl := Option.some.inj hr; exact done1 (Or.inl rfl) Tryz.results14 rfl ⟨_, _, rfl, rfl, j0, Vbool⟩
 ·have hr := ite_f j1 hr
  refine W_skip (then_n (W_seq (sr (asg (rv (vi 0)) (nn ?_)))))
  obtain ⟨j2, j3, j4⟩ := bind_some hr
  refine W_cut (fun f w => ∃ (s : St), s.w = w ∧ Ext s0 s ∧ Le s0 s ∧ Sum.inl () = j2) ?_ ?_
  ·refine W_block (W_loop (fun m f w => ∃ (s : St) (j5 : Int), s.w = w ∧ Ext s0 s ∧ Le s0 s ∧ law14_equal_l1 N a0 a1 m j5 = some j2 ∧ f 5 = vi j5 ∧ f 0 = w0 ∧ f 1 = w1) N ⟨s0, 0, rfl, j0, (Le.refl _), j3, rfl, rfl, rfl⟩ ?_)
   rintro j6 j7 j8 ⟨j9, j5, rfl, ja, jb, hr, jc, jd, je⟩
   cases j6 with
   | zero => exact absurd hr (by simp [law14_equal_l1])
   | succ j6 =>
    rw [law14_equal_l1.eq_2] at hr
    refine W_seq (sr (mv jc (mv jd (ln Tryz.underlying22 (rv w0) (h0.mono jb) (ls (rv (vi j5)) (rv (vi ((a0.length : Int)))) (nn ?_))))))
    refine W_cond _ (rv (vb (decide (j5 < (a0.length : Int))))) (fun jf => ?_) (fun jf => ?_)
    ·have hr := ite_t jf hr
     refine W_skip (then_n (W_seq (W_block (W_seq ?_))))
     obtain ⟨jg, jh, hr⟩ := bind_some hr
     obtain ⟨ji, jj, hr⟩ := bind_some hr
     refine W_draws mixed (by kernel_rfl) [PV.data (a0 : List (List U8)), PV.eq (vi j5), PV.ptr (jg : List U8), PV.data (jg : List U8), PV.eq (Value.string (txtOf jg).v), PV.data (a1 : List (List U8)), PV.eq (vi j5), PV.ptr (ji : List U8), PV.data (ji : List U8), PV.eq (Value.string (txtOf ji).v), PV.eq (vb (!decide ((txtOf jg) = (txtOf ji))))] (Steps_cons ?_ (Steps_cons ?_ (Steps_cons ?_ (Steps_cons ?_ (Steps_cons ?_ (Steps_cons ?_ (Steps_cons ?_ (Steps_cons ?_ (Steps_cons ?_ (Steps_cons ?_ (Steps_cons ?_ Steps_nil))))))))))) ?_
     ·intro jk jl jm jn jo Q jp; have jq : jk 0 = w0 := (jo 0 (by kernel_rfl)).trans jd; exact mv jq (fin jp (h0.mono (jb.trans jm.le)))
     ·intro jk jl jm jn jo Q jp; have jq : jk 5 = vi (j5) := (jo 5 (by kernel_rfl)).trans jc; exact mv jq (fin jp rfl)
     ·intro jk jl jm jn jo Q jp; have jq : V _ (jk 17) (a0 : List (List U8)) := jn 0 17 (by kernel_rfl) (by kernel_rfl); obtain ⟨jr, js, jt⟩ : ∃ v, _ = v ∧ V _ v _ := ⟨_, rfl, jq⟩; have ju : jk 18 = vi (j5) := jn 1 18 (by kernel_rfl) (by kernel_rfl); exact ix Tryz.underlying22 ty23.inf js jt ju jh (fun jv jw => fin jp jw)
     ·intro jk jl jm jn jo Q jp; have jq : Ptr _ (jk 19) (jg : List U8) := jn 2 19 (by kernel_rfl) (by kernel_rfl); obtain ⟨jr, js, jt⟩ : ∃ v, _ = v ∧ Ptr _ v _ := ⟨_, rfl, jq⟩; exact ld ty23 js jt (fun ju jv => fin jp jv)
     ·intro jk jl jm jn jo Q jp; have jq : V _ (jk 20) (jg : List U8) := jn 3 20 (by kernel_rfl) (by kernel_rfl); obtain ⟨jr, js, jt⟩ : ∃ v, _ = v ∧ V _ v _ := ⟨_, rfl, jq⟩; exact L_b2s Tryz.underlying23 Tryz.underlying5 Tryz.underlying9 js jt (by decide) (fin jp rfl)
     ·intro jk jl jm jn jo Q jp; have jq : jk 1 = w1 := (jo 1 (by kernel_rfl)).trans je; exact mv jq (fin jp (h1.mono (jb.trans jm.le)))
     ·intro jk jl jm jn jo Q jp; have jq : jk 5 = vi (j5) := (jo 5 (by kernel_rfl)).trans jc; exact mv jq (fin jp rfl)
     ·intro jk jl jm jn jo Q jp; have jq : V _ (jk 22) (a1 : List (List U8)) := jn 5 22 (by kernel_rfl) (by kernel_rfl); obtain ⟨jr, js, jt⟩ : ∃ v, _ = v ∧ V _ v _ := ⟨_, rfl, jq⟩; have ju : jk 23 = vi (j5) := jn 6 23 (by kernel_rfl) (by kernel_rfl); exact ix Tryz.underlying22 ty23.inf js jt ju jj (fun jv jw => fin jp jw)
     ·intro jk jl jm jn jo Q jp; have jq : Ptr _ (jk 24) (ji : List U8) := jn 7 24 (by kernel_rfl) (by kernel_rfl); obtain ⟨jr, js, jt⟩ : ∃ v, _ = v ∧ Ptr _ v _ := ⟨_, rfl, jq⟩; exact ld ty23 js jt (fun ju jv => fin jp jv)
     ·intro jk jl jm jn jo Q jp; have jq : V _ (jk 25) (ji : List U8) := jn 8 25 (by kernel_rfl) (by kernel_rfl); obtain ⟨jr, js, jt⟩ : ∃ v, _ = v ∧ V _ v _ := ⟨_, rfl, jq⟩; exact L_b2s Tryz.underlying23 Tryz.underlying5 Tryz.underlying9 js jt (by decide) (fin jp rfl)
     ·intro jk jl jm jn jo Q jp; have jq : jk 21 = Value.string (txtOf jg).v := jn 4 21 (by kernel_rfl) (by kernel_rfl); have jr : jk 26 = Value.string (txtOf ji).v := jn 9 26 (by kernel_rfl) (by kernel_rfl); exact L_sneq jq jr (by decide) (fin jp rfl)
     ·intro jk jl jm jn jo
      have jp := Tch.ext ja jm
      have jq : jk 0 = w0 := (jo 0 (by kernel_rfl)).trans jd
      have jr : jk 1 = w1 := (jo 1 (by kernel_rfl)).trans je
      have js : jk 5 = vi (j5) := (jo 5 (by kernel_rfl)).trans jc
      have jt : jk 27 = vb (!decide ((txtOf jg) = (txtOf ji))) := jn 10 27 (by kernel_rfl)
      refine then_n ?_
      refine W_cond _ jt (fun ju => ?_) (fun ju => ?_)
      ·have hr := ite_t ju hr; refine sr (asg (rv (vb false)) (nn (W_ret (block_r (then_r (then_r (block_r ?_))))))); obtain rfl := Option.some.inj hr; have hr := j4; (try dsimp only at hr); refine then_r (then_r ?_); obtain rfl := Option.some.inj hr; exact done1 (Or.inl rfl) Tryz.results14 rfl ⟨_, _, rfl, rfl, jp, Vbool⟩
      ·have hr := ite_f ju hr; refine W_skip (block_n (then_n (W_region (mv js ?_)))); obtain ⟨jv, hr⟩ := chk_some hr; exact ad (rv (vi j5)) (rv (vi 1)) jv (asg (rv (vi (j5 + 1))) (nn ⟨j6, Nat.lt_succ_self _, ⟨jl, (j5 + 1), rfl, jp, (jb.trans jm.le), hr, rfl, jq, jr⟩⟩))
    ·have hr := ite_f jf hr; refine W_exit (then_x (then_x (block_here ?_))); exact then_n ⟨j9, rfl, ja, jb, Option.some.inj hr⟩
  ·rintro j5 j6 ⟨j7, rfl, j8, j9, j3⟩; subst j3; have hr := j4; (try dsimp only at hr); refine then_n (sr (asg (rv (vb true)) (nn (W_ret ?_)))); obtain rfl := Option.some.inj hr; exact done1 (Or.inl rfl) Tryz.results14 rfl ⟨_, _, rfl, rfl, j8, Vbool⟩

theorem slices_IndexFunc_LLbyte_Lbyte_ok (N : Nat) (s0 : St) (w0 : Value) (a0 : List (List U8)) (h0 : V s0 w0 a0) (w1 : Value) (a1 : (List U8) → Option Bool) (h1 : Fn1 Tryz.prog s0 w1 a1) (r : Int) (hr : slices_IndexFunc_LLbyte_Lbyte N a0 a1 = some r) :
    Calls Tryz.prog 104 #[w0, w1] s0.w (Ret s0 fun v s => V s v r) := by
 unfold slices_IndexFunc_LLbyte_Lbyte at hr
 have j0 := Ext.refl s0
 refine Calls_of (n := 19) (args := [w0, w1]) Tryz.func104 rfl rfl (by simp) (sr (asg (rv (vi 0)) (nn (W_seq (sr (mv (rv w0) (ln Tryz.underlying22 (rv w0) h0 (mv (rv (vi 0)) (nn ?_)))))))))
 obtain ⟨j1, j2, j3⟩ := bind_some hr
 refine W_cut (fun f w => ∃ (s : St), s.w = w ∧ Ext s0 s ∧ Le s0 s ∧ Sum.inl () = j1) ?_ ?_
 ·refine W_block (W_loop (fun m f w => ∃ (s : St) (j4 : Int), s.w = w ∧ Ext s0 s ∧ Le s0 s ∧ slices_IndexFunc_LLbyte_Lbyte_l1 N a0 a1 m j4 = some j1 ∧ f 8 = vi j4 ∧ f 0 = w0 ∧ f 1 = w1 ∧ f 7 = vi ((a0.length : Int))) N ⟨s0, 0, rfl, j0, (Le.refl _), j2, rfl, rfl, rfl, rfl⟩ ?_)
  rintro j5 j6 j7 ⟨j8, j4, rfl, j9, ja, hr, jb, jc, jd, je⟩
  cases j5 with
  | zero => exact absurd hr (by simp [slices_IndexFunc_LLbyte_Lbyte_l1])
  | succ j5 =>
   rw [slices_IndexFunc_LLbyte_Lbyte_l1.eq_2] at hr
   refine sr (ls jb je (nn (W_seq ?_)))
   refine W_cond _ (rv (vb (decide (j4 < (a0.length : Int))))) (fun jf => ?_) (fun jf => ?_)
   ·have hr := ite_t jf hr
    refine W_skip (then_n (W_seq (W_block (sr (mv jb (asg (rv (vi j4)) (nn (sr (mv jd (mv jc (mv (rv (vi j4)) ?_)))))))))))
    obtain ⟨jg, jh, hr⟩ := bind_some hr
    refine ix Tryz.underlying22 ty23.inf (rv w0) (h0.mono ja) (rv (vi j4)) jh (fun ji jj => ld ty23 (rv ji) jj (fun jk jl => ?_))
    obtain ⟨jm, jn, hr⟩ := bind_some hr
    refine L_call1 (rv w1) (h1.mono ja) (rv jk) jl jn (by decide) (fun jo jp jq jr => ?_)
    have js := Tch.ext j9 jq
    obtain rfl := jr.bool
    refine nn ?_
    refine W_cond _ (rv (vb jm)) (fun jt => ?_) (fun jt => ?_)
    ·have hr := ite_t jt hr; refine sr (mv (rv (vi j4)) (asg (rv (vi j4)) (nn (W_ret (block_r (then_r (then_r (block_r ?_)))))))); obtain rfl := Option.some.inj hr; have hr := j3; (try dsimp only at hr); refine then_r (then_r ?_); obtain rfl := Option.some.inj hr; exact done1 (Or.inl rfl) Tryz.results104 rfl ⟨_, _, rfl, rfl, js, Vint⟩
    ·have hr := ite_f jt hr; refine W_skip (block_n (then_n (W_region ?_))); obtain ⟨ju, hr⟩ := chk_some hr; exact ad jb (rv (vi 1)) ju (mv (rv (vi (j4 + 1))) (nn ⟨j5, Nat.lt_succ_self _, ⟨jp, (j4 + 1), rfl, js, (ja.trans jq.le), hr, rfl, jc, jd, je⟩⟩))
   ·have hr := ite_f jf hr; refine W_exit (then_x (then_x (block_here ?_))); exact then_n ⟨j8, rfl, j9, ja, Option.some.inj hr⟩
 ·rintro j4 j5 ⟨j6, rfl, j7, j8, j2⟩; subst j2; have hr := j3; (try dsimp only at hr); refine then_n (sr (asg (rv (vi (-1))) (nn (W_ret ?_)))); obtain rfl := Option.some.inj hr; exact done1 (Or.inl rfl) Tryz.results104 rfl ⟨_, _, rfl, rfl, j7, Vint⟩

theorem slices_ContainsFunc_LLbyte_Lbyte_ok (N : Nat) (s0 : St) (w0 : Value) (a0 : List (List U8)) (h0 : V s0 w0 a0) (w1 : Value) (a1 : (List U8) → Option Bool) (h1 : Fn1 Tryz.prog s0 w1 a1) (r : Bool) (hr : slices_ContainsFunc_LLbyte_Lbyte N a0 a1 = some r) :
    Calls Tryz.prog 97 #[w0, w1] s0.w (Ret s0 fun v s => V s v r) := by
 unfold slices_ContainsFunc_LLbyte_Lbyte at hr
 have j0 := Ext.refl s0
 refine Calls_of (n := 9) (args := [w0, w1]) Tryz.func97 rfl rfl (by simp) (sr (asg (rv (vb false)) (nn (sr (mv (rv w0) (mv (rv w1) ?_))))))
 obtain ⟨j1, j2, hr⟩ := bind_some hr
 refine L_calls cal104 (args2 (rv w0) (rv w1)) (slices_IndexFunc_LLbyte_Lbyte_ok N _ _ _ h0 _ a1 h1 j1 j2) (by decide) (fun j3 j4 j5 j6 => ?_)
 have j7 := Tch.ext j0 j5
 obtain rfl := j6.int
 refine L_geq (rv (vi j1)) (rv (vi 0)) (by decide) (asg (rv (vb (decide (0 ≤ j1)))) (nn (W_ret ?_)))
 obtain rfl := Option.some.inj hr
 exact done1 (Or.inl rfl) Tryz.results97 rfl ⟨_, _, rfl, rfl, j7, Vbool⟩

theorem check_sized_1_ok (N : Nat) (s0 : St) (w0 : Value) (a0 : List U8) (h0 : V s0 w0 a0) (w1 : Value) (a1 : List (List U8)) (h1 : Ptr s0 w1 a1) (r : Bool) (hr : check_sized_1 N a0 a1 = some r) :
    Calls Tryz.prog 98 #[w0, w1] s0.w (Ret s0 fun v s => V s v r) := by
 unfold check_sized_1 at hr
 have j0 := Ext.refl s0
 refine Calls_of (n := 11) (args := [w0, w1]) Tryz.func98 rfl rfl (by simp) (sr (asg (rv (vb false)) (nn (sr (mv (rv w0) (ln Tryz.underlying23 (rv w0) h0 (ld ty22 (rv w1) h1 (fun j1 j2 => ?_))))))))
 obtain ⟨j3, j4, hr⟩ := bind_some hr
 refine ix Tryz.underlying22 ty23.inf (rv j1) j2 (rv (vi 0)) j4 (fun j5 j6 => ld ty23 (rv j5) j6 (fun j7 j8 => ln Tryz.underlying23 (rv j7) j8 (ne (rv (vi ((a0.length : Int)))) (rv (vi ((j3.length : Int)))) (asg (rv (vb (!decide ((a0.length : Int) = (j3.length : Int))))) (nn (W_ret ?_))))))
 obtain rfl := Option.some.inj hr
 exact done1 (Or.inl rfl) Tryz.results98 rfl ⟨_, _, rfl, rfl, j0, Vbool⟩

theorem check_sized_ok (N : Nat) (s0 : St) (w0 : Value) (a0 : List (List U8)) (h0 : V s0 w0 a0) (r : Int) (hr : check_sized N a0 = some r) :
    Calls Tryz.prog 49 #[w0] s0.w (Ret s0 fun v s => V s v r) := by
 unfold check_sized at hr
 have j0 := Ext.refl s0
 refine Calls_of (n := 13) (args := [w0]) Tryz.func49 rfl rfl (by simp) (sr (L_box (rv w0) h0 (by decide) (fun j1 j2 j3 j4 => ?_)))
 have j5 := Tch.ext j0 j3
 refine asg (rv (vi 0)) (nn (W_seq (W_block (sr (ld ty22 (rv j2) j4 (fun j6 j7 => ?_))))))
 obtain ⟨j8, j9, hr⟩ := bind_some hr
 refine ix Tryz.underlying22 ty23.inf (rv j6) j7 (rv (vi 0)) j9 (fun ja jb => ld ty23 (rv ja) jb (fun jc jd => ln Tryz.underlying23 (rv jc) jd (L_gtr (rv (vi ((j8.length : Int)))) (rv (vi 65536)) (by decide) (asg (rv (vb (decide (65536 < (j8.length : Int))))) (nn ?_)))))
 refine W_cond _ (rv (vb (decide (65536 < (j8.length : Int))))) (fun je => ?_) (fun je => ?_)
 ·have hr := ite_t je hr; refine sr (asg (rv (vi 8)) (nn (W_ret (block_r (then_r ?_))))); obtain rfl := Option.some.inj hr; exact done1 (Or.inl rfl) Tryz.results49 rfl ⟨_, _, rfl, rfl, j5, Vint⟩
 ·have hr := ite_f je hr
  refine sr (ld ty22 (rv j2) j4 (fun jf jg => L_makeFunc (args1 (rv j2)) (by decide) ?_))
  obtain ⟨jh, ji, hr⟩ := bind_some hr
  refine L_calls cal97 (args2 (rv jf) (rv (Value.func (.func 98) #[] #[j2]))) (slices_ContainsFunc_LLbyte_Lbyte_ok N _ _ _ jg _ (fun x => check_sized_1 N x a0) (Fn1.mk1 cal98 fun t vx x r hl hv hr => check_sized_1_ok N t vx x hv _ _ ((j4).mono hl) r hr) jh ji) (by decide) (fun jj jk jl jm => ?_)
  have jn := Tch.ext j5 jl
  obtain rfl := jm.bool
  refine asg (rv (vb jh)) (nn ?_)
  refine W_cond _ (rv (vb jh)) (fun jo => ?_) (fun jo => ?_)
  ·have hr := ite_t jo hr; refine sr (asg (rv (vi 26)) (nn (W_ret (block_r (then_r ?_))))); obtain rfl := Option.some.inj hr; exact done1 (Or.inl rfl) Tryz.results49 rfl ⟨_, _, rfl, rfl, jn, Vint⟩
  ·have hr := ite_f jo hr; refine W_skip (block_n (then_n (sr (asg (rv (vi 0)) (nn (W_ret ?_)))))); obtain rfl := Option.some.inj hr; exact done1 (Or.inl rfl) Tryz.results49 rfl ⟨_, _, rfl, rfl, jn, Vint⟩

theorem ref14_times_ok (N : Nat) (s0 : St) (a0 : U8) (a1 : U8) (r : U8) (hr : ref14_times N a0 a1 = some r) :
    Calls Tryz.prog 101 #[.int .u8 a0.n, .int .u8 a1.n] s0.w (Ret s0 fun v s => V s v r) := by
 unfold ref14_times at hr
 have j0 := Ext.refl s0
 refine Calls_of (n := 31) (args := [.int .u8 a0.n, .int .u8 a1.n]) Tryz.func101 rfl rfl (by simp) (sr (asg (rv (Value.int .u8 ((⟨0⟩ : U8)).n)) (nn (sr (mv (rv (Value.int .u8 (a0).n)) ?_)))))
 obtain ⟨j1, hr⟩ := chk_some hr
 refine L_convert_i64 Tryz.underlying5 Tryz.underlying3 (rv (Value.int .u8 (a0).n)) j1 (by decide) (asg (rv (vi (a0.n))) (asg (rv (vi 0)) (nn (W_seq (sr (asg (rv (vi 0)) (nn ?_)))))))
 obtain ⟨j2, j3, j4⟩ := bind_some hr
 refine W_cut (fun f w => ∃ (s : St) (j5 : Int), s.w = w ∧ Ext s0 s ∧ Le s0 s ∧ j5 = j2 ∧ f 6 = vi j5) ?_ ?_
 ·refine W_block (W_loop (fun m f w => ∃ (s : St) (j6 : Int) (j7 : Int) (j8 : Int), s.w = w ∧ Ext s0 s ∧ Le s0 s ∧ ref14_times_l1 N a1 m j6 j7 j8 = some j2 ∧ f 5 = vi j6 ∧ f 6 = vi j7 ∧ f 7 = vi j8 ∧ f 1 = Value.int .u8 (a1).n) N ⟨s0, a0.n, 0, 0, rfl, j0, (Le.refl _), j3, rfl, rfl, rfl, rfl⟩ ?_)
  rintro j9 ja jb ⟨jc, j6, j7, j8, rfl, jd, je, hr, jf, jg, jh, ji⟩
  cases j9 with
  | zero => exact absurd hr (by simp [ref14_times_l1])
  | succ j9 =>
   rw [ref14_times_l1.eq_2] at hr
   refine W_seq (sr (mv jh (ls (rv (vi j8)) (rv (vi 8)) (nn ?_))))
   refine W_cond _ (rv (vb (decide (j8 < 8)))) (fun jj => ?_) (fun jj => ?_)
   ·have hr := ite_t jj hr
    refine W_skip (then_n (W_seq (W_block (W_seq (sr (mv ji ?_))))))
    obtain ⟨jk, hr⟩ := chk_some hr
    refine L_convert_i64 Tryz.underlying5 Tryz.underlying3 (rv (Value.int .u8 (a1).n)) jk (by decide) (mv jh ?_)
    obtain ⟨jl, hr⟩ := chk_some hr
    refine L_shrK (rv (vi (a1.n))) (rv (vi j8)) jl (by decide) ?_
    obtain ⟨jm, hr⟩ := chk_some hr
    refine L_rem (rv (vi (shrK .i64 a1.n j8))) (rv (vi 2)) jm (by decide) (el (rv (vi (Int.tmod (shrK .i64 a1.n j8) 2))) (rv (vi 1)) (nn ?_))
    refine W_cond _ (rv (vb (decide ((Int.tmod (shrK .i64 a1.n j8) 2) = 1)))) (fun jn => ?_) (fun jn => ?_)
    ·have hr := ite_t jn hr
     refine W_region (mv jg (mv jf (L_xorK (rv (vi j7)) (rv (vi j6)) (by decide) (asg (rv (vi (xorK .i64 j7 j6))) (nn (sr (mv jf ?_)))))))
     obtain ⟨jo, hr⟩ := chk_some hr
     refine L_mul (rv (vi j6)) (rv (vi 2)) jo (by decide) (asg (rv (vi (j6 * 2))) (nn (sr (mv (rv (vi (j6 * 2))) (L_gtr (rv (vi (j6 * 2))) (rv (vi 255)) (by decide) (nn ?_))))))
     refine W_cond _ (rv (vb (decide (255 < (j6 * 2))))) (fun jp => ?_) (fun jp => ?_)
     ·have hr := ite_t jp hr; refine W_region (mv (rv (vi (j6 * 2))) (L_xorK (rv (vi (j6 * 2))) (rv (vi 285)) (by decide) (asg (rv (vi (xorK .i64 (j6 * 2) 285))) (L_nil (block_n (then_n (W_region (mv jh ?_)))))))); obtain ⟨jq, hr⟩ := chk_some hr; exact ad (rv (vi j8)) (rv (vi 1)) jq (asg (rv (vi (j8 + 1))) (nn ⟨j9, Nat.lt_succ_self _, ⟨jc, (xorK .i64 (j6 * 2) 285), (xorK .i64 j7 j6), (j8 + 1), rfl, jd, je, hr, rfl, rfl, rfl, ji⟩⟩))
     ·have hr := ite_f jp hr; refine W_skip (block_n (then_n (W_region (mv jh ?_)))); obtain ⟨jq, hr⟩ := chk_some hr; exact ad (rv (vi j8)) (rv (vi 1)) jq (asg (rv (vi (j8 + 1))) (nn ⟨j9, Nat.lt_succ_self _, ⟨jc, (j6 * 2), (xorK .i64 j7 j6), (j8 + 1), rfl, jd, je, hr, rfl, rfl, rfl, ji⟩⟩))
    ·have hr := ite_f jn hr
     refine W_skip (then_n (sr (mv jf ?_)))
     obtain ⟨jo, hr⟩ := chk_some hr
     refine L_mul (rv (vi j6)) (rv (vi 2)) jo (by decide) (asg (rv (vi (j6 * 2))) (nn (sr (mv (rv (vi (j6 * 2))) (L_gtr (rv (vi (j6 * 2))) (rv (vi 255)) (by decide) (nn ?_))))))
     refine W_cond _ (rv (vb (decide (255 < (j6 * 2))))) (fun jp => ?_) (fun jp => ?_)
     ·have hr := ite_t jp hr; refine W_region (mv (rv (vi (j6 * 2))) (L_xorK (rv (vi (j6 * 2))) (rv (vi 285)) (by decide) (asg (rv (vi (xorK .i64 (j6 * 2) 285))) (L_nil (block_n (then_n (W_region (mv jh ?_)))))))); obtain ⟨jq, hr⟩ := chk_some hr; exact ad (rv (vi j8)) (rv (vi 1)) jq (asg (rv (vi (j8 + 1))) (nn ⟨j9, Nat.lt_succ_self _, ⟨jc, (xorK .i64 (j6 * 2) 285), j7, (j8 + 1), rfl, jd, je, hr, rfl, jg, rfl, ji⟩⟩))
     ·have hr := ite_f jp hr; refine W_skip (block_n (then_n (W_region (mv jh ?_)))); obtain ⟨jq, hr⟩ := chk_some hr; exact ad (rv (vi j8)) (rv (vi 1)) jq (asg (rv (vi (j8 + 1))) (nn ⟨j9, Nat.lt_succ_self _, ⟨jc, (j6 * 2), j7, (j8 + 1), rfl, jd, je, hr, rfl, jg, rfl, ji⟩⟩))
   ·have hr := ite_f jj hr; refine W_exit (then_x (then_x (block_here ?_))); exact then_n ⟨jc, j7, rfl, jd, je, Option.some.inj hr, jg⟩
 ·rintro j6 j7 ⟨j8, j5, rfl, j9, ja, j3, jb⟩; subst j3; have hr := j4; (try dsimp only at hr); refine then_n (sr (mv jb (L_convK Tryz.underlying3 Tryz.underlying5 (rv (vi j5)) (by decide) (asg (rv (Value.int .u8 ((⟨convK .u8 j5⟩ : U8)).n)) (nn (W_ret ?_)))))); obtain rfl := Option.some.inj hr; exact done1 (Or.inl rfl) Tryz.results101 rfl ⟨_, _, rfl, rfl, j9, Vu8⟩

theorem ref14_combined_ok (N : Nat) (s0 : St) (w0 : Value) (a0 : List U8) (h0 : V s0 w0 a0) (w1 : Value) (a1 : List (List U8)) (h1 : V s0 w1 a1) (r : (List U8)) (hr : ref14_combined N a0 a1 = some r) :
    Calls Tryz.prog 52 #[w0, w1] s0.w (Ret s0 fun v s => V s v r) := by
 unfold ref14_combined at hr
 have j0 := Ext.refl s0
 refine Calls_of (n := 44) (args := [w0, w1]) Tryz.func52 rfl rfl (by simp) (sr (asg (rv (Value.slice none 0 0)) (nn (sr (mv (rv w1) ?_)))))
 obtain ⟨j1, j2, hr⟩ := bind_some hr
 refine ix Tryz.underlying22 ty23.inf (rv w1) h1 (rv (vi 0)) j2 (fun j3 j4 => ld ty23 (rv j3) j4 (fun j5 j6 => ln Tryz.underlying23 (rv j5) j6 ?_))
 obtain ⟨j7, hr⟩ := chk_some hr
 refine L_makeArr (x0 := (⟨0⟩ : U8)) Tryz.underlying23 tyz5 (rv (vi ((j1.length : Int)))) j7.1 j7.2.1 j7.2.2 (fun _ => rfl) (by decide) (fun j8 j9 ja jb jc => ?_)
 have jd := Tch.ext j0 ja
 refine asg (rv (Value.slice (some ⟨j9, 0, none⟩) ((j1.length : Int)).toNat ((j1.length : Int)).toNat)) (nn (W_seq (sr (asg (rv (vi 0)) (nn ?_)))))
 obtain ⟨je, jf, jg⟩ := bind_some hr
 refine W_cut (fun f w => ∃ (s : St) (jh : List U8), s.w = w ∧ Ext s0 s ∧ Le j8 s ∧ jh = je ∧ f 5 = Value.slice (some ⟨j9, 0, none⟩) ((j1.length : Int)).toNat ((j1.length : Int)).toNat ∧ Arr s j9 5 ((j1.length : Int)).toNat jh) ?_ ?_
 ·refine W_block (W_loop (fun m f w => ∃ (s : St) (ji : Int) (jj : List U8), s.w = w ∧ Ext s0 s ∧ Le j8 s ∧ ref14_combined_l1 N a0 a1 j1 m ji jj = some je ∧ f 6 = vi ji ∧ f 0 = w0 ∧ f 1 = w1 ∧ f 5 = Value.slice (some ⟨j9, 0, none⟩) ((j1.length : Int)).toNat ((j1.length : Int)).toNat ∧ Arr s j9 5 ((j1.length : Int)).toNat jj) N ⟨j8, 0, (List.replicate ((j1.length : Int)).toNat (⟨0⟩ : U8)), rfl, jd, (Le.refl _), jf, rfl, rfl, rfl, rfl, jc⟩ ?_)
  rintro jk jl jm ⟨jn, ji, jj, rfl, jo, jp, hr, jq, jr, js, jt, ju⟩
  cases jk with
  | zero => exact absurd hr (by simp [ref14_combined_l1])
  | succ jk =>
   rw [ref14_combined_l1.eq_2] at hr
   refine W_seq (sr (mv jq (mv jr (ln Tryz.underlying23 (rv w0) (h0.mono (ja.le.trans jp)) (ls (rv (vi ji)) (rv (vi ((a0.length : Int)))) (nn ?_))))))
   refine W_cond _ (rv (vb (decide (ji < (a0.length : Int))))) (fun jv => ?_) (fun jv => ?_)
   ·have hr := ite_t jv hr
    refine W_skip (then_n (W_seq (W_block (sr (asg (rv (vi 0)) (nn ?_))))))
    obtain ⟨jw, jx, jy⟩ := bind_some hr
    refine W_cut (fun f w => ∃ (s : St) (jz : List U8), s.w = w ∧ Ext s0 s ∧ Le jn s ∧ jz = jw ∧ f 0 = w0 ∧ f 1 = w1 ∧ f 5 = Value.slice (some ⟨j9, 0, none⟩) ((j1.length : Int)).toNat ((j1.length : Int)).toNat ∧ f 6 = vi (ji) ∧ Arr s j9 5 ((j1.length : Int)).toNat jz) ?_ ?_
    ·refine W_block (W_loop (fun m f w => ∃ (s : St) (k0 : Int) (k1 : List U8), s.w = w ∧ Ext s0 s ∧ Le jn s ∧ ref14_combined_l2 N a0 a1 j1 ji m k0 k1 = some jw ∧ f 7 = vi k0 ∧ f 0 = w0 ∧ f 1 = w1 ∧ f 5 = Value.slice (some ⟨j9, 0, none⟩) ((j1.length : Int)).toNat ((j1.length : Int)).toNat ∧ f 6 = vi (ji) ∧ Arr s j9 5 ((j1.length : Int)).toNat k1) N ⟨jn, 0, jj, rfl, jo, (Le.refl _), jx, rfl, jr, js, jt, jq, ju⟩ ?_)
     rintro k2 k3 k4 ⟨k5, k0, k1, rfl, k6, k7, hr, k8, k9, ka, kb, kc, kd⟩
     cases k2 with
     | zero => exact absurd hr (by simp [ref14_combined_l2])
     | succ k2 =>
      rw [ref14_combined_l2.eq_2] at hr
      refine W_seq (sr (mv k8 (mv kb (L_lenA Tryz.underlying23 (rv (Value.slice (some ⟨j9, 0, none⟩) ((j1.length : Int)).toNat ((j1.length : Int)).toNat)) (by decide) (ls (rv (vi k0)) (rfl : _ = vi (((((j1.length : Int)).toNat : Nat) : Int))) (nn ?_))))))
      refine W_cond _ (rfl : _ = vb (decide (k0 < ((((j1.length : Int)).toNat : Nat) : Int)))) (fun ke => ?_) (fun ke => ?_)
      ·have hr := ite_t ke hr
       refine W_skip (then_n (W_seq (W_block ?_)))
       obtain ⟨kf, kg, hr⟩ := bind_some hr
       obtain ⟨kh, ki, hr⟩ := bind_some hr
       obtain ⟨kj, kk, hr⟩ := bind_some hr
       obtain ⟨kl, km, hr⟩ := bind_some hr
       obtain ⟨kn, ko, hr⟩ := bind_some hr
       obtain ⟨kp, kq, hr⟩ := bind_some hr
       refine W_drawO mixed 19 [PX.eq (Value.slice (some ⟨j9, 0, none⟩) ((j1.length : Int)).toNat ((j1.length : Int)).toNat), PX.eq (vi k0), PX.eq (Value.pointer (some ⟨j9, (k0).toNat * 1, none⟩)), PX.eq (Value.int .u8 (kf).n), PX.data (a0 : List U8), PX.eq (vi ji), PX.ptr (kh : U8), PX.eq (Value.int .u8 (kh).n), PX.data (a1 : List (List U8)), PX.eq (vi ji), PX.ptr (kj : List U8), PX.data (kj : List U8), PX.eq (vi k0), PX.ptr (kl : U8), PX.eq (Value.int .u8 (kl).n), PX.eq (Value.int .u8 (kn).n), PX.eq (Value.int .u8 ((⟨xorK .u8 kf.n kn.n⟩ : U8)).n), PX.eq (Value.pointer (some ⟨j9, (k0).toNat * 1, none⟩)), PX.arr j9 5 (((j1.length : Int)).toNat) (k1.set (k0).toNat (⟨xorK .u8 kf.n kn.n⟩ : U8) : List U8), PX.arr j9 5 (((j1.length : Int)).toNat) (k1 : List U8)] [25, 26, 27, 28, 29, 30, 31, 32, 33, 34, 35, 36, 37, 38, 39, 40, 41, 42, 5, 5] [[], [], [], [], [], [], [], [], [], [], [], [], [], [], [], [], [], [], [19]] rfl (by kernel_rfl) (ent1 rfl ⟨kb, kd⟩) (dis1 rfl) (StepsX_cons ?_ (StepsX_cons ?_ (StepsX_cons ?_ (StepsX_cons ?_ (StepsX_cons ?_ (StepsX_cons ?_ (StepsX_cons ?_ (StepsX_cons ?_ (StepsX_cons ?_ (StepsX_cons ?_ (StepsX_cons ?_ (StepsX_cons ?_ (StepsX_cons ?_ (StepsX_cons ?_ (StepsX_cons ?_ (StepsX_cons ?_ (StepsX_cons ?_ (StepsX_cons ?_ (StepsX_cons ?_ StepsX_nil))))))))))))))))))) ?_
       ·intro kr ks kt ku kv kw Q kx; obtain ⟨ky, kz⟩ : kr 5 = Value.slice (some ⟨j9, 0, none⟩) (((j1.length : Int)).toNat) (((j1.length : Int)).toNat) ∧ Arr ks j9 5 (((j1.length : Int)).toNat) (k1 : List U8) := ku 19 (by kernel_rfl) (by show _ < 20; decide); exact mv ky (L_nil (kx _ _ No (Ext.refl ks) (fun _ h => h.elim) rfl (fun _ h => h.elim)))
       ·intro kr ks kt ku kv kw Q kx; have ky : kr 7 = vi (k0) := (kv 7 (by kernel_rfl)).trans k8; exact mv ky (L_nil (kx _ _ No (Ext.refl ks) (fun _ h => h.elim) rfl (fun _ h => h.elim)))
       ·intro kr ks kt ku kv kw Q kx; have ky : kr 25 = Value.slice (some ⟨j9, 0, none⟩) ((j1.length : Int)).toNat ((j1.length : Int)).toNat := ku 0 (by kernel_rfl) (by show _ < 20; decide); have kz : kr 26 = vi (k0) := ku 1 (by kernel_rfl) (by show _ < 20; decide); obtain ⟨g0, g1⟩ : kr 5 = Value.slice (some ⟨j9, 0, none⟩) (((j1.length : Int)).toNat) (((j1.length : Int)).toNat) ∧ Arr ks j9 5 (((j1.length : Int)).toNat) (k1 : List U8) := ku 19 (by kernel_rfl) (by show _ < 20; decide); exact L_indexA (sz := 1) Tryz.underlying23 ty5.inf ky kz (idx_some kg).1 (by have := (idx_some kg).2.1; have := (g1).1; omega) (by decide) (L_nil (kx _ _ No (Ext.refl ks) (fun _ h => h.elim) rfl (fun _ h => h.elim)))
       ·intro kr ks kt ku kv kw Q kx; have ky : kr 27 = Value.pointer (some ⟨j9, (k0).toNat * 1, none⟩) := ku 2 (by kernel_rfl) (by show _ < 20; decide); obtain ⟨kz, g0⟩ : kr 5 = Value.slice (some ⟨j9, 0, none⟩) (((j1.length : Int)).toNat) (((j1.length : Int)).toNat) ∧ Arr ks j9 5 (((j1.length : Int)).toNat) (k1 : List U8) := ku 19 (by kernel_rfl) (by show _ < 20; decide); refine L_loadA (xs := k1) ty5 ky (g0) kg (by decide) (fun g1 g2 => ?_); obtain rfl := g2.u8; exact L_nil (kx _ _ No (Ext.refl ks) (fun _ h => h.elim) rfl (fun _ h => h.elim))
       ·intro kr ks kt ku kv kw Q kx; have ky : kr 0 = w0 := (kv 0 (by kernel_rfl)).trans k9; exact mv ky (L_nil (kx _ _ No (Ext.refl ks) (fun _ h => h.elim) (h0.mono (ja.le.trans (jp.trans (k7.trans kt.le)))) (fun _ h => h.elim)))
       ·intro kr ks kt ku kv kw Q kx; have ky : kr 6 = vi (ji) := (kv 6 (by kernel_rfl)).trans kc; exact mv ky (L_nil (kx _ _ No (Ext.refl ks) (fun _ h => h.elim) rfl (fun _ h => h.elim)))
       ·intro kr ks kt ku kv kw Q kx; have ky : V _ (kr 29) (a0 : List U8) := ku 4 (by kernel_rfl) (by show _ < 20; decide); obtain ⟨kz, g0, g1⟩ : ∃ v, _ = v ∧ V _ v _ := ⟨_, rfl, ky⟩; have g2 : kr 30 = vi (ji) := ku 5 (by kernel_rfl) (by show _ < 20; decide); exact ix Tryz.underlying23 ty5.inf g0 g1 g2 ki (fun g3 g4 => L_nil (kx _ _ No (Ext.refl ks) (fun _ h => h.elim) g4 (fun _ h => h.elim)))
       ·intro kr ks kt ku kv kw Q kx; have ky : Ptr _ (kr 31) (kh : U8) := ku 6 (by kernel_rfl) (by show _ < 20; decide); obtain ⟨kz, g0, g1⟩ : ∃ v, _ = v ∧ Ptr _ v _ := ⟨_, rfl, ky⟩; exact L_load_u8 ty5 g0 g1 (by decide) (L_nil (kx _ _ No (Ext.refl ks) (fun _ h => h.elim) rfl (fun _ h => h.elim)))
       ·intro kr ks kt ku kv kw Q kx; have ky : kr 1 = w1 := (kv 1 (by kernel_rfl)).trans ka; exact mv ky (L_nil (kx _ _ No (Ext.refl ks) (fun _ h => h.elim) (h1.mono (ja.le.trans (jp.trans (k7.trans kt.le)))) (fun _ h => h.elim)))
       ·intro kr ks kt ku kv kw Q kx; have ky : kr 6 = vi (ji) := (kv 6 (by kernel_rfl)).trans kc; exact mv ky (L_nil (kx _ _ No (Ext.refl ks) (fun _ h => h.elim) rfl (fun _ h => h.elim)))
       ·intro kr ks kt ku kv kw Q kx; have ky : V _ (kr 33) (a1 : List (List U8)) := ku 8 (by kernel_rfl) (by show _ < 20; decide); obtain ⟨kz, g0, g1⟩ : ∃ v, _ = v ∧ V _ v _ := ⟨_, rfl, ky⟩; have g2 : kr 34 = vi (ji) := ku 9 (by kernel_rfl) (by show _ < 20; decide); exact ix Tryz.underlying22 ty23.inf g0 g1 g2 kk (fun g3 g4 => L_nil (kx _ _ No (Ext.refl ks) (fun _ h => h.elim) g4 (fun _ h => h.elim)))
       ·intro kr ks kt ku kv kw Q kx; have ky : Ptr _ (kr 35) (kj : List U8) := ku 10 (by kernel_rfl) (by show _ < 20; decide); obtain ⟨kz, g0, g1⟩ : ∃ v, _ = v ∧ Ptr _ v _ := ⟨_, rfl, ky⟩; exact ld ty23 g0 g1 (fun g2 g3 => L_nil (kx _ _ No (Ext.refl ks) (fun _ h => h.elim) g3 (fun _ h => h.elim)))
       ·intro kr ks kt ku kv kw Q kx; have ky : kr 7 = vi (k0) := (kv 7 (by kernel_rfl)).trans k8; exact mv ky (L_nil (kx _ _ No (Ext.refl ks) (fun _ h => h.elim) rfl (fun _ h => h.elim)))
       ·intro kr ks kt ku kv kw Q kx; have ky : V _ (kr 36) (kj : List U8) := ku 11 (by kernel_rfl) (by show _ < 20; decide); obtain ⟨kz, g0, g1⟩ : ∃ v, _ = v ∧ V _ v _ := ⟨_, rfl, ky⟩; have g2 : kr 37 = vi (k0) := ku 12 (by kernel_rfl) (by show _ < 20; decide); exact ix Tryz.underlying23 ty5.inf g0 g1 g2 km (fun g3 g4 => L_nil (kx _ _ No (Ext.refl ks) (fun _ h => h.elim) g4 (fun _ h => h.elim)))
       ·intro kr ks kt ku kv kw Q kx; have ky : Ptr _ (kr 38) (kl : U8) := ku 13 (by kernel_rfl) (by show _ < 20; decide); obtain ⟨kz, g0, g1⟩ : ∃ v, _ = v ∧ Ptr _ v _ := ⟨_, rfl, ky⟩; exact L_load_u8 ty5 g0 g1 (by decide) (L_nil (kx _ _ No (Ext.refl ks) (fun _ h => h.elim) rfl (fun _ h => h.elim)))
       ·intro kr ks kt ku kv kw Q kx; have ky : kr 32 = Value.int .u8 (kh).n := ku 7 (by kernel_rfl) (by show _ < 20; decide); have kz : kr 39 = Value.int .u8 (kl).n := ku 14 (by kernel_rfl) (by show _ < 20; decide); refine L_calls cal101 (args2 ky kz) (ref14_times_ok N _ kh kl kn ko) (by decide) (fun g0 g1 g2 g3 => ?_); have g4 := Tch.ext (Ext.refl ks) g2; obtain rfl := g3.u8; exact L_nil (kx _ _ No g4 (fun _ h => h.elim) rfl (fun _ h => h.elim))
       ·intro kr ks kt ku kv kw Q kx; have ky : kr 28 = Value.int .u8 (kf).n := ku 3 (by kernel_rfl) (by show _ < 20; decide); have kz : kr 40 = Value.int .u8 (kn).n := ku 15 (by kernel_rfl) (by show _ < 20; decide); exact L_xorK ky kz (by decide) (L_nil (kx _ _ No (Ext.refl ks) (fun _ h => h.elim) rfl (fun _ h => h.elim)))
       ·intro kr ks kt ku kv kw Q kx; have ky : kr 25 = Value.slice (some ⟨j9, 0, none⟩) ((j1.length : Int)).toNat ((j1.length : Int)).toNat := ku 0 (by kernel_rfl) (by show _ < 20; decide); have kz : kr 26 = vi (k0) := ku 1 (by kernel_rfl) (by show _ < 20; decide); obtain ⟨g0, g1⟩ : kr 5 = Value.slice (some ⟨j9, 0, none⟩) (((j1.length : Int)).toNat) (((j1.length : Int)).toNat) ∧ Arr ks j9 5 (((j1.length : Int)).toNat) (k1 : List U8) := ku 19 (by kernel_rfl) (by show _ < 20; decide); exact L_indexA (sz := 1) Tryz.underlying23 ty5.inf ky kz (idx_some kq).1 (by have := (idx_some kq).2.1; have := (g1).1; omega) (by decide) (L_nil (kx _ _ No (Ext.refl ks) (fun _ h => h.elim) rfl (fun _ h => h.elim)))
       ·intro kr ks kt ku kv kw Q kx; obtain ⟨ky, kz⟩ : kr 5 = Value.slice (some ⟨j9, 0, none⟩) (((j1.length : Int)).toNat) (((j1.length : Int)).toNat) ∧ Arr ks j9 5 (((j1.length : Int)).toNat) (k1 : List U8) := ku 19 (by kernel_rfl) (by show _ < 20; decide); have g0 : kr 41 = Value.int .u8 ((⟨xorK .u8 kf.n kn.n⟩ : U8)).n := ku 16 (by kernel_rfl) (by show _ < 20; decide); have g1 : kr 42 = Value.pointer (some ⟨j9, (k0).toNat * 1, none⟩) := ku 17 (by kernel_rfl) (by show _ < 20; decide); exact L_storeA (xs := k1) ty5 g1 g0 Vu8 (kz) kq (fun g2 g3 g4 => L_nil (kx undef _ _ g3 (fun k h => ⟨19, (List.mem_singleton.2 rfl : (19 : Nat) ∈ [19]), (by show own (kr 5) k; rw [ky]; exact congrArg some h.symm)⟩) ⟨ky, g4⟩ (fun k h => Or.inl ⟨19, (List.mem_singleton.2 rfl : (19 : Nat) ∈ [19]), h⟩)))
       ·intro kr ks kt ku kv kw kx; have ky := Tch.trans k6 kt (fun k h => Or.inr (by have kz := own_slice (kb : _ = Value.slice (some ⟨j9, 0, none⟩) (((j1.length : Int)).toNat) (((j1.length : Int)).toNat)) (ent_is (k := 19) rfl rfl h); rw [kz]; exact (Nat.le_trans j0.size jb))); obtain ⟨g0, g1⟩ : kr 5 = Value.slice (some ⟨j9, 0, none⟩) (((j1.length : Int)).toNat) (((j1.length : Int)).toNat) ∧ Arr ks j9 5 (((j1.length : Int)).toNat) (k1.set (k0).toNat (⟨xorK .u8 kf.n kn.n⟩ : U8) : List U8) := ku 18 (by show _ < 20; decide) (by kernel_rfl); have g2 : kr 0 = w0 := (kx 0 (by kernel_rfl)).trans k9; have g3 : kr 1 = w1 := (kx 1 (by kernel_rfl)).trans ka; have g4 : kr 6 = vi (ji) := (kx 6 (by kernel_rfl)).trans kc; have g5 : kr 7 = vi (k0) := (kx 7 (by kernel_rfl)).trans k8; refine block_n (then_n (W_region (mv g5 ?_))); obtain ⟨g6, hr⟩ := chk_some hr; exact ad (rv (vi k0)) (rv (vi 1)) g6 (asg (rv (vi (k0 + 1))) (nn ⟨k2, Nat.lt_succ_self _, ⟨ks, (k0 + 1), (k1.set (k0).toNat (⟨xorK .u8 kf.n kn.n⟩ : U8)), rfl, ky, (k7.trans kt.le), hr, rfl, g2, g3, g0, g4, g1⟩⟩))
      ·have hr := ite_f ke hr; refine W_exit (then_x (then_x (block_here ?_))); exact then_n ⟨k5, k1, rfl, k6, k7, Option.some.inj hr, k9, ka, kb, kc, kd⟩
    ·rintro k0 k1 ⟨k2, jz, rfl, k3, k4, jx, k5, k6, k7, k8, k9⟩; subst jx; have hr := jy; (try dsimp only at hr); refine block_n (then_n (W_region (mv k8 ?_))); obtain ⟨ka, hr⟩ := chk_some hr; exact ad (rv (vi ji)) (rv (vi 1)) ka (asg (rv (vi (ji + 1))) (nn ⟨jk, Nat.lt_succ_self _, ⟨k2, (ji + 1), jz, rfl, k3, (jp.trans k4), hr, rfl, k5, k6, k7, k9⟩⟩))
   ·have hr := ite_f jv hr; refine W_exit (then_x (then_x (block_here ?_))); exact then_n ⟨jn, jj, rfl, jo, jp, Option.some.inj hr, jt, ju⟩
 ·rintro ji jj ⟨jk, jh, rfl, jl, jm, jf, jn, jo⟩; subst jf; have hr := jg; (try dsimp only at hr); refine then_n (sr (mv jn (asg (rv (Value.slice (some ⟨j9, 0, none⟩) ((j1.length : Int)).toNat ((j1.length : Int)).toNat)) (nn (W_ret ?_))))); obtain rfl := Option.some.inj hr; obtain ⟨jp, jq, jr, js⟩ := (jo).freeze; have jt := Tch.trans jl jr (fun k hk => Or.inr (by subst hk; exact (Nat.le_trans j0.size jb))); exact done1 (Or.inl rfl) Tryz.results52 rfl ⟨_, _, rfl, jq, jt, js⟩

theorem ref14_inverse_ok (N : Nat) (s0 : St) (a0 : U8) (r : U8) (hr : ref14_inverse N a0 = some r) :
    Calls Tryz.prog 108 #[.int .u8 a0.n] s0.w (Ret s0 fun v s => V s v r) := by
 unfold ref14_inverse at hr
 have j0 := Ext.refl s0
 refine Calls_of (n := 15) (args := [.int .u8 a0.n]) Tryz.func108 rfl rfl (by simp) (sr (asg (rv (Value.int .u8 ((⟨0⟩ : U8)).n)) (nn (W_seq (sr (asg (rv (vi 1)) (nn ?_)))))))
 obtain ⟨j1, j2, j3⟩ := bind_some hr
 refine W_cut (fun f w => ∃ (s : St), s.w = w ∧ Ext s0 s ∧ Le s0 s ∧ Sum.inl () = j1) ?_ ?_
 ·refine W_block (W_loop (fun m f w => ∃ (s : St) (j4 : Int), s.w = w ∧ Ext s0 s ∧ Le s0 s ∧ ref14_inverse_l1 N a0 m j4 = some j1 ∧ f 3 = vi j4 ∧ f 0 = Value.int .u8 (a0).n) N ⟨s0, 1, rfl, j0, (Le.refl _), j2, rfl, rfl⟩ ?_)
  rintro j5 j6 j7 ⟨j8, j4, rfl, j9, ja, hr, jb, jc⟩
  cases j5 with
  | zero => exact absurd hr (by simp [ref14_inverse_l1])
  | succ j5 =>
   rw [ref14_inverse_l1.eq_2] at hr
   refine W_seq (sr (mv jb (ls (rv (vi j4)) (rv (vi 256)) (nn ?_))))
   refine W_cond _ (rv (vb (decide (j4 < 256)))) (fun jd => ?_) (fun jd => ?_)
   ·have hr := ite_t jd hr
    refine W_skip (then_n (W_seq (W_block (sr (mv jc (mv jb (L_convK Tryz.underlying3 Tryz.underlying5 (rv (vi j4)) (by decide) ?_)))))))
    obtain ⟨je, jf, hr⟩ := bind_some hr
    refine L_calls cal101 (args2 (rv (Value.int .u8 (a0).n)) (rv (Value.int .u8 ((⟨convK .u8 j4⟩ : U8)).n))) (ref14_times_ok N _ a0 (⟨convK .u8 j4⟩ : U8) je jf) (by decide) (fun jg jh ji jj => ?_)
    have jk := Tch.ext j9 ji
    obtain rfl := jj.u8
    refine el (rv (Value.int .u8 (je).n)) (rv (Value.int .u8 ((⟨1⟩ : U8)).n)) (nn ?_)
    refine W_cond _ (rv (vb (decide (je.n = (⟨1⟩ : U8).n)))) (fun jl => ?_) (fun jl => ?_)
    ·have hr := ite_t jl hr; refine sr (mv jb (L_convK Tryz.underlying3 Tryz.underlying5 (rv (vi j4)) (by decide) (asg (rv (Value.int .u8 ((⟨convK .u8 j4⟩ : U8)).n)) (nn (W_ret (block_r (then_r (then_r (block_r ?_))))))))); obtain rfl := Option.some.inj hr; have hr := j3; (try dsimp only at hr); refine then_r (then_r ?_); obtain rfl := Option.some.inj hr; exact done1 (Or.inl rfl) Tryz.results108 rfl ⟨_, _, rfl, rfl, jk, Vu8⟩
    ·have hr := ite_f jl hr; refine W_skip (block_n (then_n (W_region (mv jb ?_)))); obtain ⟨jm, hr⟩ := chk_some hr; exact ad (rv (vi j4)) (rv (vi 1)) jm (asg (rv (vi (j4 + 1))) (nn ⟨j5, Nat.lt_succ_self _, ⟨jh, (j4 + 1), rfl, jk, (ja.trans ji.le), hr, rfl, jc⟩⟩))
   ·have hr := ite_f jd hr; refine W_exit (then_x (then_x (block_here ?_))); exact then_n ⟨j8, rfl, j9, ja, Option.some.inj hr⟩
 ·rintro j4 j5 ⟨j6, rfl, j7, j8, j2⟩; subst j2; have hr := j3; (try dsimp only at hr); refine then_n (sr (asg (rv (Value.int .u8 ((⟨0⟩ : U8)).n)) (nn (W_ret ?_)))); obtain rfl := Option.some.inj hr; exact done1 (Or.inl rfl) Tryz.results108 rfl ⟨_, _, rfl, rfl, j7, Vu8⟩

theorem ref14_factor_ok (N : Nat) (s0 : St) (a0 : Int) (a1 : Int) (r : U8) (hr : ref14_factor N a0 a1 = some r) :
    Calls Tryz.prog 102 #[.int .i64 a0, .int .i64 a1] s0.w (Ret s0 fun v s => V s v r) := by
 unfold ref14_factor at hr
 have j0 := Ext.refl s0
 refine Calls_of (n := 11) (args := [.int .i64 a0, .int .i64 a1]) Tryz.func102 rfl rfl (by simp) (sr (asg (rv (Value.int .u8 ((⟨0⟩ : U8)).n)) (nn (sr (mv (rv (vi a0)) (mv (rv (vi a1)) ?_))))))
 obtain ⟨j1, hr⟩ := chk_some hr
 refine ad (rv (vi 16)) (rv (vi a1)) j1 (L_xorK (rv (vi a0)) (rv (vi (16 + a1))) (by decide) (L_convK Tryz.underlying3 Tryz.underlying5 (rv (vi (xorK .i64 a0 (16 + a1)))) (by decide) ?_))
 obtain ⟨j2, j3, hr⟩ := bind_some hr
 refine L_calls cal108 (args1 (rv (Value.int .u8 ((⟨convK .u8 (xorK .i64 a0 (16 + a1))⟩ : U8)).n))) (ref14_inverse_ok N _ (⟨convK .u8 (xorK .i64 a0 (16 + a1))⟩ : U8) j2 j3) (by decide) (fun j4 j5 j6 j7 => ?_)
 have j8 := Tch.ext j0 j6
 obtain rfl := j7.u8
 refine asg (rv (Value.int .u8 (j2).n)) (nn (W_ret ?_))
 obtain rfl := Option.some.inj hr
 exact done1 (Or.inl rfl) Tryz.results102 rfl ⟨_, _, rfl, rfl, j8, Vu8⟩

theorem ref14_weights_ok (N : Nat) (s0 : St) (a0 : Int) (a1 : Int) (r : (List U8)) (hr : ref14_weights N a0 a1 = some r) :
    Calls Tryz.prog 53 #[.int .i64 a0, .int .i64 a1] s0.w (Ret s0 fun v s => V s v r) := by
 unfold ref14_weights at hr
 have j0 := Ext.refl s0
 refine Calls_of (n := 32) (args := [.int .i64 a0, .int .i64 a1]) Tryz.func53 rfl rfl (by simp) (sr (asg (rv (Value.slice none 0 0)) (nn (sr (mv (rv (vi a1)) ?_)))))
 obtain ⟨j1, hr⟩ := chk_some hr
 refine L_makeArr (x0 := (⟨0⟩ : U8)) Tryz.underlying23 tyz5 (rv (vi a1)) j1.1 j1.2.1 j1.2.2 (fun _ => rfl) (by decide) (fun j2 j3 j4 j5 j6 => ?_)
 have j7 := Tch.ext j0 j4
 refine asg (rv (Value.slice (some ⟨j3, 0, none⟩) (a1).toNat (a1).toNat)) (nn (W_seq (sr (asg (rv (vi 0)) (nn ?_)))))
 obtain ⟨j8, j9, ja⟩ := bind_some hr
 refine W_cut (fun f w => ∃ (s : St) (jb : List U8), s.w = w ∧ Ext s0 s ∧ Le j2 s ∧ jb = j8 ∧ f 0 = vi (a0) ∧ f 1 = vi (a1) ∧ f 5 = Value.slice (some ⟨j3, 0, none⟩) (a1).toNat (a1).toNat ∧ Arr s j3 5 (a1).toNat jb) ?_ ?_
 ·refine W_block (W_loop (fun m f w => ∃ (s : St) (jc : Int) (jd : List U8), s.w = w ∧ Ext s0 s ∧ Le j2 s ∧ ref14_weights_l1 N a0 a1 m jc jd = some j8 ∧ f 6 = vi jc ∧ f 0 = vi (a0) ∧ f 1 = vi (a1) ∧ f 5 = Value.slice (some ⟨j3, 0, none⟩) (a1).toNat (a1).toNat ∧ Arr s j3 5 (a1).toNat jd) N ⟨j2, 0, (List.replicate (a1).toNat (⟨0⟩ : U8)), rfl, j7, (Le.refl _), j9, rfl, rfl, rfl, rfl, j6⟩ ?_)
  rintro je jf jg ⟨jh, jc, jd, rfl, ji, jj, hr, jk, jl, jm, jn, jo⟩
  cases je with
  | zero => exact absurd hr (by simp [ref14_weights_l1])
  | succ je =>
   rw [ref14_weights_l1.eq_2] at hr
   refine W_seq (sr (mv jk (mv jm (ls (rv (vi jc)) (rv (vi a1)) (nn ?_)))))
   refine W_cond _ (rv (vb (decide (jc < a1)))) (fun jp => ?_) (fun jp => ?_)
   ·have hr := ite_t jp hr
    refine W_skip (then_n (W_seq (W_block (sr (mv jl (mv jm (L_geq (rv (vi a0)) (rv (vi a1)) (by decide) (nn ?_))))))))
    refine W_cond _ (rv (vb (decide (a1 ≤ a0)))) (fun jq => ?_) (fun jq => ?_)
    ·have hr := ite_t jq hr; refine W_region (mv jn (mv jk (mv jl (mv jm ?_)))); obtain ⟨jr, hr⟩ := chk_some hr; refine L_sub (rv (vi a0)) (rv (vi a1)) jr (by decide) (mv jk ?_); obtain ⟨js, jt, hr⟩ := bind_some hr; refine L_calls cal102 (args2 (rv (vi (a0 - a1))) (rv (vi jc))) (ref14_factor_ok N _ (a0 - a1) jc js jt) (by decide) (fun ju jv jw jx => ?_); have jy := Tch.ext ji jw; obtain rfl := jx.u8; obtain ⟨jz, k0, hr⟩ := bind_some hr; refine L_indexA (sz := 1) Tryz.underlying23 ty5.inf (rv (Value.slice (some ⟨j3, 0, none⟩) (a1).toNat (a1).toNat)) (rv (vi jc)) (idx_some k0).1 (by have := (idx_some k0).2.1; have := ((jo).ext jw).1; omega) (by decide) (L_storeA (xs := jd) ty5 (rv (Value.pointer (some ⟨j3, (jc).toNat * 1, none⟩))) (rv (Value.int .u8 (js).n)) Vu8 ((jo).ext jw) k0 (fun k1 k2 k3 => ?_)); have k4 := Tch.trans jy k2 (fun k hk => Or.inr (by subst hk; exact (Nat.le_trans j0.size j5))); refine L_nil (block_n (then_n (W_region (mv jk ?_)))); obtain ⟨k5, hr⟩ := chk_some hr; exact ad (rv (vi jc)) (rv (vi 1)) k5 (asg (rv (vi (jc + 1))) (nn ⟨je, Nat.lt_succ_self _, ⟨k1, (jc + 1), (jd.set (jc).toNat js), rfl, k4, (jj.trans (jw.le.trans k2.le)), hr, rfl, jl, jm, jn, k3⟩⟩))
    ·have hr := ite_f jq hr; refine W_skip (block_n (then_n (W_region (mv jk ?_)))); obtain ⟨jr, hr⟩ := chk_some hr; exact ad (rv (vi jc)) (rv (vi 1)) jr (asg (rv (vi (jc + 1))) (nn ⟨je, Nat.lt_succ_self _, ⟨jh, (jc + 1), jd, rfl, ji, jj, hr, rfl, jl, jm, jn, jo⟩⟩))
   ·have hr := ite_f jp hr; refine W_exit (then_x (then_x (block_here ?_))); exact then_n ⟨jh, jd, rfl, ji, jj, Option.some.inj hr, jl, jm, jn, jo⟩
 ·rintro jc jd ⟨je, jb, rfl, jf, jg, j9, jh, ji, jj, jk⟩
  subst j9
  have hr := ja
  try dsimp only at hr
  refine then_n (W_seq (sr (mv jh (mv ji (ls (rv (vi a0)) (rv (vi a1)) (nn ?_))))))
  refine W_cond _ (rv (vb (decide (a0 < a1)))) (fun jl => ?_) (fun jl => ?_)
  ·have hr := ite_t jl hr; refine W_region (mv jj (mv jh ?_)); obtain ⟨jm, jn, hr⟩ := bind_some hr; refine L_indexA (sz := 1) Tryz.underlying23 ty5.inf (rv (Value.slice (some ⟨j3, 0, none⟩) (a1).toNat (a1).toNat)) (rv (vi a0)) (idx_some jn).1 (by have := (idx_some jn).2.1; have := (jk).1; omega) (by decide) (L_storeA (xs := jb) ty5 (rv (Value.pointer (some ⟨j3, (a0).toNat * 1, none⟩))) (rv (Value.int .u8 ((⟨1⟩ : U8)).n)) Vu8 (jk) jn (fun jo jp jq => ?_)); have jr := Tch.trans jf jp (fun k hk => Or.inr (by subst hk; exact (Nat.le_trans j0.size j5))); refine nn (sr (mv jj (asg (rv (Value.slice (some ⟨j3, 0, none⟩) (a1).toNat (a1).toNat)) (nn (W_ret ?_))))); obtain rfl := Option.some.inj hr; obtain ⟨js, jt, ju, jv⟩ := (jq).freeze; have jw := Tch.trans jr ju (fun k hk => Or.inr (by subst hk; exact (Nat.le_trans j0.size j5))); exact done1 (Or.inl rfl) Tryz.results53 rfl ⟨_, _, rfl, jt, jw, jv⟩
  ·have hr := ite_f jl hr; refine W_skip (then_n (sr (mv jj (asg (rv (Value.slice (some ⟨j3, 0, none⟩) (a1).toNat (a1).toNat)) (nn (W_ret ?_)))))); obtain rfl := Option.some.inj hr; obtain ⟨jm, jn, jo, jp⟩ := (jk).freeze; have jq := Tch.trans jf jo (fun k hk => Or.inr (by subst hk; exact (Nat.le_trans j0.size j5))); exact done1 (Or.inl rfl) Tryz.results53 rfl ⟨_, _, rfl, jn, jq, jp⟩

theorem ref14_Parity_ok (N : Nat) (s0 : St) (w0 : Value) (a0 : List (List U8)) (h0 : V s0 w0 a0) (a1 : Int) (r : (List (List U8)) × Int) (hr : ref14_Parity N a0 a1 = some r) :
    Calls Tryz.prog 13 #[w0, .int .i64 a1] s0.w (Ret s0 fun v s => ∃ a b, v = .tuple #[a, b] ∧ V s a r.1 ∧ V s b r.2) := by
 unfold ref14_Parity at hr
 have j0 := Ext.refl s0
 refine Calls_of (n := 64) (args := [w0, .int .i64 a1]) Tryz.func13 rfl rfl (by simp) (sr (asg (rv (Value.slice none 0 0)) (asg (rv (vi 0)) (nn (W_seq ?_)))))
 obtain ⟨j1, j2, j3⟩ := bind_some hr
 refine W_seq_cut (fun f w => ∃ (s : St) (j4 : Bool), s.w = w ∧ Ext s0 s ∧ Le s0 s ∧ j4 = j1 ∧ f 24 = vb j4 ∧ f 0 = w0 ∧ f 1 = vi (a1)) ?_ ?_
 ·have hr := j2
  refine W_region (mv (rv w0) (ln Tryz.underlying22 (rv w0) h0 (ls (rv (vi ((a0.length : Int)))) (rv (vi 1)) (mv (rv (vb (decide ((a0.length : Int) < 1)))) ?_))))
  rcases tf (decide ((a0.length : Int) < 1)) with j5 | j5
  ·have hr := ite_t j5 hr; exact gf 12 (rv (vb (decide ((a0.length : Int) < 1)))) j5 (gf 12 (rv (vb (decide ((a0.length : Int) < 1)))) j5 (gf 12 (rv (vb (decide ((a0.length : Int) < 1)))) j5 (pt (rv (vb (decide ((a0.length : Int) < 1)))) j5 (rv (vb true)) (mv (rv (vb true)) (gf 17 (rv (vb true)) rfl (gf 17 (rv (vb true)) rfl (pt (rv (vb true)) rfl (rv (vb true)) (mv (rv (vb true)) (gf 21 (rv (vb true)) rfl (gf 21 (rv (vb true)) rfl (pt (rv (vb true)) rfl (rv (vb true)) (nn ⟨s0, true, rfl, j0, (Le.refl _), Option.some.inj hr, rfl, rfl, rfl⟩))))))))))))
  ·have hr := ite_f j5 hr
   refine gt 12 (rv (vb (decide ((a0.length : Int) < 1)))) j5 (mv (rv w0) (gt 12 (rv (vb (decide ((a0.length : Int) < 1)))) j5 (ln Tryz.underlying22 (rv w0) h0 (gt 12 (rv (vb (decide ((a0.length : Int) < 1)))) j5 (L_gtr (rv (vi ((a0.length : Int)))) (rv (vi 16)) (by decide) (pf (rv (vb (decide ((a0.length : Int) < 1)))) j5 (rv (vb (decide (16 < (a0.length : Int))))) (mv (rv (vb (decide (16 < (a0.length : Int))))) ?_)))))))
   rcases tf (decide (16 < (a0.length : Int))) with j6 | j6
   ·have hr := ite_t j6 hr; exact gf 17 (rv (vb (decide (16 < (a0.length : Int))))) j6 (gf 17 (rv (vb (decide (16 < (a0.length : Int))))) j6 (pt (rv (vb (decide (16 < (a0.length : Int))))) j6 (rv (vb true)) (mv (rv (vb true)) (gf 21 (rv (vb true)) rfl (gf 21 (rv (vb true)) rfl (pt (rv (vb true)) rfl (rv (vb true)) (nn ⟨s0, true, rfl, j0, (Le.refl _), Option.some.inj hr, rfl, rfl, rfl⟩)))))))
   ·have hr := ite_f j6 hr
    refine gt 17 (rv (vb (decide (16 < (a0.length : Int))))) j6 (mv (rv (vi a1)) (gt 17 (rv (vb (decide (16 < (a0.length : Int))))) j6 (ls (rv (vi a1)) (rv (vi 0)) (pf (rv (vb (decide (16 < (a0.length : Int))))) j6 (rv (vb (decide (a1 < 0)))) (mv (rv (vb (decide (a1 < 0)))) ?_)))))
    rcases tf (decide (a1 < 0)) with j7 | j7
    ·have hr := ite_t j7 hr; exact gf 21 (rv (vb (decide (a1 < 0)))) j7 (gf 21 (rv (vb (decide (a1 < 0)))) j7 (pt (rv (vb (decide (a1 < 0)))) j7 (rv (vb true)) (nn ⟨s0, true, rfl, j0, (Le.refl _), Option.some.inj hr, rfl, rfl, rfl⟩)))
    ·have hr := ite_f j7 hr; exact gt 21 (rv (vb (decide (a1 < 0)))) j7 (mv (rv (vi a1)) (gt 21 (rv (vb (decide (a1 < 0)))) j7 (L_gtr (rv (vi a1)) (rv (vi 16)) (by decide) (pf (rv (vb (decide (a1 < 0)))) j7 (rv (vb (decide (16 < a1)))) (nn ⟨s0, (decide (16 < a1)), rfl, j0, (Le.refl _), Option.some.inj hr, rfl, rfl, rfl⟩)))))
 ·rintro j5 j6 ⟨j7, j4, rfl, j8, j9, j2, ja, jb, jc⟩
  subst j2
  have hr := j3
  try dsimp only at hr
  refine W_cond _ ja (fun jd => ?_) (fun jd => ?_)
  ·have hr := ite_t jd hr; refine sr (asg (rv (Value.slice none 0 0)) (asg (rv (vi 3)) (nn (W_ret (then_r ?_))))); obtain rfl := Option.some.inj hr; exact done2 (Or.inl rfl) Tryz.results13 rfl rfl ⟨_, _, rfl, rfl, j8, _, _, rfl, Vnil, Vint⟩
  ·have hr := ite_f jd hr
   refine W_skip (then_n (W_seq (sr (mv jb ?_))))
   obtain ⟨je, jf, hr⟩ := bind_some hr
   refine ix Tryz.underlying22 ty23.inf (rv w0) (h0.mono j9) (rv (vi 0)) jf (fun jg jh => ld ty23 (rv jg) jh (fun ji jj => ln Tryz.underlying23 (rv ji) jj (L_gtr (rv (vi ((je.length : Int)))) (rv (vi 65536)) (by decide) (nn ?_))))
   refine W_cond _ (rv (vb (decide (65536 < (je.length : Int))))) (fun jk => ?_) (fun jk => ?_)
   ·have hr := ite_t jk hr; refine sr (asg (rv (Value.slice none 0 0)) (asg (rv (vi 8)) (nn (W_ret (then_r ?_))))); obtain rfl := Option.some.inj hr; exact done2 (Or.inl rfl) Tryz.results13 rfl rfl ⟨_, _, rfl, rfl, j8, _, _, rfl, Vnil, Vint⟩
   ·have hr := ite_f jk hr
    refine W_skip (then_n (W_seq (sr (asg (rv (vi 0)) (nn ?_)))))
    obtain ⟨jl, jm, jn⟩ := bind_some hr
    refine W_cut (fun f w => ∃ (s : St), s.w = w ∧ Ext s0 s ∧ Le j7 s ∧ Sum.inl () = jl ∧ f 0 = w0 ∧ f 1 = vi (a1)) ?_ ?_
    ·refine W_block (W_loop (fun m f w => ∃ (s : St) (jo : Int), s.w = w ∧ Ext s0 s ∧ Le j7 s ∧ ref14_Parity_l1 N a0 m jo = some jl ∧ f 6 = vi jo ∧ f 0 = w0 ∧ f 1 = vi (a1)) N ⟨j7, 0, rfl, j8, (Le.refl _), jm, rfl, jb, jc⟩ ?_)
     rintro jp jq jr ⟨js, jo, rfl, jt, ju, hr, jv, jw, jx⟩
     cases jp with
     | zero => exact absurd hr (by simp [ref14_Parity_l1])
     | succ jp =>
      rw [ref14_Parity_l1.eq_2] at hr
      refine W_seq (sr (mv jv (mv jw (ln Tryz.underlying22 (rv w0) (h0.mono (j9.trans ju)) (ls (rv (vi jo)) (rv (vi ((a0.length : Int)))) (nn ?_))))))
      refine W_cond _ (rv (vb (decide (jo < (a0.length : Int))))) (fun jy => ?_) (fun jy => ?_)
      ·have hr := ite_t jy hr
       refine W_skip (then_n (W_seq (W_block (W_seq ?_))))
       obtain ⟨jz, k0, hr⟩ := bind_some hr
       obtain ⟨k1, k2, hr⟩ := bind_some hr
       refine W_draws mixed (by kernel_rfl) [PV.data (a0 : List (List U8)), PV.eq (vi jo), PV.ptr (jz : List U8), PV.data (jz : List U8), PV.eq (vi ((jz.length : Int))), PV.data (a0 : List (List U8)), PV.ptr (k1 : List U8), PV.data (k1 : List U8), PV.eq (vi ((k1.length : Int))), PV.eq (vb (!decide ((jz.length : Int) = (k1.length : Int))))] (Steps_cons ?_ (Steps_cons ?_ (Steps_cons ?_ (Steps_cons ?_ (Steps_cons ?_ (Steps_cons ?_ (Steps_cons ?_ (Steps_cons ?_ (Steps_cons ?_ (Steps_cons ?_ Steps_nil)))))))))) ?_
       ·intro k3 k4 k5 k6 k7 Q k8; have k9 : k3 0 = w0 := (k7 0 (by kernel_rfl)).trans jw; exact mv k9 (fin k8 (h0.mono (j9.trans (ju.trans k5.le))))
       ·intro k3 k4 k5 k6 k7 Q k8; have k9 : k3 6 = vi (jo) := (k7 6 (by kernel_rfl)).trans jv; exact mv k9 (fin k8 rfl)
       ·intro k3 k4 k5 k6 k7 Q k8; have k9 : V _ (k3 36) (a0 : List (List U8)) := k6 0 36 (by kernel_rfl) (by kernel_rfl); obtain ⟨ka, kb, kc⟩ : ∃ v, _ = v ∧ V _ v _ := ⟨_, rfl, k9⟩; have kd : k3 37 = vi (jo) := k6 1 37 (by kernel_rfl) (by kernel_rfl); exact ix Tryz.underlying22 ty23.inf kb kc kd k0 (fun ke kf => fin k8 kf)
       ·intro k3 k4 k5 k6 k7 Q k8; have k9 : Ptr _ (k3 38) (jz : List U8) := k6 2 38 (by kernel_rfl) (by kernel_rfl); obtain ⟨ka, kb, kc⟩ : ∃ v, _ = v ∧ Ptr _ v _ := ⟨_, rfl, k9⟩; exact ld ty23 kb kc (fun kd ke => fin k8 ke)
       ·intro k3 k4 k5 k6 k7 Q k8; have k9 : V _ (k3 39) (jz : List U8) := k6 3 39 (by kernel_rfl) (by kernel_rfl); obtain ⟨ka, kb, kc⟩ : ∃ v, _ = v ∧ V _ v _ := ⟨_, rfl, k9⟩; exact ln Tryz.underlying23 kb kc (fin k8 rfl)
       ·intro k3 k4 k5 k6 k7 Q k8; have k9 : k3 0 = w0 := (k7 0 (by kernel_rfl)).trans jw; exact mv k9 (fin k8 (h0.mono (j9.trans (ju.trans k5.le))))
       ·intro k3 k4 k5 k6 k7 Q k8; have k9 : V _ (k3 41) (a0 : List (List U8)) := k6 5 41 (by kernel_rfl) (by kernel_rfl); obtain ⟨ka, kb, kc⟩ : ∃ v, _ = v ∧ V _ v _ := ⟨_, rfl, k9⟩; exact ix Tryz.underlying22 ty23.inf kb kc (rv (vi 0)) k2 (fun kd ke => fin k8 ke)
       ·intro k3 k4 k5 k6 k7 Q k8; have k9 : Ptr _ (k3 42) (k1 : List U8) := k6 6 42 (by kernel_rfl) (by kernel_rfl); obtain ⟨ka, kb, kc⟩ : ∃ v, _ = v ∧ Ptr _ v _ := ⟨_, rfl, k9⟩; exact ld ty23 kb kc (fun kd ke => fin k8 ke)
       ·intro k3 k4 k5 k6 k7 Q k8; have k9 : V _ (k3 43) (k1 : List U8) := k6 7 43 (by kernel_rfl) (by kernel_rfl); obtain ⟨ka, kb, kc⟩ : ∃ v, _ = v ∧ V _ v _ := ⟨_, rfl, k9⟩; exact ln Tryz.underlying23 kb kc (fin k8 rfl)
       ·intro k3 k4 k5 k6 k7 Q k8; have k9 : k3 40 = vi ((jz.length : Int)) := k6 4 40 (by kernel_rfl) (by kernel_rfl); have ka : k3 44 = vi ((k1.length : Int)) := k6 8 44 (by kernel_rfl) (by kernel_rfl); exact ne k9 ka (fin k8 rfl)
       ·intro k3 k4 k5 k6 k7
        have k8 := Tch.ext jt k5
        have k9 : k3 0 = w0 := (k7 0 (by kernel_rfl)).trans jw
        have ka : k3 1 = vi (a1) := (k7 1 (by kernel_rfl)).trans jx
        have kb : k3 6 = vi (jo) := (k7 6 (by kernel_rfl)).trans jv
        have kc : k3 45 = vb (!decide ((jz.length : Int) = (k1.length : Int))) := k6 9 45 (by kernel_rfl)
        refine then_n ?_
        refine W_cond _ kc (fun kd => ?_) (fun kd => ?_)
        ·have hr := ite_t kd hr; refine sr (asg (rv (Value.slice none 0 0)) (asg (rv (vi 26)) (nn (W_ret (block_r (then_r (then_r (block_r ?_)))))))); obtain rfl := Option.some.inj hr; have hr := jn; (try dsimp only at hr); refine then_r (then_r ?_); obtain rfl := Option.some.inj hr; exact done2 (Or.inl rfl) Tryz.results13 rfl rfl ⟨_, _, rfl, rfl, k8, _, _, rfl, Vnil, Vint⟩
        ·have hr := ite_f kd hr; refine W_skip (block_n (then_n (W_region (mv kb ?_)))); obtain ⟨ke, hr⟩ := chk_some hr; exact ad (rv (vi jo)) (rv (vi 1)) ke (asg (rv (vi (jo + 1))) (nn ⟨jp, Nat.lt_succ_self _, ⟨k4, (jo + 1), rfl, k8, (ju.trans k5.le), hr, rfl, k9, ka⟩⟩))
      ·have hr := ite_f jy hr; refine W_exit (then_x (then_x (block_here ?_))); exact then_n ⟨js, rfl, jt, ju, Option.some.inj hr, jw, jx⟩
    ·rintro jo jp ⟨jq, rfl, jr, js, jm, jt, ju⟩
     subst jm
     have hr := jn
     try dsimp only at hr
     refine then_n (sr (asg (rv (Value.slice none 0 0)) (nn (W_seq (sr (asg (rv (vi 0)) (nn ?_)))))))
     obtain ⟨jv, jw, jx⟩ := bind_some hr
     refine W_cut (fun f w => ∃ (s : St) (jy : Value) (jz : List (List U8)), s.w = w ∧ Ext s0 s ∧ Le jq s ∧ jz = jv ∧ f 7 = jy ∧ Bld s s0.w.heap.size 23 jy jz) ?_ ?_
     ·refine W_block (W_loop (fun m f w => ∃ (s : St) (k0 : Value) (k1 : List (List U8)) (k2 : Int), s.w = w ∧ Ext s0 s ∧ Le jq s ∧ ref14_Parity_l2 N a0 a1 m k1 k2 = some jv ∧ f 7 = k0 ∧ Bld s s0.w.heap.size 23 k0 k1 ∧ f 8 = vi k2 ∧ f 0 = w0 ∧ f 1 = vi (a1)) N ⟨jq, (Value.slice none 0 0), ([]), 0, rfl, jr, (Le.refl _), jw, rfl, Bld.nil, rfl, jt, ju⟩ ?_)
      rintro k3 k4 k5 ⟨k6, k0, k1, k2, rfl, k7, k8, hr, k9, ka, kb, kc, kd⟩
      cases k3 with
      | zero => exact absurd hr (by simp [ref14_Parity_l2])
      | succ k3 =>
       rw [ref14_Parity_l2.eq_2] at hr
       refine W_seq (sr (mv kb (mv kd (ls (rv (vi k2)) (rv (vi a1)) (nn ?_)))))
       refine W_cond _ (rv (vb (decide (k2 < a1)))) (fun ke => ?_) (fun ke => ?_)
       ·have hr := ite_t ke hr; refine W_skip (then_n (W_seq (W_block (W_region (mv k9 (mv kc (ln Tryz.underlying22 (rv w0) (h0.mono (j9.trans (js.trans k8))) (mv kb ?_)))))))); obtain ⟨kf, hr⟩ := chk_some hr; refine ad (rv (vi ((a0.length : Int)))) (rv (vi k2)) kf (mv kc (ln Tryz.underlying22 (rv w0) (h0.mono (j9.trans (js.trans k8))) ?_)); obtain ⟨kg, kh, hr⟩ := bind_some hr; refine L_calls cal53 (args2 (rv (vi ((a0.length : Int) + k2))) (rv (vi ((a0.length : Int))))) (ref14_weights_ok N _ ((a0.length : Int) + k2) (a0.length : Int) kg kh) (by decide) (fun ki kj kk kl => ?_); have km := Tch.ext k7 kk; refine mv kc ?_; obtain ⟨kn, ko, hr⟩ := bind_some hr; refine L_calls cal52 (args2 (rv ki) (rv w0)) (ref14_combined_ok N _ _ _ kl _ _ (h0.mono (j9.trans (js.trans (k8.trans kk.le)))) kn ko) (by decide) (fun kp kq kr ks => ?_); have kt := Tch.ext km kr; refine L_buildSlice (xs := ([kn] : List (List U8))) Tryz.underlying22 tyz23 (Parts_cons rfl (rv kp) Parts_nil) (Vs.cons ks Vs.nil) rfl (by decide) (by decide) (fun ku kv kw kx ky => ?_); have kz := Tch.ext kt kw; obtain ⟨g0, hr⟩ := chk_some hr; refine L_append (xs := k1) (B := s0.w.heap.size) Tryz.underlying22 tyz23 (rv k0) (rv kv) ((((ka).ext kk).ext kr).ext kw) (kz.size) ky g0.1 g0.2 (by decide) (fun g1 g2 g3 => ?_); have g4 := g3.tchM ((((ka).ext kk).ext kr).ext kw) kz (Nat.le_refl _); refine asg (rv g1) (L_nil (block_n (then_n (W_region (mv kb ?_))))); obtain ⟨g5, hr⟩ := chk_some hr; exact ad (rv (vi k2)) (rv (vi 1)) g5 (asg (rv (vi (k2 + 1))) (nn ⟨k3, Nat.lt_succ_self _, ⟨g2, g1, (k1 ++ ([kn] : List (List U8))), (k2 + 1), rfl, g4, (k8.trans (kk.le.trans (kr.le.trans (kw.le.trans g3.tch.le)))), hr, rfl, g3.bld, rfl, kc, kd⟩⟩))
       ·have hr := ite_f ke hr; refine W_exit (then_x (then_x (block_here ?_))); exact then_n ⟨k6, k0, k1, rfl, k7, k8, Option.some.inj hr, k9, ka⟩
     ·rintro k0 k1 ⟨k2, jy, jz, rfl, k3, k4, jw, k5, k6⟩; subst jw; have hr := jx; (try dsimp only at hr); refine then_n (sr (mv k5 ?_)); have k7 := (k6).toV; refine asg (rv jy) (asg (rv (vi 0)) (nn (W_ret ?_))); obtain rfl := Option.some.inj hr; exact done2 (Or.inl rfl) Tryz.results13 rfl rfl ⟨_, _, rfl, rfl, k3, _, _, rfl, k7, Vint⟩

theorem ref14_Divide_ok (N : Nat) (s0 : St) (w0 : Value) (a0 : List U8) (h0 : V s0 w0 a0) (a1 : Int) (a2 : Int) (r : (List (List U8)) × Int) (hr : ref14_Divide N a0 a1 a2 = some r) :
    Calls Tryz.prog 16 #[w0, .int .i64 a1, .int .i64 a2] s0.w (Ret s0 fun v s => ∃ a b, v = .tuple #[a, b] ∧ V s a r.1 ∧ V s b r.2) := by
 unfold ref14_Divide at hr
 have j0 := Ext.refl s0
 refine Calls_of (n := 89) (args := [w0, .int .i64 a1, .int .i64 a2]) Tryz.func16 rfl rfl (by simp) (sr (asg (rv (Value.slice none 0 0)) (asg (rv (vi 0)) (nn (W_seq ?_)))))
 obtain ⟨j1, j2, j3⟩ := bind_some hr
 refine W_seq_cut (fun f w => ∃ (s : St) (j4 : Bool), s.w = w ∧ Ext s0 s ∧ Le s0 s ∧ j4 = j1 ∧ f 28 = vb j4 ∧ f 0 = w0 ∧ f 1 = vi (a1) ∧ f 2 = vi (a2)) ?_ ?_
 ·have hr := j2
  refine W_region (mv (rv (vi a1)) (ls (rv (vi a1)) (rv (vi 1)) (mv (rv (vb (decide (a1 < 1)))) ?_)))
  rcases tf (decide (a1 < 1)) with j5 | j5
  ·have hr := ite_t j5 hr; exact gf 17 (rv (vb (decide (a1 < 1)))) j5 (gf 17 (rv (vb (decide (a1 < 1)))) j5 (pt (rv (vb (decide (a1 < 1)))) j5 (rv (vb true)) (mv (rv (vb true)) (gf 21 (rv (vb true)) rfl (gf 21 (rv (vb true)) rfl (pt (rv (vb true)) rfl (rv (vb true)) (mv (rv (vb true)) (gf 25 (rv (vb true)) rfl (gf 25 (rv (vb true)) rfl (pt (rv (vb true)) rfl (rv (vb true)) (nn ⟨s0, true, rfl, j0, (Le.refl _), Option.some.inj hr, rfl, rfl, rfl, rfl⟩)))))))))))
  ·have hr := ite_f j5 hr
   refine gt 17 (rv (vb (decide (a1 < 1)))) j5 (mv (rv (vi a1)) (gt 17 (rv (vb (decide (a1 < 1)))) j5 (L_gtr (rv (vi a1)) (rv (vi 16)) (by decide) (pf (rv (vb (decide (a1 < 1)))) j5 (rv (vb (decide (16 < a1)))) (mv (rv (vb (decide (16 < a1)))) ?_)))))
   rcases tf (decide (16 < a1)) with j6 | j6
   ·have hr := ite_t j6 hr; exact gf 21 (rv (vb (decide (16 < a1)))) j6 (gf 21 (rv (vb (decide (16 < a1)))) j6 (pt (rv (vb (decide (16 < a1)))) j6 (rv (vb true)) (mv (rv (vb true)) (gf 25 (rv (vb true)) rfl (gf 25 (rv (vb true)) rfl (pt (rv (vb true)) rfl (rv (vb true)) (nn ⟨s0, true, rfl, j0, (Le.refl _), Option.some.inj hr, rfl, rfl, rfl, rfl⟩)))))))
   ·have hr := ite_f j6 hr
    refine gt 21 (rv (vb (decide (16 < a1)))) j6 (mv (rv (vi a2)) (gt 21 (rv (vb (decide (16 < a1)))) j6 (ls (rv (vi a2)) (rv (vi 0)) (pf (rv (vb (decide (16 < a1)))) j6 (rv (vb (decide (a2 < 0)))) (mv (rv (vb (decide (a2 < 0)))) ?_)))))
    rcases tf (decide (a2 < 0)) with j7 | j7
    ·have hr := ite_t j7 hr; exact gf 25 (rv (vb (decide (a2 < 0)))) j7 (gf 25 (rv (vb (decide (a2 < 0)))) j7 (pt (rv (vb (decide (a2 < 0)))) j7 (rv (vb true)) (nn ⟨s0, true, rfl, j0, (Le.refl _), Option.some.inj hr, rfl, rfl, rfl, rfl⟩)))
    ·have hr := ite_f j7 hr; exact gt 25 (rv (vb (decide (a2 < 0)))) j7 (mv (rv (vi a2)) (gt 25 (rv (vb (decide (a2 < 0)))) j7 (L_gtr (rv (vi a2)) (rv (vi 16)) (by decide) (pf (rv (vb (decide (a2 < 0)))) j7 (rv (vb (decide (16 < a2)))) (nn ⟨s0, (decide (16 < a2)), rfl, j0, (Le.refl _), Option.some.inj hr, rfl, rfl, rfl, rfl⟩)))))
 ·rintro j5 j6 ⟨j7, j4, rfl, j8, j9, j2, ja, jb, jc, jd⟩
  subst j2
  have hr := j3
  try dsimp only at hr
  refine W_cond _ ja (fun je => ?_) (fun je => ?_)
  ·have hr := ite_t je hr; refine sr (asg (rv (Value.slice none 0 0)) (asg (rv (vi 3)) (nn (W_ret (then_r ?_))))); obtain rfl := Option.some.inj hr; exact done2 (Or.inl rfl) Tryz.results16 rfl rfl ⟨_, _, rfl, rfl, j8, _, _, rfl, Vnil, Vint⟩
  ·have hr := ite_f je hr
   refine W_skip (then_n (sr (mv jb (ln Tryz.underlying23 (rv w0) (h0.mono j9) (asg (rv (vi ((a0.length : Int)))) (nn (W_seq (sr (mv (rv (vi ((a0.length : Int)))) ?_)))))))))
   obtain ⟨jf, hr⟩ := chk_some hr
   refine ad (rv (vi ((a0.length : Int)))) (rv (vi 4)) jf (mv jc ?_)
   obtain ⟨jg, hr⟩ := chk_some hr
   refine L_mul (rv (vi a1)) (rv (vi 65536)) jg (by decide) (L_gtr (rv (vi ((a0.length : Int) + 4))) (rv (vi (a1 * 65536))) (by decide) (nn ?_))
   refine W_cond _ (rv (vb (decide ((a1 * 65536) < ((a0.length : Int) + 4))))) (fun jh => ?_) (fun jh => ?_)
   ·have hr := ite_t jh hr; refine sr (asg (rv (Value.slice none 0 0)) (asg (rv (vi 8)) (nn (W_ret (then_r ?_))))); obtain rfl := Option.some.inj hr; exact done2 (Or.inl rfl) Tryz.results16 rfl rfl ⟨_, _, rfl, rfl, j8, _, _, rfl, Vnil, Vint⟩
   ·have hr := ite_f jh hr
    refine W_skip (then_n (sr (mv (rv (vi ((a0.length : Int)))) ?_)))
    obtain ⟨ji, hr⟩ := chk_some hr
    refine L_quo (rv (vi ((a0.length : Int)))) (rv (vi 16777216)) ji.1 ji.2 (by decide) (L_convK Tryz.underlying3 Tryz.underlying5 (rv (vi (Int.tdiv (a0.length : Int) 16777216))) (by decide) (mv (rv (vi ((a0.length : Int)))) ?_))
    obtain ⟨jj, hr⟩ := chk_some hr
    refine L_quo (rv (vi ((a0.length : Int)))) (rv (vi 65536)) jj.1 jj.2 (by decide) (L_convK Tryz.underlying3 Tryz.underlying5 (rv (vi (Int.tdiv (a0.length : Int) 65536))) (by decide) (mv (rv (vi ((a0.length : Int)))) ?_))
    obtain ⟨jk, hr⟩ := chk_some hr
    refine L_quo (rv (vi ((a0.length : Int)))) (rv (vi 256)) jk.1 jk.2 (by decide) (L_convK Tryz.underlying3 Tryz.underlying5 (rv (vi (Int.tdiv (a0.length : Int) 256))) (by decide) (mv (rv (vi ((a0.length : Int)))) (L_convK Tryz.underlying3 Tryz.underlying5 (rv (vi ((a0.length : Int)))) (by decide) (L_buildSlice (xs := ([(⟨convK .u8 (Int.tdiv (a0.length : Int) 16777216)⟩ : U8), (⟨convK .u8 (Int.tdiv (a0.length : Int) 65536)⟩ : U8), (⟨convK .u8 (Int.tdiv (a0.length : Int) 256)⟩ : U8), (⟨convK .u8 (a0.length : Int)⟩ : U8)] : List U8)) Tryz.underlying23 tyz5 (Parts_cons rfl (rv (Value.int .u8 ((⟨convK .u8 (Int.tdiv (a0.length : Int) 16777216)⟩ : U8)).n)) (Parts_cons rfl (rv (Value.int .u8 ((⟨convK .u8 (Int.tdiv (a0.length : Int) 65536)⟩ : U8)).n)) (Parts_cons rfl (rv (Value.int .u8 ((⟨convK .u8 (Int.tdiv (a0.length : Int) 256)⟩ : U8)).n)) (Parts_cons rfl (rv (Value.int .u8 ((⟨convK .u8 (a0.length : Int)⟩ : U8)).n)) Parts_nil)))) (Vs.cons Vu8 (Vs.cons Vu8 (Vs.cons Vu8 (Vs.cons Vu8 Vs.nil)))) rfl (by decide) (by decide) (fun jl jm jn jo jp => ?_)))))
    have jq := Tch.ext j8 jn
    refine mv jb ?_
    obtain ⟨jr, hr⟩ := chk_some hr
    refine L_append (xs := ([(⟨convK .u8 (Int.tdiv (a0.length : Int) 16777216)⟩ : U8), (⟨convK .u8 (Int.tdiv (a0.length : Int) 65536)⟩ : U8), (⟨convK .u8 (Int.tdiv (a0.length : Int) 256)⟩ : U8), (⟨convK .u8 (a0.length : Int)⟩ : U8)] : List U8)) (B := s0.w.heap.size) Tryz.underlying23 tyz5 (rv jm) (rv w0) ((jo.base j8.size)) (jq.size) (h0.mono (j9.trans jn.le)) jr.1 jr.2 (by decide) (fun js jt ju => ?_)
    have jv := ju.tchM ((jo.base j8.size)) jq (Nat.le_refl _)
    refine asg (rv js) (nn (W_seq ?_))
    obtain ⟨jw, jx, jy⟩ := bind_some hr
    refine W_cut (fun f w => ∃ (s : St) (jz : Value) (k0 : List U8), s.w = w ∧ Ext s0 s ∧ Le jt s ∧ k0 = jw ∧ f 9 = jz ∧ Bld s s0.w.heap.size 5 jz k0 ∧ f 1 = vi (a1) ∧ f 2 = vi (a2)) ?_ ?_
    ·refine W_block (W_loop (fun m f w => ∃ (s : St) (k1 : Value) (k2 : List U8), s.w = w ∧ Ext s0 s ∧ Le jt s ∧ ref14_Divide_l1 N a1 m k2 = some jw ∧ f 9 = k1 ∧ Bld s s0.w.heap.size 5 k1 k2 ∧ f 1 = vi (a1) ∧ f 2 = vi (a2)) N ⟨jt, js, (([(⟨convK .u8 (Int.tdiv (a0.length : Int) 16777216)⟩ : U8), (⟨convK .u8 (Int.tdiv (a0.length : Int) 65536)⟩ : U8), (⟨convK .u8 (Int.tdiv (a0.length : Int) 256)⟩ : U8), (⟨convK .u8 (a0.length : Int)⟩ : U8)] : List U8) ++ a0), rfl, jv, (Le.refl _), jx, rfl, ju.bld, jc, jd⟩ ?_)
     rintro k3 k4 k5 ⟨k6, k1, k2, rfl, k7, k8, hr, k9, ka, kb, kc⟩
     cases k3 with
     | zero => exact absurd hr (by simp [ref14_Divide_l1])
     | succ k3 =>
      rw [ref14_Divide_l1.eq_2] at hr
      refine W_seq (sr (mv k9 ?_))
      have kd := (ka).toV
      refine ln Tryz.underlying23 (rv k1) kd (mv kb ?_)
      obtain ⟨ke, hr⟩ := chk_some hr
      refine L_rem (rv (vi ((k2.length : Int)))) (rv (vi a1)) ke (by decide) (ne (rv (vi (Int.tmod (k2.length : Int) a1))) (rv (vi 0)) (nn ?_))
      refine W_cond _ (rv (vb (!decide ((Int.tmod (k2.length : Int) a1) = 0)))) (fun kf => ?_) (fun kf => ?_)
      ·have hr := ite_t kf hr; refine W_skip (then_n (W_block (W_region (mv k9 (L_buildSlice (xs := ([(⟨0⟩ : U8)] : List U8)) Tryz.underlying23 tyz5 (Parts_cons rfl (rv (Value.int .u8 ((⟨0⟩ : U8)).n)) Parts_nil) (Vs.cons Vu8 Vs.nil) rfl (by decide) (by decide) (fun kg kh ki kj kk => ?_)))))); have kl := Tch.ext k7 ki; obtain ⟨km, hr⟩ := chk_some hr; refine L_append (xs := k2) (B := s0.w.heap.size) Tryz.underlying23 tyz5 (rv k1) (rv kh) ((ka).ext ki) (kl.size) kk km.1 km.2 (by decide) (fun kn ko kp => ?_); have kq := kp.tchM ((ka).ext ki) kl (Nat.le_refl _); refine asg (rv kn) (L_nil (block_n ?_)); exact then_n ⟨k3, Nat.lt_succ_self _, ⟨ko, kn, (k2 ++ ([(⟨0⟩ : U8)] : List U8)), rfl, kq, (k8.trans (ki.le.trans kp.tch.le)), hr, rfl, kp.bld, kb, kc⟩⟩
      ·have hr := ite_f kf hr; refine W_exit (then_x (then_x (block_here ?_))); exact then_n ⟨k6, k1, k2, rfl, k7, k8, Option.some.inj hr, k9, ka, kb, kc⟩
    ·rintro k1 k2 ⟨k3, jz, k0, rfl, k4, k5, jx, k6, k7, k8, k9⟩
     subst jx
     have hr := jy
     try dsimp only at hr
     refine then_n (sr (asg (rv (Value.slice none 0 0)) (nn (sr (mv k6 ?_)))))
     have ka := (k7).toV
     refine ln Tryz.underlying23 (rv jz) ka (mv k8 ?_)
     obtain ⟨kb, hr⟩ := chk_some hr
     refine L_quo (rv (vi ((k0.length : Int)))) (rv (vi a1)) kb.1 kb.2 (by decide) (asg (rv (vi (Int.tdiv (k0.length : Int) a1))) (nn (W_seq (sr (asg (rv (vi 0)) (nn ?_))))))
     obtain ⟨kc, kd, ke⟩ := bind_some hr
     refine W_cut (fun f w => ∃ (s : St) (kf : Value) (kg : List (List U8)), s.w = w ∧ Ext s0 s ∧ Le k3 s ∧ kg = kc ∧ f 10 = kf ∧ Bld s s0.w.heap.size 23 kf kg ∧ f 2 = vi (a2)) ?_ ?_
     ·refine W_block (W_loop (fun m f w => ∃ (s : St) (kh : Value) (ki : List (List U8)) (kj : Int), s.w = w ∧ Ext s0 s ∧ Le k3 s ∧ ref14_Divide_l2 N a1 k0 m ki kj = some kc ∧ f 10 = kh ∧ Bld s s0.w.heap.size 23 kh ki ∧ f 12 = vi kj ∧ f 1 = vi (a1) ∧ f 2 = vi (a2) ∧ f 9 = jz ∧ f 11 = vi (Int.tdiv (k0.length : Int) a1) ∧ Bld s s0.w.heap.size 5 jz k0 ∧ (∀ k, (own kh) k → ¬ (own jz) k)) N ⟨k3, (Value.slice none 0 0), ([]), 0, rfl, k4, (Le.refl _), kd, rfl, Bld.nil, rfl, k8, k9, k6, rfl, k7, (fun k h => absurd h own_nil)⟩ ?_)
      rintro kk kl km ⟨kn, kh, ki, kj, rfl, ko, kp, hr, kq, kr, ks, kt, ku, kv, kw, kx, ky⟩
      cases kk with
      | zero => exact absurd hr (by simp [ref14_Divide_l2])
      | succ kk =>
       rw [ref14_Divide_l2.eq_2] at hr
       refine W_seq (sr (mv ks (mv kt (ls (rv (vi kj)) (rv (vi a1)) (nn ?_)))))
       refine W_cond _ (rv (vb (decide (kj < a1)))) (fun kz => ?_) (fun kz => ?_)
       ·have hr := ite_t kz hr; refine W_skip (then_n (W_seq (W_block (W_region (mv kq (mv kv ?_)))))); have g0 := (kx).toV; refine mv ks (mv kw ?_); obtain ⟨g1, hr⟩ := chk_some hr; refine L_mul (rv (vi kj)) (rv (vi (Int.tdiv (k0.length : Int) a1))) g1 (by decide) (mv ks ?_); obtain ⟨g2, hr⟩ := chk_some hr; refine ad (rv (vi kj)) (rv (vi 1)) g2 (mv kw ?_); obtain ⟨g3, hr⟩ := chk_some hr; refine L_mul (rv (vi (kj + 1))) (rv (vi (Int.tdiv (k0.length : Int) a1))) g3 (by decide) ?_; obtain ⟨g4, g5, hr⟩ := bind_some hr; refine L_slice_lh Tryz.underlying23 ty5.inf (rv jz) g0 (rv (vi (kj * (Int.tdiv (k0.length : Int) a1)))) (rv (vi ((kj + 1) * (Int.tdiv (k0.length : Int) a1)))) g5 (by decide) (fun g6 g7 => L_buildSlice (xs := ([g4] : List (List U8))) Tryz.underlying22 tyz23 (Parts_cons rfl (rv g6) Parts_nil) (Vs.cons g7 Vs.nil) rfl (by decide) (by decide) (fun g8 g9 ga gb gc => ?_)); have gd := Tch.ext ko ga; obtain ⟨gg, hr⟩ := chk_some hr; refine L_append (xs := ki) (B := s0.w.heap.size) Tryz.underlying22 tyz23 (rv kh) (rv g9) ((kr).ext ga) (gd.size) gc gg.1 gg.2 (by decide) (fun gh gi gj => ?_); have gk := gj.tchM ((kr).ext ga) gd (Nat.le_refl _); have gl := gj.apart ((kx).ext ga) (fun k hk hm => ky k hm hk); refine asg (rv gh) (L_nil (block_n (then_n (W_region (mv ks ?_))))); obtain ⟨gm, hr⟩ := chk_some hr; exact ad (rv (vi kj)) (rv (vi 1)) gm (asg (rv (vi (kj + 1))) (nn ⟨kk, Nat.lt_succ_self _, ⟨gi, gh, (ki ++ ([g4] : List (List U8))), (kj + 1), rfl, gk, (kp.trans (ga.le.trans gj.tch.le)), hr, rfl, gj.bld, rfl, kt, ku, kv, kw, ((kx).ext ga).tch gj.tch (fun k hk hm => ky k hm hk), (fun k hk hm => gl k hm hk)⟩⟩))
       ·have hr := ite_f kz hr; refine W_exit (then_x (then_x (block_here ?_))); exact then_n ⟨kn, kh, ki, rfl, ko, kp, Option.some.inj hr, kq, kr, ku⟩
     ·rintro kh ki ⟨kj, kf, kg, rfl, kk, kl, kd, km, kn, ko⟩; subst kd; have hr := ke; (try dsimp only at hr); refine then_n (sr (mv km ?_)); have kp := (kn).toV; refine mv ko ?_; obtain ⟨kq, kr, hr⟩ := bind_some hr; refine L_calls cal13 (args2 (rv kf) (rv (vi a2))) (ref14_Parity_ok N _ _ _ kp a2 kq kr) (by decide) (fun ks kt ku kv => ?_); have kw := Tch.ext kk ku; obtain ⟨kx, ky, rfl, kz, g0⟩ := kv; obtain rfl := g0.int; refine mv (rv (Value.tuple #[kx, vi (kq.2)])) (xt (rv (Value.tuple #[kx, vi (kq.2)])) (k := 0) rfl (xt (rv (Value.tuple #[kx, vi (kq.2)])) (k := 1) rfl (asg (rv kx) (asg (rv (vi (kq.2))) (nn (sr (mv km (mv (rv kx) ?_)))))))); obtain ⟨g1, hr⟩ := chk_some hr; refine L_append (xs := kg) (B := s0.w.heap.size) Tryz.underlying22 tyz23 (rv kf) (rv kx) ((kn).ext ku) (kw.size) kz g1.1 g1.2 (by decide) (fun g2 g3 g4 => ?_); have g5 := g4.tchM ((kn).ext ku) kw (Nat.le_refl _); refine mv (rv (vi (kq.2))) (asg (rv g2) (asg (rv (vi (kq.2))) (nn (W_ret ?_)))); obtain rfl := Option.some.inj hr; exact done2 (Or.inl rfl) Tryz.results16 rfl rfl ⟨_, _, rfl, rfl, g5, _, _, rfl, (g4.bld).toV, Vint⟩

theorem check_field_inverse_ok (N : Nat) (s0 : St) (w0 : Value) (a0 : Field) (h0 : Ptr s0 w0 a0) (a1 : U8) (r : U8) (hr : check_field_inverse N a0 a1 = some r) :
    Calls Tryz.prog 106 #[w0, .int .u8 a1.n] s0.w (Ret s0 fun v s => V s v r) := by
 unfold check_field_inverse at hr
 have j0 := Ext.refl s0
 refine Calls_of (n := 17) (args := [w0, .int .u8 a1.n]) Tryz.func106 rfl rfl (by simp) (sr (asg (rv (Value.int .u8 ((⟨0⟩ : U8)).n)) (nn (W_seq ?_))))
 obtain ⟨j1, j2, hr⟩ := bind_some hr
 obtain ⟨j3, hr⟩ := chk_some hr
 obtain ⟨j4, j5, hr⟩ := bind_some hr
 refine W_draws mixed (by kernel_rfl) [PV.ptr (a0 : Field), PV.ptr (a0 : Field), PV.eq (Value.int .u8 (a1).n), PV.ptr (a0 : Field), PV.ptr (a0.log : AV 256 Int), PV.ptr (j1 : Int), PV.eq (vi j1), PV.eq (vi (255 - j1)), PV.ptr (a0 : Field), PV.ptr (a0.power : AV 510 U8), PV.ptr (j4 : U8), PV.eq (Value.int .u8 (j4).n), PV.eq (Value.int .u8 (j4).n)] (Steps_cons ?_ (Steps_cons ?_ (Steps_cons ?_ (Steps_cons ?_ (Steps_cons ?_ (Steps_cons ?_ (Steps_cons ?_ (Steps_cons ?_ (Steps_cons ?_ (Steps_cons ?_ (Steps_cons ?_ (Steps_cons ?_ (Steps_cons ?_ Steps_nil))))))))))))) ?_
 ·intro j6 j7 j8 j9 ja Q jb; have jc : j6 0 = w0 := (ja 0 (by kernel_rfl)).trans rfl; exact mv jc (fin jb (h0.mono j8.le))
 ·intro j6 j7 j8 j9 ja Q jb; have jc : j6 0 = w0 := (ja 0 (by kernel_rfl)).trans rfl; exact mv jc (fin jb (h0.mono j8.le))
 ·intro j6 j7 j8 j9 ja Q jb; have jc : j6 1 = Value.int .u8 (a1).n := (ja 1 (by kernel_rfl)).trans rfl; exact mv jc (fin jb rfl)
 ·intro j6 j7 j8 j9 ja Q jb; have jc : Ptr _ (j6 6) (a0 : Field) := j9 1 6 (by kernel_rfl) (by kernel_rfl); obtain ⟨jd, je, jf⟩ : ∃ v, _ = v ∧ Ptr _ v _ := ⟨_, rfl, jc⟩; exact L_nilCheck_ptr je jf (by decide) (fin jb jf)
 ·intro j6 j7 j8 j9 ja Q jb; have jc : Ptr _ (j6 8) (a0 : Field) := j9 3 8 (by kernel_rfl) (by kernel_rfl); obtain ⟨jd, je, jf⟩ : ∃ v, _ = v ∧ Ptr _ v _ := ⟨_, rfl, jc⟩; exact fa fld193_1 Field.of_log je jf (fun jg jh => fin jb jh)
 ·intro j6 j7 j8 j9 ja Q jb; have jc : j6 7 = Value.int .u8 (a1).n := j9 2 7 (by kernel_rfl) (by kernel_rfl); have jd : Ptr _ (j6 9) (a0.log : AV 256 Int) := j9 4 9 (by kernel_rfl) (by kernel_rfl); obtain ⟨je, jf, jg⟩ : ∃ v, _ = v ∧ Ptr _ v _ := ⟨_, rfl, jd⟩; exact L_indexAV Tryz.underlying191 ty3.inf jf jg jc j2 (by decide) (fun jh ji => fin jb ji)
 ·intro j6 j7 j8 j9 ja Q jb; have jc : Ptr _ (j6 10) (j1 : Int) := j9 5 10 (by kernel_rfl) (by kernel_rfl); obtain ⟨jd, je, jf⟩ : ∃ v, _ = v ∧ Ptr _ v _ := ⟨_, rfl, jc⟩; exact li ty3 je jf (fin jb rfl)
 ·intro j6 j7 j8 j9 ja Q jb; have jc : j6 11 = vi (j1) := j9 6 11 (by kernel_rfl) (by kernel_rfl); exact L_sub (rv (vi 255)) jc j3 (by decide) (fin jb rfl)
 ·intro j6 j7 j8 j9 ja Q jb; have jc : Ptr _ (j6 5) (a0 : Field) := j9 0 5 (by kernel_rfl) (by kernel_rfl); obtain ⟨jd, je, jf⟩ : ∃ v, _ = v ∧ Ptr _ v _ := ⟨_, rfl, jc⟩; exact L_nilCheck_ptr je jf (by decide) (fin jb jf)
 ·intro j6 j7 j8 j9 ja Q jb; have jc : Ptr _ (j6 13) (a0 : Field) := j9 8 13 (by kernel_rfl) (by kernel_rfl); obtain ⟨jd, je, jf⟩ : ∃ v, _ = v ∧ Ptr _ v _ := ⟨_, rfl, jc⟩; exact fa fld193_0 Field.of_power je jf (fun jg jh => fin jb jh)
 ·intro j6 j7 j8 j9 ja Q jb; have jc : j6 12 = vi (255 - j1) := j9 7 12 (by kernel_rfl) (by kernel_rfl); have jd : Ptr _ (j6 14) (a0.power : AV 510 U8) := j9 9 14 (by kernel_rfl) (by kernel_rfl); obtain ⟨je, jf, jg⟩ : ∃ v, _ = v ∧ Ptr _ v _ := ⟨_, rfl, jd⟩; exact L_indexAV Tryz.underlying190 ty5.inf jf jg jc j5 (by decide) (fun jh ji => fin jb ji)
 ·intro j6 j7 j8 j9 ja Q jb; have jc : Ptr _ (j6 15) (j4 : U8) := j9 10 15 (by kernel_rfl) (by kernel_rfl); obtain ⟨jd, je, jf⟩ : ∃ v, _ = v ∧ Ptr _ v _ := ⟨_, rfl, jc⟩; exact L_load_u8 ty5 je jf (by decide) (fin jb rfl)
 ·intro j6 j7 j8 j9 ja Q jb; have jc : j6 16 = Value.int .u8 (j4).n := j9 11 16 (by kernel_rfl) (by kernel_rfl); exact asg jc (fin jb rfl)
 ·intro j6 j7 j8 j9 ja; have jb := Tch.ext j0 j8; have jc : j6 4 = Value.int .u8 (j4).n := j9 12 4 (by kernel_rfl); refine then_n (W_ret ?_); obtain rfl := Option.some.inj hr; exact done1 (Or.inl rfl) Tryz.results106 jc ⟨_, _, rfl, rfl, jb, Vu8⟩

theorem check_field_row_ok (N : Nat) (s0 : St) (w0 : Value) (a0 : Field) (h0 : Ptr s0 w0 a0) (a1 : Int) (a2 : Int) (r : (List U8)) (hr : check_field_row N a0 a1 a2 = some r) :
    Calls Tryz.prog 99 #[w0, .int .i64 a1, .int .i64 a2] s0.w (Ret s0 fun v s => V s v r) := by
 unfold check_field_row at hr
 have j0 := Ext.refl s0
 refine Calls_of (n := 37) (args := [w0, .int .i64 a1, .int .i64 a2]) Tryz.func99 rfl rfl (by simp) (sr (asg (rv (Value.slice none 0 0)) (nn (sr (mv (rv (vi a2)) ?_)))))
 obtain ⟨j1, hr⟩ := chk_some hr
 refine L_makeArr (x0 := (⟨0⟩ : U8)) Tryz.underlying23 tyz5 (rv (vi a2)) j1.1 j1.2.1 j1.2.2 (fun _ => rfl) (by decide) (fun j2 j3 j4 j5 j6 => ?_)
 have j7 := Tch.ext j0 j4
 refine asg (rv (Value.slice (some ⟨j3, 0, none⟩) (a2).toNat (a2).toNat)) (nn (W_seq (sr (mv (rv (vi a1)) (mv (rv (vi a2)) (ls (rv (vi a1)) (rv (vi a2)) (nn ?_)))))))
 refine W_cond _ (rv (vb (decide (a1 < a2)))) (fun j8 => ?_) (fun j8 => ?_)
 ·have hr := ite_t j8 hr; refine sr (mv (rv (Value.slice (some ⟨j3, 0, none⟩) (a2).toNat (a2).toNat)) (mv (rv (vi a1)) ?_)); obtain ⟨j9, ja, hr⟩ := bind_some hr; refine L_indexA (sz := 1) Tryz.underlying23 ty5.inf (rv (Value.slice (some ⟨j3, 0, none⟩) (a2).toNat (a2).toNat)) (rv (vi a1)) (idx_some ja).1 (by have := (idx_some ja).2.1; have := (j6).1; omega) (by decide) (L_storeA (xs := (List.replicate (a2).toNat (⟨0⟩ : U8))) ty5 (rv (Value.pointer (some ⟨j3, (a1).toNat * 1, none⟩))) (rv (Value.int .u8 ((⟨1⟩ : U8)).n)) Vu8 (j6) ja (fun jb jc jd => ?_)); have je := Tch.trans j7 jc (fun k hk => Or.inr (by subst hk; exact (Nat.le_trans j0.size j5))); refine nn (sr (mv (rv (Value.slice (some ⟨j3, 0, none⟩) (a2).toNat (a2).toNat)) (asg (rv (Value.slice (some ⟨j3, 0, none⟩) (a2).toNat (a2).toNat)) (nn (W_ret (then_r ?_)))))); obtain rfl := Option.some.inj hr; obtain ⟨jf, jg, jh, ji⟩ := (jd).freeze; have jj := Tch.trans je jh (fun k hk => Or.inr (by subst hk; exact (Nat.le_trans j0.size j5))); exact done1 (Or.inl rfl) Tryz.results99 rfl ⟨_, _, rfl, jg, jj, ji⟩
 ·have hr := ite_f j8 hr
  refine W_skip (then_n (W_seq (sr (mv (rv (Value.slice (some ⟨j3, 0, none⟩) (a2).toNat (a2).toNat)) (L_lenA Tryz.underlying23 (rv (Value.slice (some ⟨j3, 0, none⟩) (a2).toNat (a2).toNat)) (by decide) (mv (rv (vi 0)) (nn ?_)))))))
  obtain ⟨j9, ja, jb⟩ := bind_some hr
  refine W_cut (fun f w => ∃ (s : St) (jc : List U8), s.w = w ∧ Ext s0 s ∧ Le j2 s ∧ jc = j9 ∧ f 7 = Value.slice (some ⟨j3, 0, none⟩) (a2).toNat (a2).toNat ∧ Arr s j3 5 (a2).toNat jc) ?_ ?_
  ·refine W_block (W_loop (fun m f w => ∃ (s : St) (jd : Int) (je : List U8), s.w = w ∧ Ext s0 s ∧ Le j2 s ∧ check_field_row_l1 N a0 a1 a2 m jd je = some j9 ∧ f 20 = vi jd ∧ f 0 = w0 ∧ f 1 = vi (a1) ∧ f 2 = vi (a2) ∧ f 7 = Value.slice (some ⟨j3, 0, none⟩) (a2).toNat (a2).toNat ∧ f 19 = vi ((((a2).toNat : Nat) : Int)) ∧ Arr s j3 5 (a2).toNat je) N ⟨j2, 0, (List.replicate (a2).toNat (⟨0⟩ : U8)), rfl, j7, (Le.refl _), ja, rfl, rfl, rfl, rfl, rfl, rfl, j6⟩ ?_)
   rintro jf jg jh ⟨ji, jd, je, rfl, jj, jk, hr, jl, jm, jn, jo, jp, jq, jr⟩
   cases jf with
   | zero => exact absurd hr (by simp [check_field_row_l1])
   | succ jf =>
    rw [check_field_row_l1.eq_2] at hr
    refine sr (ls jl jq (nn (W_seq ?_)))
    refine W_cond _ (rfl : _ = vb (decide (jd < (((a2).toNat : Nat) : Int)))) (fun js => ?_) (fun js => ?_)
    ·have hr := ite_t js hr; refine W_skip (then_n (W_seq (W_block (sr (mv jl (asg (rv (vi jd)) (nn (W_region (mv jp (mv (rv (vi jd)) (mv jm (mv jn (mv jo ?_))))))))))))); obtain ⟨jt, hr⟩ := chk_some hr; refine L_sub (rv (vi a1)) (rv (vi a2)) jt (by decide) (mv (rv (vi jd)) ?_); obtain ⟨ju, hr⟩ := chk_some hr; refine ad (rv (vi 16)) (rv (vi jd)) ju (L_xorK (rv (vi (a1 - a2))) (rv (vi (16 + jd))) (by decide) (L_convK Tryz.underlying3 Tryz.underlying5 (rv (vi (xorK .i64 (a1 - a2) (16 + jd)))) (by decide) ?_)); obtain ⟨jv, jw, hr⟩ := bind_some hr; refine L_calls cal106 (args2 (rv w0) (rv (Value.int .u8 ((⟨convK .u8 (xorK .i64 (a1 - a2) (16 + jd))⟩ : U8)).n))) (check_field_inverse_ok N _ _ _ (h0.mono (j4.le.trans jk)) (⟨convK .u8 (xorK .i64 (a1 - a2) (16 + jd))⟩ : U8) jv jw) (by decide) (fun jx jy jz k0 => ?_); have k1 := Tch.ext jj jz; obtain rfl := k0.u8; obtain ⟨k2, k3, hr⟩ := bind_some hr; refine L_indexA (sz := 1) Tryz.underlying23 ty5.inf (rv (Value.slice (some ⟨j3, 0, none⟩) (a2).toNat (a2).toNat)) (rv (vi jd)) (idx_some k3).1 (by have := (idx_some k3).2.1; have := ((jr).ext jz).1; omega) (by decide) (L_storeA (xs := je) ty5 (rv (Value.pointer (some ⟨j3, (jd).toNat * 1, none⟩))) (rv (Value.int .u8 (jv).n)) Vu8 ((jr).ext jz) k3 (fun k4 k5 k6 => ?_)); have k7 := Tch.trans k1 k5 (fun k hk => Or.inr (by subst hk; exact (Nat.le_trans j0.size j5))); refine L_nil (block_n (then_n (W_region ?_))); obtain ⟨k8, hr⟩ := chk_some hr; exact ad jl (rv (vi 1)) k8 (mv (rv (vi (jd + 1))) (nn ⟨jf, Nat.lt_succ_self _, ⟨k4, (jd + 1), (je.set (jd).toNat jv), rfl, k7, (jk.trans (jz.le.trans k5.le)), hr, rfl, jm, jn, jo, jp, jq, k6⟩⟩))
    ·have hr := ite_f js hr; refine W_exit (then_x (then_x (block_here ?_))); exact then_n ⟨ji, je, rfl, jj, jk, Option.some.inj hr, jp, jr⟩
  ·rintro jd je ⟨jf, jc, rfl, jg, jh, ja, ji, jj⟩; subst ja; have hr := jb; (try dsimp only at hr); refine then_n (sr (mv ji (asg (rv (Value.slice (some ⟨j3, 0, none⟩) (a2).toNat (a2).toNat)) (nn (W_ret ?_))))); obtain rfl := Option.some.inj hr; obtain ⟨jk, jl, jm, jn⟩ := (jj).freeze; have jo := Tch.trans jg jm (fun k hk => Or.inr (by subst hk; exact (Nat.le_trans j0.size j5))); exact done1 (Or.inl rfl) Tryz.results99 rfl ⟨_, _, rfl, jl, jo, jn⟩

theorem check_field_mul_ok (N : Nat) (s0 : St) (w0 : Value) (a0 : Field) (h0 : Ptr s0 w0 a0) (a1 : U8) (a2 : U8) (r : U8) (hr : check_field_mul N a0 a1 a2 = some r) :
    Calls Tryz.prog 130 #[w0, .int .u8 a1.n, .int .u8 a2.n] s0.w (Ret s0 fun v s => V s v r) := by
 unfold check_field_mul at hr
 have j0 := Ext.refl s0
 refine Calls_of (n := 31) (args := [w0, .int .u8 a1.n, .int .u8 a2.n]) Tryz.func130 rfl rfl (by simp) (sr (asg (rv (Value.int .u8 ((⟨0⟩ : U8)).n)) (nn (W_seq ?_))))
 obtain ⟨j1, j2, j3⟩ := bind_some hr
 refine W_seq_cut (fun f w => ∃ (s : St) (j4 : Bool), s.w = w ∧ Ext s0 s ∧ Le s0 s ∧ j4 = j1 ∧ f 12 = vb j4 ∧ f 0 = w0 ∧ f 1 = Value.int .u8 (a1).n ∧ f 2 = Value.int .u8 (a2).n) ?_ ?_
 ·have hr := j2
  refine W_region (mv (rv (Value.int .u8 (a1).n)) (el (rv (Value.int .u8 (a1).n)) (rv (Value.int .u8 ((⟨0⟩ : U8)).n)) (mv (rv (vb (decide (a1.n = (⟨0⟩ : U8).n)))) ?_)))
  rcases tf (decide (a1.n = (⟨0⟩ : U8).n)) with j5 | j5
  ·have hr := ite_t j5 hr; exact gf 9 (rv (vb (decide (a1.n = (⟨0⟩ : U8).n)))) j5 (gf 9 (rv (vb (decide (a1.n = (⟨0⟩ : U8).n)))) j5 (pt (rv (vb (decide (a1.n = (⟨0⟩ : U8).n)))) j5 (rv (vb true)) (nn ⟨s0, true, rfl, j0, (Le.refl _), Option.some.inj hr, rfl, rfl, rfl, rfl⟩)))
  ·have hr := ite_f j5 hr; exact gt 9 (rv (vb (decide (a1.n = (⟨0⟩ : U8).n)))) j5 (mv (rv (Value.int .u8 (a2).n)) (gt 9 (rv (vb (decide (a1.n = (⟨0⟩ : U8).n)))) j5 (el (rv (Value.int .u8 (a2).n)) (rv (Value.int .u8 ((⟨0⟩ : U8)).n)) (pf (rv (vb (decide (a1.n = (⟨0⟩ : U8).n)))) j5 (rv (vb (decide (a2.n = (⟨0⟩ : U8).n)))) (nn ⟨s0, (decide (a2.n = (⟨0⟩ : U8).n)), rfl, j0, (Le.refl _), Option.some.inj hr, rfl, rfl, rfl, rfl⟩)))))
 ·rintro j5 j6 ⟨j7, j4, rfl, j8, j9, j2, ja, jb, jc, jd⟩
  subst j2
  have hr := j3
  try dsimp only at hr
  refine W_cond _ ja (fun je => ?_) (fun je => ?_)
  ·have hr := ite_t je hr; refine sr (asg (rv (Value.int .u8 ((⟨0⟩ : U8)).n)) (nn (W_ret (then_r ?_)))); obtain rfl := Option.some.inj hr; exact done1 (Or.inl rfl) Tryz.results130 rfl ⟨_, _, rfl, rfl, j8, Vu8⟩
  ·have hr := ite_f je hr
   refine W_skip (then_n (W_seq ?_))
   obtain ⟨jf, jg, hr⟩ := bind_some hr
   obtain ⟨jh, ji, hr⟩ := bind_some hr
   obtain ⟨jj, hr⟩ := chk_some hr
   obtain ⟨jk, jl, hr⟩ := bind_some hr
   refine W_draws mixed (by kernel_rfl) [PV.ptr (a0 : Field), PV.ptr (a0 : Field), PV.eq (Value.int .u8 (a1).n), PV.ptr (a0 : Field), PV.ptr (a0.log : AV 256 Int), PV.ptr (jf : Int), PV.eq (vi jf), PV.ptr (a0 : Field), PV.eq (Value.int .u8 (a2).n), PV.ptr (a0 : Field), PV.ptr (a0.log : AV 256 Int), PV.ptr (jh : Int), PV.eq (vi jh), PV.eq (vi (jf + jh)), PV.ptr (a0 : Field), PV.ptr (a0.power : AV 510 U8), PV.ptr (jk : U8), PV.eq (Value.int .u8 (jk).n), PV.eq (Value.int .u8 (jk).n)] (Steps_cons ?_ (Steps_cons ?_ (Steps_cons ?_ (Steps_cons ?_ (Steps_cons ?_ (Steps_cons ?_ (Steps_cons ?_ (Steps_cons ?_ (Steps_cons ?_ (Steps_cons ?_ (Steps_cons ?_ (Steps_cons ?_ (Steps_cons ?_ (Steps_cons ?_ (Steps_cons ?_ (Steps_cons ?_ (Steps_cons ?_ (Steps_cons ?_ (Steps_cons ?_ Steps_nil))))))))))))))))))) ?_
   ·intro jm jn jo jp jq Q jr; have js : jm 0 = w0 := (jq 0 (by kernel_rfl)).trans jb; exact mv js (fin jr (h0.mono (j9.trans jo.le)))
   ·intro jm jn jo jp jq Q jr; have js : jm 0 = w0 := (jq 0 (by kernel_rfl)).trans jb; exact mv js (fin jr (h0.mono (j9.trans jo.le)))
   ·intro jm jn jo jp jq Q jr; have js : jm 1 = Value.int .u8 (a1).n := (jq 1 (by kernel_rfl)).trans jc; exact mv js (fin jr rfl)
   ·intro jm jn jo jp jq Q jr; have js : Ptr _ (jm 14) (a0 : Field) := jp 1 14 (by kernel_rfl) (by kernel_rfl); obtain ⟨jt, ju, jv⟩ : ∃ v, _ = v ∧ Ptr _ v _ := ⟨_, rfl, js⟩; exact L_nilCheck_ptr ju jv (by decide) (fin jr jv)
   ·intro jm jn jo jp jq Q jr; have js : Ptr _ (jm 16) (a0 : Field) := jp 3 16 (by kernel_rfl) (by kernel_rfl); obtain ⟨jt, ju, jv⟩ : ∃ v, _ = v ∧ Ptr _ v _ := ⟨_, rfl, js⟩; exact fa fld193_1 Field.of_log ju jv (fun jw jx => fin jr jx)
   ·intro jm jn jo jp jq Q jr; have js : jm 15 = Value.int .u8 (a1).n := jp 2 15 (by kernel_rfl) (by kernel_rfl); have jt : Ptr _ (jm 17) (a0.log : AV 256 Int) := jp 4 17 (by kernel_rfl) (by kernel_rfl); obtain ⟨ju, jv, jw⟩ : ∃ v, _ = v ∧ Ptr _ v _ := ⟨_, rfl, jt⟩; exact L_indexAV Tryz.underlying191 ty3.inf jv jw js jg (by decide) (fun jx jy => fin jr jy)
   ·intro jm jn jo jp jq Q jr; have js : Ptr _ (jm 18) (jf : Int) := jp 5 18 (by kernel_rfl) (by kernel_rfl); obtain ⟨jt, ju, jv⟩ : ∃ v, _ = v ∧ Ptr _ v _ := ⟨_, rfl, js⟩; exact li ty3 ju jv (fin jr rfl)
   ·intro jm jn jo jp jq Q jr; have js : jm 0 = w0 := (jq 0 (by kernel_rfl)).trans jb; exact mv js (fin jr (h0.mono (j9.trans jo.le)))
   ·intro jm jn jo jp jq Q jr; have js : jm 2 = Value.int .u8 (a2).n := (jq 2 (by kernel_rfl)).trans jd; exact mv js (fin jr rfl)
   ·intro jm jn jo jp jq Q jr; have js : Ptr _ (jm 20) (a0 : Field) := jp 7 20 (by kernel_rfl) (by kernel_rfl); obtain ⟨jt, ju, jv⟩ : ∃ v, _ = v ∧ Ptr _ v _ := ⟨_, rfl, js⟩; exact L_nilCheck_ptr ju jv (by decide) (fin jr jv)
   ·intro jm jn jo jp jq Q jr; have js : Ptr _ (jm 22) (a0 : Field) := jp 9 22 (by kernel_rfl) (by kernel_rfl); obtain ⟨jt, ju, jv⟩ : ∃ v, _ = v ∧ Ptr _ v _ := ⟨_, rfl, js⟩; exact fa fld193_1 Field.of_log ju jv (fun jw jx => fin jr jx)
   ·intro jm jn jo jp jq Q jr; have js : jm 21 = Value.int .u8 (a2).n := jp 8 21 (by kernel_rfl) (by kernel_rfl); have jt : Ptr _ (jm 23) (a0.log : AV 256 Int) := jp 10 23 (by kernel_rfl) (by kernel_rfl); obtain ⟨ju, jv, jw⟩ : ∃ v, _ = v ∧ Ptr _ v _ := ⟨_, rfl, jt⟩; exact L_indexAV Tryz.underlying191 ty3.inf jv jw js ji (by decide) (fun jx jy => fin jr jy)
   ·intro jm jn jo jp jq Q jr; have js : Ptr _ (jm 24) (jh : Int) := jp 11 24 (by kernel_rfl) (by kernel_rfl); obtain ⟨jt, ju, jv⟩ : ∃ v, _ = v ∧ Ptr _ v _ := ⟨_, rfl, js⟩; exact li ty3 ju jv (fin jr rfl)
   ·intro jm jn jo jp jq Q jr; have js : jm 19 = vi (jf) := jp 6 19 (by kernel_rfl) (by kernel_rfl); have jt : jm 25 = vi (jh) := jp 12 25 (by kernel_rfl) (by kernel_rfl); exact ad js jt jj (fin jr rfl)
   ·intro jm jn jo jp jq Q jr; have js : Ptr _ (jm 13) (a0 : Field) := jp 0 13 (by kernel_rfl) (by kernel_rfl); obtain ⟨jt, ju, jv⟩ : ∃ v, _ = v ∧ Ptr _ v _ := ⟨_, rfl, js⟩; exact L_nilCheck_ptr ju jv (by decide) (fin jr jv)
   ·intro jm jn jo jp jq Q jr; have js : Ptr _ (jm 27) (a0 : Field) := jp 14 27 (by kernel_rfl) (by kernel_rfl); obtain ⟨jt, ju, jv⟩ : ∃ v, _ = v ∧ Ptr _ v _ := ⟨_, rfl, js⟩; exact fa fld193_0 Field.of_power ju jv (fun jw jx => fin jr jx)
   ·intro jm jn jo jp jq Q jr; have js : jm 26 = vi (jf + jh) := jp 13 26 (by kernel_rfl) (by kernel_rfl); have jt : Ptr _ (jm 28) (a0.power : AV 510 U8) := jp 15 28 (by kernel_rfl) (by kernel_rfl); obtain ⟨ju, jv, jw⟩ : ∃ v, _ = v ∧ Ptr _ v _ := ⟨_, rfl, jt⟩; exact L_indexAV Tryz.underlying190 ty5.inf jv jw js jl (by decide) (fun jx jy => fin jr jy)
   ·intro jm jn jo jp jq Q jr; have js : Ptr _ (jm 29) (jk : U8) := jp 16 29 (by kernel_rfl) (by kernel_rfl); obtain ⟨jt, ju, jv⟩ : ∃ v, _ = v ∧ Ptr _ v _ := ⟨_, rfl, js⟩; exact L_load_u8 ty5 ju jv (by decide) (fin jr rfl)
   ·intro jm jn jo jp jq Q jr; have js : jm 30 = Value.int .u8 (jk).n := jp 17 30 (by kernel_rfl) (by kernel_rfl); exact asg js (fin jr rfl)
   ·intro jm jn jo jp jq; have jr := Tch.ext j8 jo; have js : jm 6 = Value.int .u8 (jk).n := jp 18 6 (by kernel_rfl); refine then_n (W_ret ?_); obtain rfl := Option.some.inj hr; exact done1 (Or.inl rfl) Tryz.results130 js ⟨_, _, rfl, rfl, jr, Vu8⟩

theorem slices_Clone_Lbyte_byte_okA (N : Nat) (s0 : St) (w0 : Value) (a0 : List U8) (h0 : V s0 w0 a0) (r : (List U8)) (hr : slices_Clone_Lbyte_byte N a0 = some r) :
    Calls Tryz.prog 55 #[w0] s0.w (Ret s0 fun v s => Bld s s0.w.heap.size 5 v r) := by
 unfold slices_Clone_Lbyte_byte at hr
 have j0 := Ext.refl s0
 refine Calls_of (n := 8) (args := [w0]) Tryz.func55 rfl rfl (by simp) (sr (asg (rv (Value.slice none 0 0)) (nn (W_seq (sr (mv (rv w0) (L_eqNil Tryz.underlying23 (rv w0) h0 (by decide) (fun j1 j2 => nn ?_))))))))
 refine W_cond _ (rv (vb j1)) (fun j3 => ?_) (fun _ => ?_)
 ·obtain rfl := j2 j3; obtain ⟨_, hr⟩ := chk_some hr; refine sr (asg (rv (Value.slice none 0 0)) (nn (W_ret (then_r ?_)))); obtain rfl := Option.some.inj hr; exact done1 (Or.inl rfl) Tryz.results55 rfl ⟨_, _, rfl, rfl, j0, Bld.nil⟩
 ·refine W_skip (then_n (sr (L_buildSlice (xs := ([] : List U8)) Tryz.underlying23 tyz5 Parts_nil Vs.nil rfl (by decide) (by decide) (fun j4 j5 j6 j7 j8 => ?_)))); have j9 := Tch.ext j0 j6; refine mv (rv w0) ?_; obtain ⟨ja, hr⟩ := chk_some hr; refine L_append (xs := ([] : List U8)) (B := s0.w.heap.size) Tryz.underlying23 tyz5 (rv j5) (rv w0) ((j7.base j0.size)) (j9.size) (h0.mono j6.le) ja.1 ja.2 (by decide) (fun jb jc jd => ?_); have je := jd.tchM ((j7.base j0.size)) j9 (Nat.le_refl _); refine asg (rv jb) (nn (W_ret ?_)); obtain rfl := Option.some.inj hr; exact done1 (Or.inl rfl) Tryz.results55 rfl ⟨_, _, rfl, rfl, je, jd.bld⟩

end Go.Arm
