/- A part of the proof. -/
import Derived.Test.YtdaedcoolcicoaaGreatHandG
namespace Go.Arm
open Go Go.RowKit Go.Proofs
noncomputable section
variable {σ : Type}
def check_Parity_l1 (N : Nat) (a0 : List (List U8)) (a1 : Int) (y21 : Field) : Nat → (List (List U8)) → Int → Option ((List (List U8)))
  | 0, _, _ => none
  | m + 1, x28, x30 =>
  if decide (x30 < a1) then
  (chk (inR ((a0.length : Int) + x30)) <|
  Option.bind (check_field_block N y21 ((a0.length : Int) + x30) a0) fun y45 =>
  chk ((x28.length + ([y45] : List (List U8)).length) * 24 ≤ 140737488355328 ∧ x28.length + ([y45] : List (List U8)).length ≤ maxLen) <|
  chk (inR (x30 + 1)) <|
  check_Parity_l1 N a0 a1 y21 m (x28 ++ ([y45] : List (List U8))) (x30 + 1))
  else
  (some (x28))
def check_Parity (N : Nat) (a0 : List (List U8)) (a1 : Int) : Option ((List (List U8)) × Int) :=
  Option.bind (if decide ((a0.length : Int) < 1) then
  (some (true))
  else
  (if decide (16 < (a0.length : Int)) then
  (some (true))
  else
  (if decide (a1 < 0) then
  (some (true))
  else
  (some (decide (16 < a1)))))) fun o2 => match o2 with
  | x1 =>
  (if x1 then
  (some ((([] : List (List U8)), (3 : Int))))
  else
  (Option.bind (check_sized N a0) fun y13 =>
  if !decide (y13 = 0) then
  (some ((([] : List (List U8)), y13)))
  else
  (Option.bind (check_newField N ) fun y21 =>
  Option.bind (check_Parity_l1 N a0 a1 y21 N ([] : List (List U8)) 0) fun o33 => match o33 with
  | x31 =>
  (some ((x31, 0))))))

end
end Go.Arm
namespace Go.Arm
open Go Go.RowKit Go.Proofs
variable {σ : Type}
theorem check_Parity_ok (N : Nat) (s0 : St) (w0 : Value) (a0 : List (List U8)) (h0 : V s0 w0 a0) (a1 : Int) (r : (List (List U8)) × Int) (hr : check_Parity N a0 a1 = some r) :
    Calls Tryz.prog 12 #[w0, .int .i64 a1] s0.w (Ret s0 fun v s => ∃ a b, v = .tuple #[a, b] ∧ V s a r.1 ∧ V s b r.2) := by
 unfold check_Parity at hr
 have j0 := Ext.refl s0
 refine Calls_of (n := 48) (args := [w0, .int .i64 a1]) Tryz.func12 rfl rfl (by simp) (sr (asg (rv (Value.slice none 0 0)) (asg (rv (vi 0)) (nn (W_seq ?_)))))
 obtain ⟨j1, j2, j3⟩ := bind_some hr
 refine W_seq_cut (fun f w => ∃ (s : St) (j4 : Bool), s.w = w ∧ Ext s0 s ∧ Le s0 s ∧ j4 = j1 ∧ f 25 = vb j4 ∧ f 0 = w0 ∧ f 1 = vi (a1)) ?_ ?_
 ·have hr := j2
  refine W_region (mv (rv w0) (ln Tryz.underlying22 (rv w0) h0 (ls (rv (vi ((a0.length : Int)))) (rv (vi 1)) (mv (rv (vb (decide ((a0.length : Int) < 1)))) ?_))))
  rcases tf (decide ((a0.length : Int) < 1)) with j5 | j5
  ·have hr := ite_t j5 hr; exact gf 13 (rv (vb (decide ((a0.length : Int) < 1)))) j5 (gf 13 (rv (vb (decide ((a0.length : Int) < 1)))) j5 (gf 13 (rv (vb (decide ((a0.length : Int) < 1)))) j5 (pt (rv (vb (decide ((a0.length : Int) < 1)))) j5 (rv (vb true)) (mv (rv (vb true)) (gf 18 (rv (vb true)) rfl (gf 18 (rv (vb true)) rfl (pt (rv (vb true)) rfl (rv (vb true)) (mv (rv (vb true)) (gf 22 (rv (vb true)) rfl (gf 22 (rv (vb true)) rfl (pt (rv (vb true)) rfl (rv (vb true)) (nn ⟨s0, true, rfl, j0, (Le.refl _), Option.some.inj hr, rfl, rfl, rfl⟩))))))))))))
  ·have hr := ite_f j5 hr
   refine gt 13 (rv (vb (decide ((a0.length : Int) < 1)))) j5 (mv (rv w0) (gt 13 (rv (vb (decide ((a0.length : Int) < 1)))) j5 (ln Tryz.underlying22 (rv w0) h0 (gt 13 (rv (vb (decide ((a0.length : Int) < 1)))) j5 (L_gtr (rv (vi ((a0.length : Int)))) (rv (vi 16)) (by decide) (pf (rv (vb (decide ((a0.length : Int) < 1)))) j5 (rv (vb (decide (16 < (a0.length : Int))))) (mv (rv (vb (decide (16 < (a0.length : Int))))) ?_)))))))
   rcases tf (decide (16 < (a0.length : Int))) with j6 | j6
   ·have hr := ite_t j6 hr; exact gf 18 (rv (vb (decide (16 < (a0.length : Int))))) j6 (gf 18 (rv (vb (decide (16 < (a0.length : Int))))) j6 (pt (rv (vb (decide (16 < (a0.length : Int))))) j6 (rv (vb true)) (mv (rv (vb true)) (gf 22 (rv (vb true)) rfl (gf 22 (rv (vb true)) rfl (pt (rv (vb true)) rfl (rv (vb true)) (nn ⟨s0, true, rfl, j0, (Le.refl _), Option.some.inj hr, rfl, rfl, rfl⟩)))))))
   ·have hr := ite_f j6 hr
    refine gt 18 (rv (vb (decide (16 < (a0.length : Int))))) j6 (mv (rv (vi a1)) (gt 18 (rv (vb (decide (16 < (a0.length : Int))))) j6 (ls (rv (vi a1)) (rv (vi 0)) (pf (rv (vb (decide (16 < (a0.length : Int))))) j6 (rv (vb (decide (a1 < 0)))) (mv (rv (vb (decide (a1 < 0)))) ?_)))))
    rcases tf (decide (a1 < 0)) with j7 | j7
    ·have hr := ite_t j7 hr; exact gf 22 (rv (vb (decide (a1 < 0)))) j7 (gf 22 (rv (vb (decide (a1 < 0)))) j7 (pt (rv (vb (decide (a1 < 0)))) j7 (rv (vb true)) (nn ⟨s0, true, rfl, j0, (Le.refl _), Option.some.inj hr, rfl, rfl, rfl⟩)))
    ·have hr := ite_f j7 hr; exact gt 22 (rv (vb (decide (a1 < 0)))) j7 (mv (rv (vi a1)) (gt 22 (rv (vb (decide (a1 < 0)))) j7 (L_gtr (rv (vi a1)) (rv (vi 16)) (by decide) (pf (rv (vb (decide (a1 < 0)))) j7 (rv (vb (decide (16 < a1)))) (nn ⟨s0, (decide (16 < a1)), rfl, j0, (Le.refl _), Option.some.inj hr, rfl, rfl, rfl⟩)))))
 ·rintro j5 j6 ⟨j7, j4, rfl, j8, j9, j2, ja, jb, jc⟩
  subst j2
  have hr := j3
  try dsimp only at hr
  refine W_cond _ ja (fun jd => ?_) (fun jd => ?_)
  ·have hr := ite_t jd hr; refine sr (asg (rv (Value.slice none 0 0)) (asg (rv (vi 3)) (nn (W_ret (then_r ?_))))); obtain rfl := Option.some.inj hr; exact done2 (Or.inl rfl) Tryz.results12 rfl rfl ⟨_, _, rfl, rfl, j8, _, _, rfl, Vnil, Vint⟩
  ·have hr := ite_f jd hr
   refine W_skip (then_n (W_seq (sr (mv jb ?_))))
   obtain ⟨je, jf, hr⟩ := bind_some hr
   refine L_calls cal49 (args1 (rv w0)) (check_sized_ok N _ _ _ (h0.mono j9) je jf) (by decide) (fun jg jh ji jj => ?_)
   have jk := Tch.ext j8 ji
   obtain rfl := jj.int
   refine asg (rv (vi je)) (nn (sr (mv (rv (vi je)) (ne (rv (vi je)) (rv (vi 0)) (nn ?_)))))
   refine W_cond _ (rv (vb (!decide (je = 0)))) (fun jl => ?_) (fun jl => ?_)
   ·have hr := ite_t jl hr; refine sr (mv (rv (vi je)) (asg (rv (Value.slice none 0 0)) (asg (rv (vi je)) (nn (W_ret (then_r ?_)))))); obtain rfl := Option.some.inj hr; exact done2 (Or.inl rfl) Tryz.results12 rfl rfl ⟨_, _, rfl, rfl, jk, _, _, rfl, Vnil, Vint⟩
   ·have hr := ite_f jl hr
    refine W_skip (then_n (sr ?_))
    obtain ⟨jm, jn, hr⟩ := bind_some hr
    refine L_calls cal50 (args0) (check_newField_ok N _  jm jn) (by decide) (fun jo jp jq jr => ?_)
    have js := Tch.ext jk jq
    refine asg (rv jo) (nn (sr (asg (rv (Value.slice none 0 0)) (nn (W_seq (sr (mv jc (mv (rv (vi 0)) (nn ?_)))))))))
    obtain ⟨jt, ju, jv⟩ := bind_some hr
    refine W_cut (fun f w => ∃ (s : St) (jw : Value) (jx : List (List U8)), s.w = w ∧ Ext s0 s ∧ Le jp s ∧ jx = jt ∧ f 8 = jw ∧ Bld s s0.w.heap.size 23 jw jx) ?_ ?_
    ·refine W_block (W_loop (fun m f w => ∃ (s : St) (jy : Value) (jz : List (List U8)) (k0 : Int), s.w = w ∧ Ext s0 s ∧ Le jp s ∧ check_Parity_l1 N a0 a1 jm m jz k0 = some jt ∧ f 8 = jy ∧ Bld s s0.w.heap.size 23 jy jz ∧ f 33 = vi k0 ∧ f 0 = w0 ∧ f 7 = jo ∧ f 32 = vi (a1)) N ⟨jp, (Value.slice none 0 0), ([]), 0, rfl, js, (Le.refl _), ju, rfl, Bld.nil, rfl, jb, rfl, rfl⟩ ?_)
     rintro k1 k2 k3 ⟨k4, jy, jz, k0, rfl, k5, k6, hr, k7, k8, k9, ka, kb, kc⟩
     cases k1 with
     | zero => exact absurd hr (by simp [check_Parity_l1])
     | succ k1 =>
      rw [check_Parity_l1.eq_2] at hr
      refine sr (ls k9 kc (nn (W_seq ?_)))
      refine W_cond _ (rv (vb (decide (k0 < a1)))) (fun kd => ?_) (fun kd => ?_)
      ·have hr := ite_t kd hr; refine W_skip (then_n (W_seq (W_block (sr (mv k9 (asg (rv (vi k0)) (nn (W_region (mv k7 (mv kb (mv ka (ln Tryz.underlying22 (rv w0) (h0.mono (j9.trans (ji.le.trans (jq.le.trans k6)))) (mv (rv (vi k0)) ?_))))))))))))); obtain ⟨ke, hr⟩ := chk_some hr; refine ad (rv (vi ((a0.length : Int)))) (rv (vi k0)) ke (mv ka ?_); obtain ⟨kf, kg, hr⟩ := bind_some hr; refine L_calls cal51 (args3 (rv jo) (rv (vi ((a0.length : Int) + k0))) (rv w0)) (check_field_block_ok N _ _ _ (jr.mono k6) ((a0.length : Int) + k0) _ _ (h0.mono (j9.trans (ji.le.trans (jq.le.trans k6)))) kf kg) (by decide) (fun kh ki kj kk => ?_); have kl := Tch.ext k5 kj; refine L_buildSlice (xs := ([kf] : List (List U8))) Tryz.underlying22 tyz23 (Parts_cons rfl (rv kh) Parts_nil) (Vs.cons kk Vs.nil) rfl (by decide) (by decide) (fun km kn ko kp kq => ?_); have kr := Tch.ext kl ko; obtain ⟨ks, hr⟩ := chk_some hr; refine L_append (xs := jz) (B := s0.w.heap.size) Tryz.underlying22 tyz23 (rv jy) (rv kn) (((k8).ext kj).ext ko) (kr.size) kq ks.1 ks.2 (by decide) (fun kt ku kv => ?_); have kw := kv.tchM (((k8).ext kj).ext ko) kr (Nat.le_refl _); refine asg (rv kt) (L_nil (block_n (then_n (W_region ?_)))); obtain ⟨kx, hr⟩ := chk_some hr; exact ad k9 (rv (vi 1)) kx (mv (rv (vi (k0 + 1))) (nn ⟨k1, Nat.lt_succ_self _, ⟨ku, kt, (jz ++ ([kf] : List (List U8))), (k0 + 1), rfl, kw, (k6.trans (kj.le.trans (ko.le.trans kv.tch.le))), hr, rfl, kv.bld, rfl, ka, kb, kc⟩⟩))
      ·have hr := ite_f kd hr; refine W_exit (then_x (then_x (block_here ?_))); exact then_n ⟨k4, jy, jz, rfl, k5, k6, Option.some.inj hr, k7, k8⟩
    ·rintro jy jz ⟨k0, jw, jx, rfl, k1, k2, ju, k3, k4⟩; subst ju; have hr := jv; (try dsimp only at hr); refine then_n (sr (mv k3 ?_)); have k5 := (k4).toV; refine asg (rv jw) (asg (rv (vi 0)) (nn (W_ret ?_))); obtain rfl := Option.some.inj hr; exact done2 (Or.inl rfl) Tryz.results12 rfl rfl ⟨_, _, rfl, rfl, k1, _, _, rfl, k5, Vint⟩

end Go.Arm
