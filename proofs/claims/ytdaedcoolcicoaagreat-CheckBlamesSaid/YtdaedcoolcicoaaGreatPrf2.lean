/- A part of the proof. -/
import Derived.Test.YtdaedcoolcicoaaGreatPure2
namespace Go.Arm
open Go Go.RowKit Go.Proofs
variable {σ : Type}
theorem check_Repair_ok (N : Nat) (s0 : St) (w0 : Value) (a0 : List (List U8)) (h0 : V s0 w0 a0) (w1 : Value) (a1 : List Bool) (h1 : V s0 w1 a1) (a2 : Int) (r : (List (List U8)) × Int) (hr : check_Repair N a0 a1 a2 = some r) :
    Calls Tryz.prog 17 #[w0, w1, .int .i64 a2] s0.w (Ret s0 fun v s => ∃ a b, v = .tuple #[a, b] ∧ V s a r.1 ∧ V s b r.2) := by
 unfold check_Repair at hr
 have j0 := Ext.refl s0
 refine Calls_of (n := 114) (args := [w0, w1, .int .i64 a2]) Tryz.func17 rfl rfl (by simp) (sr (asg (rv (Value.slice none 0 0)) (asg (rv (vi 0)) (nn ?_))))
 obtain ⟨j1, j2, j3⟩ := bind_some hr
 refine W_seq_cut (fun f w => ∃ (s : St), s.w = w ∧ Ext s0 s ∧ Le s0 s ∧ Sum.inl () = j1 ∧ f 0 = w0 ∧ f 1 = w1 ∧ f 2 = vi (a2)) ?_ ?_
 ·have hr := j2
  refine W_block ?_
  obtain ⟨j4, j5, j6⟩ := bind_some hr
  refine W_seq_cut (fun f w => ∃ (s : St) (j7 : Bool), s.w = w ∧ Ext s0 s ∧ Le s0 s ∧ j7 = j4 ∧ f 17 = vb j7 ∧ f 0 = w0 ∧ f 1 = w1 ∧ f 2 = vi (a2)) ?_ ?_
  ·have hr := j5
   refine W_region (mv (rv (vi a2)) (ls (rv (vi a2)) (rv (vi 1)) (mv (rv (vb (decide (a2 < 1)))) ?_)))
   rcases tf (decide (a2 < 1)) with j8 | j8
   ·have hr := ite_t j8 hr; refine gf 20 (rv (vb (decide (a2 < 1)))) j8 (gf 20 (rv (vb (decide (a2 < 1)))) j8 (pt (rv (vb (decide (a2 < 1)))) j8 (rv (vb true)) (mv (rv (vb true)) (gf 24 (rv (vb true)) rfl (gf 24 (rv (vb true)) rfl (gf 24 (rv (vb true)) rfl (gf 24 (rv (vb true)) rfl (pt (rv (vb true)) rfl (rv (vb true)) (mv (rv (vb true)) (gf 30 (rv (vb true)) rfl (gf 30 (rv (vb true)) rfl (gf 30 (rv (vb true)) rfl (gf 30 (rv (vb true)) rfl ?_))))))))))))); exact gf 30 (rv (vb true)) rfl (pt (rv (vb true)) rfl (rv (vb true)) (asg (rv (vb true)) (nn ⟨s0, true, rfl, j0, (Le.refl _), Option.some.inj hr, rfl, rfl, rfl, rfl⟩)))
   ·have hr := ite_f j8 hr
    refine gt 20 (rv (vb (decide (a2 < 1)))) j8 (mv (rv (vi a2)) (gt 20 (rv (vb (decide (a2 < 1)))) j8 (L_gtr (rv (vi a2)) (rv (vi 16)) (by decide) (pf (rv (vb (decide (a2 < 1)))) j8 (rv (vb (decide (16 < a2)))) (mv (rv (vb (decide (16 < a2)))) ?_)))))
    rcases tf (decide (16 < a2)) with j9 | j9
    ·have hr := ite_t j9 hr; exact gf 24 (rv (vb (decide (16 < a2)))) j9 (gf 24 (rv (vb (decide (16 < a2)))) j9 (gf 24 (rv (vb (decide (16 < a2)))) j9 (gf 24 (rv (vb (decide (16 < a2)))) j9 (pt (rv (vb (decide (16 < a2)))) j9 (rv (vb true)) (mv (rv (vb true)) (gf 30 (rv (vb true)) rfl (gf 30 (rv (vb true)) rfl (gf 30 (rv (vb true)) rfl (gf 30 (rv (vb true)) rfl (gf 30 (rv (vb true)) rfl (pt (rv (vb true)) rfl (rv (vb true)) (asg (rv (vb true)) (nn ⟨s0, true, rfl, j0, (Le.refl _), Option.some.inj hr, rfl, rfl, rfl, rfl⟩)))))))))))))
    ·have hr := ite_f j9 hr
     refine gt 24 (rv (vb (decide (16 < a2)))) j9 (mv (rv w0) (gt 24 (rv (vb (decide (16 < a2)))) j9 (ln Tryz.underlying22 (rv w0) h0 (gt 24 (rv (vb (decide (16 < a2)))) j9 (mv (rv (vi a2)) (gt 24 (rv (vb (decide (16 < a2)))) j9 (ls (rv (vi ((a0.length : Int)))) (rv (vi a2)) (pf (rv (vb (decide (16 < a2)))) j9 (rv (vb (decide ((a0.length : Int) < a2)))) (mv (rv (vb (decide ((a0.length : Int) < a2)))) ?_)))))))))
     rcases tf (decide ((a0.length : Int) < a2)) with ja | ja
     ·have hr := ite_t ja hr; exact gf 30 (rv (vb (decide ((a0.length : Int) < a2)))) ja (gf 30 (rv (vb (decide ((a0.length : Int) < a2)))) ja (gf 30 (rv (vb (decide ((a0.length : Int) < a2)))) ja (gf 30 (rv (vb (decide ((a0.length : Int) < a2)))) ja (gf 30 (rv (vb (decide ((a0.length : Int) < a2)))) ja (pt (rv (vb (decide ((a0.length : Int) < a2)))) ja (rv (vb true)) (asg (rv (vb true)) (nn ⟨s0, true, rfl, j0, (Le.refl _), Option.some.inj hr, rfl, rfl, rfl, rfl⟩)))))))
     ·have hr := ite_f ja hr; refine gt 30 (rv (vb (decide ((a0.length : Int) < a2)))) ja (mv (rv w0) (gt 30 (rv (vb (decide ((a0.length : Int) < a2)))) ja (ln Tryz.underlying22 (rv w0) h0 (gt 30 (rv (vb (decide ((a0.length : Int) < a2)))) ja (mv (rv (vi a2)) (gt 30 (rv (vb (decide ((a0.length : Int) < a2)))) ja ?_)))))); obtain ⟨jb, hr⟩ := chk_some hr; exact ad (rv (vi a2)) (rv (vi 16)) jb (gt 30 (rv (vb (decide ((a0.length : Int) < a2)))) ja (L_gtr (rv (vi ((a0.length : Int)))) (rv (vi (a2 + 16))) (by decide) (pf (rv (vb (decide ((a0.length : Int) < a2)))) ja (rv (vb (decide ((a2 + 16) < (a0.length : Int))))) (asg (rv (vb (decide ((a2 + 16) < (a0.length : Int))))) (nn ⟨s0, (decide ((a2 + 16) < (a0.length : Int))), rfl, j0, (Le.refl _), Option.some.inj hr, rfl, rfl, rfl, rfl⟩)))))
  ·rintro j8 j9 ⟨ja, j7, rfl, jb, jc, j5, jd, je, jf, jg⟩
   subst j5
   have hr := j6
   try dsimp only at hr
   refine W_cond _ jd (fun jh => ?_) (fun jh => ?_)
   ·have hr := ite_t jh hr; refine sr (asg (rv (Value.slice none 0 0)) (asg (rv (vi 3)) (nn (W_ret (block_r ?_))))); obtain rfl := Option.some.inj hr; have hr := j3; (try dsimp only at hr); refine then_r ?_; obtain rfl := Option.some.inj hr; exact done2 (Or.inl rfl) Tryz.results17 rfl rfl ⟨_, _, rfl, rfl, jb, _, _, rfl, Vnil, Vint⟩
   ·have hr := ite_f jh hr
    refine sr (mv jf (ln Tryz.underlying32 (rv w1) (h1.mono jc) (mv je (ln Tryz.underlying22 (rv w0) (h0.mono jc) (ne (rv (vi ((a1.length : Int)))) (rv (vi ((a0.length : Int)))) (asg (rv (vb (!decide ((a1.length : Int) = (a0.length : Int))))) (nn ?_)))))))
    refine W_cond _ (rv (vb (!decide ((a1.length : Int) = (a0.length : Int))))) (fun ji => ?_) (fun ji => ?_)
    ·have hr := ite_t ji hr; refine sr (asg (rv (Value.slice none 0 0)) (asg (rv (vi 26)) (nn (W_ret (block_r ?_))))); obtain rfl := Option.some.inj hr; have hr := j3; (try dsimp only at hr); refine then_r ?_; obtain rfl := Option.some.inj hr; exact done2 (Or.inl rfl) Tryz.results17 rfl rfl ⟨_, _, rfl, rfl, jb, _, _, rfl, Vnil, Vint⟩
    ·have hr := ite_f ji hr; refine W_skip (block_n ?_); exact then_n ⟨ja, rfl, jb, jc, Option.some.inj hr, je, jf, jg⟩
 ·rintro j4 j5 ⟨j6, rfl, j7, j8, j2, j9, ja, jb⟩
  subst j2
  have hr := j3
  try dsimp only at hr
  refine sr (asg (rv (Value.slice none 0 0)) (nn (sr (asg (rv (Value.slice none 0 0)) (nn (W_seq (sr (mv j9 (ln Tryz.underlying22 (rv w0) (h0.mono j8) (mv (rv (vi 0)) (nn ?_)))))))))))
  obtain ⟨jc, jd, je⟩ := bind_some hr
  refine W_cut (fun f w => ∃ (s : St) (jf : Value) (jg : List Int) (jh : Value) (ji : List (List U8)), s.w = w ∧ Ext s0 s ∧ Le j6 s ∧ (jg, ji) = jc ∧ f 8 = jf ∧ Bld s s0.w.heap.size 3 jf jg ∧ f 9 = jh ∧ Bld s s0.w.heap.size 23 jh ji ∧ f 0 = w0 ∧ f 1 = w1 ∧ f 2 = vi (a2) ∧ (∀ k, (own jf) k → ¬ (own jh) k)) ?_ ?_
  ·refine W_block (W_loop (fun m f w => ∃ (s : St) (jj : Value) (jk : List Int) (jl : Value) (jm : List (List U8)) (jn : Int), s.w = w ∧ Ext s0 s ∧ Le j6 s ∧ check_Repair_l1 N a0 a1 m jk jm jn = some jc ∧ f 8 = jj ∧ Bld s s0.w.heap.size 3 jj jk ∧ f 9 = jl ∧ Bld s s0.w.heap.size 23 jl jm ∧ f 45 = vi jn ∧ f 0 = w0 ∧ f 1 = w1 ∧ f 2 = vi (a2) ∧ f 43 = w0 ∧ f 44 = vi ((a0.length : Int)) ∧ (∀ k, (own jj) k → ¬ (own jl) k)) N ⟨j6, (Value.slice none 0 0), ([]), (Value.slice none 0 0), ([]), 0, rfl, j7, (Le.refl _), jd, rfl, Bld.nil, rfl, Bld.nil, rfl, j9, ja, jb, rfl, rfl, (fun k h => absurd h own_nil)⟩ ?_)
   rintro jo jp jq ⟨jr, jj, jk, jl, jm, jn, rfl, js, jt, hr, ju, jv, jw, jx, jy, jz, k0, k1, k2, k3, k4⟩
   cases jo with
   | zero => exact absurd hr (by simp [check_Repair_l1])
   | succ jo =>
    rw [check_Repair_l1.eq_2] at hr
    refine sr (ls jy k3 (nn (W_seq ?_)))
    refine W_cond _ (rv (vb (decide (jn < (a0.length : Int))))) (fun k5 => ?_) (fun k5 => ?_)
    ·have hr := ite_t k5 hr
     refine W_skip (then_n (W_seq (W_block (sr (mv jy ?_)))))
     obtain ⟨k6, k7, hr⟩ := bind_some hr
     refine ix Tryz.underlying22 ty23.inf k2 (h0.mono (j8.trans jt)) jy k7 (fun k8 k9 => ld ty23 (rv k8) k9 (fun ka kb => asg (rv (vi jn)) (asg (rv ka) (nn (sr (mv k0 (mv (rv (vi jn)) ?_)))))))
     obtain ⟨kc, kd, hr⟩ := bind_some hr
     refine ix Tryz.underlying32 ty4.inf (rv w1) (h1.mono (j8.trans jt)) (rv (vi jn)) kd (fun ke kf => L_load_bool ty4 (rv ke) kf (by decide) (nn ?_))
     refine W_cond _ (rv (vb kc)) (fun kg => ?_) (fun kg => ?_)
     ·have hr := ite_t kg hr; refine W_region (mv ju (mv (rv (vi jn)) (L_buildSlice (xs := ([jn] : List Int)) Tryz.underlying38 tyz3 (Parts_cons rfl (rv (vi jn)) Parts_nil) (Vs.cons Vint Vs.nil) rfl (by decide) (by decide) (fun kh ki kj kk kl => ?_)))); have km := Tch.ext js kj; obtain ⟨kn, hr⟩ := chk_some hr; refine L_append (xs := jk) (B := s0.w.heap.size) Tryz.underlying38 tyz3 (rv jj) (rv ki) ((jv).ext kj) (km.size) kl kn.1 kn.2 (by decide) (fun ko kp kq => ?_); have kr := kq.tchM ((jv).ext kj) km (Nat.le_refl _); have ks := kq.apart ((jx).ext kj) (fun k hk hm => k4 k hm hk); refine mv jw (mv (rv ka) (L_buildSlice (xs := ([k6] : List (List U8))) Tryz.underlying22 tyz23 (Parts_cons rfl (rv ka) Parts_nil) (Vs.cons (kb.mono (kj.le.trans kq.tch.le)) Vs.nil) rfl (by decide) (by decide) (fun kt ku kv kw kx => ?_))); have ky := Tch.ext kr kv; obtain ⟨kz, hr⟩ := chk_some hr; refine L_append (xs := jm) (B := s0.w.heap.size) Tryz.underlying22 tyz23 (rv jl) (rv ku) ((((jx).ext kj).tch kq.tch (fun k hk hm => k4 k hm hk)).ext kv) (ky.size) kx kz.1 kz.2 (by decide) (fun g0 g1 g2 => ?_); have g3 := g2.tchM ((((jx).ext kj).tch kq.tch (fun k hk hm => k4 k hm hk)).ext kv) ky (Nat.le_refl _); have g4 := g2.apart ((kq.bld).ext kv) (fun k hk hm => ks k hm hk); refine asg (rv ko) (asg (rv g0) (L_nil (block_n (then_n (W_region ?_))))); obtain ⟨g5, hr⟩ := chk_some hr; exact ad jy (rv (vi 1)) g5 (mv (rv (vi (jn + 1))) (nn ⟨jo, Nat.lt_succ_self _, ⟨g1, ko, (jk ++ ([jn] : List Int)), g0, (jm ++ ([k6] : List (List U8))), (jn + 1), rfl, g3, (jt.trans (kj.le.trans (kq.tch.le.trans (kv.le.trans g2.tch.le)))), hr, rfl, ((kq.bld).ext kv).tch g2.tch (fun k hk hm => ks k hm hk), rfl, g2.bld, rfl, jz, k0, k1, k2, k3, g4⟩⟩))
     ·have hr := ite_f kg hr; refine W_skip (block_n (then_n (W_region ?_))); obtain ⟨kh, hr⟩ := chk_some hr; exact ad jy (rv (vi 1)) kh (mv (rv (vi (jn + 1))) (nn ⟨jo, Nat.lt_succ_self _, ⟨jr, jj, jk, jl, jm, (jn + 1), rfl, js, jt, hr, ju, jv, jw, jx, rfl, jz, k0, k1, k2, k3, k4⟩⟩))
    ·have hr := ite_f k5 hr; refine W_exit (then_x (then_x (block_here ?_))); exact then_n ⟨jr, jj, jk, jl, jm, rfl, js, jt, Option.some.inj hr, ju, jv, jw, jx, jz, k0, k1, k4⟩
  ·rintro jj jk ⟨jl, jf, jg, jh, ji, rfl, jm, jn, jd, jo, jp, jq, jr, js, jt, ju, jv⟩
   subst jd
   have hr := je
   try dsimp only at hr
   refine then_n (W_seq (sr (mv jq ?_)))
   have jw := (jr).toV
   refine ln Tryz.underlying22 (rv jh) jw (mv ju (ls (rv (vi ((ji.length : Int)))) (rv (vi a2)) (nn ?_)))
   refine W_cond _ (rv (vb (decide ((ji.length : Int) < a2)))) (fun jx => ?_) (fun jx => ?_)
   ·have hr := ite_t jx hr; refine sr (asg (rv (Value.slice none 0 0)) (asg (rv (vi 19)) (nn (W_ret (then_r ?_))))); obtain rfl := Option.some.inj hr; exact done2 (Or.inl rfl) Tryz.results17 rfl rfl ⟨_, _, rfl, rfl, jm, _, _, rfl, Vnil, Vint⟩
   ·have hr := ite_f jx hr
    refine W_skip (then_n (W_seq (sr (mv jq ?_))))
    have jy := (jr).toV
    obtain ⟨jz, k0, hr⟩ := bind_some hr
    refine L_calls cal49 (args1 (rv jh)) (check_sized_ok N _ _ _ jy jz k0) (by decide) (fun k1 k2 k3 k4 => ?_)
    have k5 := Tch.ext jm k3
    obtain rfl := k4.int
    refine asg (rv (vi jz)) (nn (sr (mv (rv (vi jz)) (ne (rv (vi jz)) (rv (vi 0)) (nn ?_)))))
    refine W_cond _ (rv (vb (!decide (jz = 0)))) (fun k6 => ?_) (fun k6 => ?_)
    ·have hr := ite_t k6 hr; refine sr (mv (rv (vi jz)) (asg (rv (Value.slice none 0 0)) (asg (rv (vi jz)) (nn (W_ret (then_r ?_)))))); obtain rfl := Option.some.inj hr; exact done2 (Or.inl rfl) Tryz.results17 rfl rfl ⟨_, _, rfl, rfl, k5, _, _, rfl, Vnil, Vint⟩
    ·have hr := ite_f k6 hr
     refine W_skip (then_n (sr ?_))
     obtain ⟨k7, k8, hr⟩ := bind_some hr
     refine L_calls cal50 (args0) (check_newField_ok N _  k7 k8) (by decide) (fun k9 ka kb kc => ?_)
     have kd := Tch.ext k5 kb
     refine asg (rv k9) (nn (W_seq ?_))
     obtain ⟨ke, kf, hr⟩ := bind_some hr
     obtain ⟨kg, kh, hr⟩ := bind_some hr
     obtain ⟨ki, kj, hr⟩ := bind_some hr
     refine W_draws mixed (by kernel_rfl) [PV.ptr (k7 : Field), PV.data (jg : List Int), PV.eq (vi a2), PV.data (ke : List Int), PV.data (ji : List (List U8)), PV.eq (vi a2), PV.data (kg : List (List U8)), PV.data (ki : List (List U8)), PV.data (ki : List (List U8))] (Steps_cons ?_ (Steps_cons ?_ (Steps_cons ?_ (Steps_cons ?_ (Steps_cons ?_ (Steps_cons ?_ (Steps_cons ?_ (Steps_cons ?_ (Steps_cons ?_ Steps_nil))))))))) ?_
     ·intro kk kl km kn ko Q kp; have kq : kk 13 = k9 := (ko 13 (by kernel_rfl)).trans rfl; exact mv kq (fin kp (kc.mono km.le))
     ·intro kk kl km kn ko Q kp; have kq : kk 8 = jf := (ko 8 (by kernel_rfl)).trans jo; refine mv kq ?_; have kr := ((((jp).ext k3).ext kb).ext km).toV; exact fin kp kr
     ·intro kk kl km kn ko Q kp; have kq : kk 2 = vi (a2) := (ko 2 (by kernel_rfl)).trans ju; exact mv kq (fin kp rfl)
     ·intro kk kl km kn ko Q kp; have kq : V _ (kk 74) (jg : List Int) := kn 1 74 (by kernel_rfl) (by kernel_rfl); obtain ⟨kr, ks, kt⟩ : ∃ v, _ = v ∧ V _ v _ := ⟨_, rfl, kq⟩; have ku : kk 75 = vi (a2) := kn 2 75 (by kernel_rfl) (by kernel_rfl); exact L_slice_h Tryz.underlying38 ty3.inf ks kt ku kf (by decide) (fun kv kw => fin kp kw)
     ·intro kk kl km kn ko Q kp; have kq : kk 9 = jh := (ko 9 (by kernel_rfl)).trans jq; refine mv kq ?_; have kr := ((((jr).ext k3).ext kb).ext km).toV; exact fin kp kr
     ·intro kk kl km kn ko Q kp; have kq : kk 2 = vi (a2) := (ko 2 (by kernel_rfl)).trans ju; exact mv kq (fin kp rfl)
     ·intro kk kl km kn ko Q kp; have kq : V _ (kk 77) (ji : List (List U8)) := kn 4 77 (by kernel_rfl) (by kernel_rfl); obtain ⟨kr, ks, kt⟩ : ∃ v, _ = v ∧ V _ v _ := ⟨_, rfl, kq⟩; have ku : kk 78 = vi (a2) := kn 5 78 (by kernel_rfl) (by kernel_rfl); exact L_slice_h Tryz.underlying22 ty23.inf ks kt ku kh (by decide) (fun kv kw => fin kp kw)
     ·intro kk kl km kn ko Q kp; have kq : Ptr _ (kk 73) (k7 : Field) := kn 0 73 (by kernel_rfl) (by kernel_rfl); obtain ⟨kr, ks, kt⟩ : ∃ v, _ = v ∧ Ptr _ v _ := ⟨_, rfl, kq⟩; have ku : V _ (kk 76) (ke : List Int) := kn 3 76 (by kernel_rfl) (by kernel_rfl); obtain ⟨kv, kw, kx⟩ : ∃ v, _ = v ∧ V _ v _ := ⟨_, rfl, ku⟩; have ky : V _ (kk 79) (kg : List (List U8)) := kn 6 79 (by kernel_rfl) (by kernel_rfl); obtain ⟨kz, g0, g1⟩ : ∃ v, _ = v ∧ V _ v _ := ⟨_, rfl, ky⟩; refine L_calls cal56 (args3 ks kw g0) (check_field_solve_ok N _ _ _ kt _ _ kx _ _ g1 ki kj) (by decide) (fun g2 g3 g4 g5 => ?_); have g6 := Tch.ext (Ext.refl kl) g4; exact L_nil (kp _ _ g6 g5)
     ·intro kk kl km kn ko Q kp; have kq : V _ (kk 80) (ki : List (List U8)) := kn 7 80 (by kernel_rfl) (by kernel_rfl); obtain ⟨kr, ks, kt⟩ : ∃ v, _ = v ∧ V _ v _ := ⟨_, rfl, kq⟩; exact asg ks (fin kp kt)
     ·intro kk kl km kn ko
      have kp := Tch.ext kd km
      have kq : kk 0 = w0 := (ko 0 (by kernel_rfl)).trans js
      have kr : kk 1 = w1 := (ko 1 (by kernel_rfl)).trans jt
      have ks : kk 13 = k9 := (ko 13 (by kernel_rfl)).trans rfl
      have kt : V _ (kk 14) (ki : List (List U8)) := kn 8 14 (by kernel_rfl)
      obtain ⟨ku, kv, kw⟩ : ∃ v, _ = v ∧ V _ v _ := ⟨_, rfl, kt⟩
      refine then_n (sr (mv kq (ln Tryz.underlying22 (rv w0) (h0.mono (j8.trans (jn.trans (k3.le.trans (kb.le.trans km.le))))) ?_)))
      obtain ⟨kx, hr⟩ := chk_some hr
      refine L_makeArr (x0 := ([] : List U8)) Tryz.underlying22 tyz23 (rv (vi ((a0.length : Int)))) kx.1 kx.2.1 kx.2.2 (fun _ => ⟨none, 0, rfl, Nat.le_refl _, fun h => (h rfl).elim⟩) (by decide) (fun ky kz g0 g1 g2 => ?_)
      have g3 := Tch.ext kp g0
      refine asg (rv (Value.slice (some ⟨kz, 0, none⟩) ((a0.length : Int)).toNat ((a0.length : Int)).toNat)) (nn (W_seq (sr (mv (rv (Value.slice (some ⟨kz, 0, none⟩) ((a0.length : Int)).toNat ((a0.length : Int)).toNat)) (L_lenA Tryz.underlying22 (rv (Value.slice (some ⟨kz, 0, none⟩) ((a0.length : Int)).toNat ((a0.length : Int)).toNat)) (by decide) (mv (rv (vi 0)) (nn ?_)))))))
      obtain ⟨g4, g5, g6⟩ := bind_some hr
      refine W_cut (fun f w => ∃ (s : St) (g7 : List (List U8)), s.w = w ∧ Ext s0 s ∧ Le ky s ∧ Sum.inl g7 = g4 ∧ f 15 = Value.slice (some ⟨kz, 0, none⟩) ((a0.length : Int)).toNat ((a0.length : Int)).toNat ∧ Arr s kz 23 ((a0.length : Int)).toNat g7) ?_ ?_
      ·refine W_block (W_loop (fun m f w => ∃ (s : St) (g8 : Int) (g9 : List (List U8)), s.w = w ∧ Ext s0 s ∧ Le ky s ∧ check_Repair_l2 N a0 a1 k7 ki m g8 g9 = some g4 ∧ f 86 = vi g8 ∧ f 0 = w0 ∧ f 1 = w1 ∧ f 13 = k9 ∧ f 14 = ku ∧ f 15 = Value.slice (some ⟨kz, 0, none⟩) ((a0.length : Int)).toNat ((a0.length : Int)).toNat ∧ f 85 = vi (((((a0.length : Int)).toNat : Nat) : Int)) ∧ Arr s kz 23 ((a0.length : Int)).toNat g9) N ⟨ky, 0, (List.replicate ((a0.length : Int)).toNat ([] : List U8)), rfl, g3, (Le.refl _), g5, rfl, kq, kr, ks, kv, rfl, rfl, g2⟩ ?_)
       rintro ga gb gc ⟨gd, g8, g9, rfl, gg, gh, hr, gi, gj, gk, gl, gm, gn, go, gp⟩
       cases ga with
       | zero => exact absurd hr (by simp [check_Repair_l2])
       | succ ga =>
        rw [check_Repair_l2.eq_2] at hr
        refine sr (ls gi go (nn (W_seq ?_)))
        refine W_cond _ (rfl : _ = vb (decide (g8 < ((((a0.length : Int)).toNat : Nat) : Int)))) (fun gq => ?_) (fun gq => ?_)
        ·have hr := ite_t gq hr
         refine W_skip (then_n (W_seq (W_block (sr (mv gi (asg (rv (vi g8)) (nn (sr (mv gn (mv (rv (vi g8)) (mv gl (mv (rv (vi g8)) (mv gm ?_)))))))))))))
         obtain ⟨gr, gs, hr⟩ := bind_some hr
         refine L_calls cal51 (args3 (rv k9) (rv (vi g8)) (rv ku)) (check_field_block_ok N _ _ _ (kc.mono (km.le.trans (g0.le.trans gh))) g8 _ _ (kw.mono (g0.le.trans gh)) gr gs) (by decide) (fun gu gv gw gx => ?_)
         have gy := Tch.ext gg gw
         obtain ⟨gz, u0, hr⟩ := bind_some hr
         refine L_indexA (sz := 1) Tryz.underlying22 ty23.inf (rv (Value.slice (some ⟨kz, 0, none⟩) ((a0.length : Int)).toNat ((a0.length : Int)).toNat)) (rv (vi g8)) (idx_some u0).1 (by have := (idx_some u0).2.1; have := ((gp).ext gw).1; omega) (by decide) (L_storeA (xs := g9) ty23 (rv (Value.pointer (some ⟨kz, (g8).toNat * 1, none⟩))) (rv gu) gx ((gp).ext gw) u0 (fun u1 u2 u3 => ?_))
         have u4 := Tch.trans gy u2 (fun k hk => Or.inr (by subst hk; exact (Nat.le_trans kp.size g1)))
         refine nn ?_
         obtain ⟨u5, u6, u7⟩ := bind_some hr
         refine W_seq_cut (fun f w => ∃ (s : St) (u9 : Bool), s.w = w ∧ Ext s0 s ∧ Le u1 s ∧ u9 = u5 ∧ f 111 = vb u9 ∧ f 0 = w0 ∧ f 1 = w1 ∧ f 13 = k9 ∧ f 14 = ku ∧ f 15 = Value.slice (some ⟨kz, 0, none⟩) ((a0.length : Int)).toNat ((a0.length : Int)).toNat ∧ f 85 = vi (((((a0.length : Int)).toNat : Nat) : Int)) ∧ f 86 = vi (g8) ∧ Arr s kz 23 ((a0.length : Int)).toNat (g9.set (g8).toNat gr)) ?_ ?_
         ·have hr := u6
          obtain ⟨ua, ub, hr⟩ := bind_some hr
          rcases tf (ua) with uc | uc
          ·have hr := ite_t uc hr
           obtain ⟨ud, ue, hr⟩ := bind_some hr
           obtain ⟨uf, ug, hr⟩ := bind_some hr
           obtain ⟨uh, ui, hr⟩ := bind_some hr
           refine W_draws mixed (by kernel_rfl) [PV.data (a1 : List Bool), PV.eq (vi g8), PV.ptr (ua : Bool), PV.eq (vb ua), PV.eq (vb ua), PV.eq (Value.slice (some ⟨kz, 0, none⟩) ((a0.length : Int)).toNat ((a0.length : Int)).toNat), PV.eq (vi g8), PV.eq (Value.pointer (some ⟨kz, (g8).toNat * 1, none⟩)), PV.data (ud : List U8), PV.data (a0 : List (List U8)), PV.eq (vi g8), PV.ptr (uf : List U8), PV.data (uf : List U8), PV.eq (vb uh), PV.eq (vb (!uh)), PV.eq (vb (!uh))] (Steps_cons ?_ (Steps_cons ?_ (Steps_cons ?_ (Steps_cons ?_ (Steps_cons ?_ (Steps_cons ?_ (Steps_cons ?_ (Steps_cons ?_ (Steps_cons ?_ (Steps_cons ?_ (Steps_cons ?_ (Steps_cons ?_ (Steps_cons ?_ (Steps_cons ?_ (Steps_cons ?_ (Steps_cons ?_ Steps_nil)))))))))))))))) ?_
           ·intro uj uk ul um un Q uo; have up : uj 1 = w1 := (un 1 (by kernel_rfl)).trans gk; exact mv up (fin uo (h1.mono (j8.trans (jn.trans (k3.le.trans (kb.le.trans (km.le.trans (g0.le.trans (gh.trans (gw.le.trans (u2.le.trans ul.le)))))))))))
           ·intro uj uk ul um un Q uo; have up : uj 16 = vi (g8) := (un 16 (by kernel_rfl)).trans rfl; exact mv up (fin uo rfl)
           ·intro uj uk ul um un Q uo; have up : V _ (uj 96) (a1 : List Bool) := um 0 96 (by kernel_rfl) (by kernel_rfl); obtain ⟨uq, ur, us⟩ : ∃ v, _ = v ∧ V _ v _ := ⟨_, rfl, up⟩; have ut : uj 97 = vi (g8) := um 1 97 (by kernel_rfl) (by kernel_rfl); exact ix Tryz.underlying32 ty4.inf ur us ut ub (fun uu uv => fin uo uv)
           ·intro uj uk ul um un Q uo; have up : Ptr _ (uj 98) (ua : Bool) := um 2 98 (by kernel_rfl) (by kernel_rfl); obtain ⟨uq, ur, us⟩ : ∃ v, _ = v ∧ Ptr _ v _ := ⟨_, rfl, up⟩; exact L_load_bool ty4 ur us (by decide) (fin uo rfl)
           ·intro uj uk ul um un Q uo; have up : uj 99 = vb (ua) := um 3 99 (by kernel_rfl) (by kernel_rfl); exact mv up (fin uo rfl)
           ·intro uj uk ul um un Q uo; have up : uj 15 = Value.slice (some ⟨kz, 0, none⟩) ((a0.length : Int)).toNat ((a0.length : Int)).toNat := (un 15 (by kernel_rfl)).trans gn; have uq : uj 100 = vb (ua) := um 4 100 (by kernel_rfl) (by kernel_rfl); exact gt 100 uq uc (mv up (fin uo rfl))
           ·intro uj uk ul um un Q uo; have up : uj 16 = vi (g8) := (un 16 (by kernel_rfl)).trans rfl; have uq : uj 100 = vb (ua) := um 4 100 (by kernel_rfl) (by kernel_rfl); exact gt 100 uq uc (mv up (fin uo rfl))
           ·intro uj uk ul um un Q uo; have up : uj 100 = vb (ua) := um 4 100 (by kernel_rfl) (by kernel_rfl); have uq : uj 101 = Value.slice (some ⟨kz, 0, none⟩) ((a0.length : Int)).toNat ((a0.length : Int)).toNat := um 5 101 (by kernel_rfl) (by kernel_rfl); have ur : uj 102 = vi (g8) := um 6 102 (by kernel_rfl) (by kernel_rfl); exact gt 100 up uc (L_indexA (sz := 1) Tryz.underlying22 ty23.inf uq ur (idx_some ue).1 (by have := (idx_some ue).2.1; have := ((u3).ext ul).1; omega) (by decide) (fin uo rfl))
           ·intro uj uk ul um un Q uo; have up : uj 100 = vb (ua) := um 4 100 (by kernel_rfl) (by kernel_rfl); have uq : uj 103 = Value.pointer (some ⟨kz, (g8).toNat * 1, none⟩) := um 7 103 (by kernel_rfl) (by kernel_rfl); exact gt 100 up uc (L_loadA (xs := (g9.set (g8).toNat gr)) ty23 uq ((u3).ext ul) ue (by decide) (fun ur us => fin uo us))
           ·intro uj uk ul um un Q uo; have up : uj 0 = w0 := (un 0 (by kernel_rfl)).trans gj; have uq : uj 100 = vb (ua) := um 4 100 (by kernel_rfl) (by kernel_rfl); exact gt 100 uq uc (mv up (fin uo (h0.mono (j8.trans (jn.trans (k3.le.trans (kb.le.trans (km.le.trans (g0.le.trans (gh.trans (gw.le.trans (u2.le.trans ul.le))))))))))))
           ·intro uj uk ul um un Q uo; have up : uj 16 = vi (g8) := (un 16 (by kernel_rfl)).trans rfl; have uq : uj 100 = vb (ua) := um 4 100 (by kernel_rfl) (by kernel_rfl); exact gt 100 uq uc (mv up (fin uo rfl))
           ·intro uj uk ul um un Q uo; have up : uj 100 = vb (ua) := um 4 100 (by kernel_rfl) (by kernel_rfl); have uq : V _ (uj 105) (a0 : List (List U8)) := um 9 105 (by kernel_rfl) (by kernel_rfl); obtain ⟨ur, us, ut⟩ : ∃ v, _ = v ∧ V _ v _ := ⟨_, rfl, uq⟩; have uu : uj 106 = vi (g8) := um 10 106 (by kernel_rfl) (by kernel_rfl); exact gt 100 up uc (ix Tryz.underlying22 ty23.inf us ut uu ug (fun uv uw => fin uo uw))
           ·intro uj uk ul um un Q uo; have up : uj 100 = vb (ua) := um 4 100 (by kernel_rfl) (by kernel_rfl); have uq : Ptr _ (uj 107) (uf : List U8) := um 11 107 (by kernel_rfl) (by kernel_rfl); obtain ⟨ur, us, ut⟩ : ∃ v, _ = v ∧ Ptr _ v _ := ⟨_, rfl, uq⟩; exact gt 100 up uc (ld ty23 us ut (fun uu uv => fin uo uv))
           ·intro uj uk ul um un Q uo; have up : uj 100 = vb (ua) := um 4 100 (by kernel_rfl) (by kernel_rfl); have uq : V _ (uj 104) (ud : List U8) := um 8 104 (by kernel_rfl) (by kernel_rfl); obtain ⟨ur, us, ut⟩ : ∃ v, _ = v ∧ V _ v _ := ⟨_, rfl, uq⟩; have uu : V _ (uj 108) (uf : List U8) := um 12 108 (by kernel_rfl) (by kernel_rfl); obtain ⟨uv, uw, ux⟩ : ∃ v, _ = v ∧ V _ v _ := ⟨_, rfl, uu⟩; refine gt 100 up uc (L_calls cal57 (args2 us uw) (bytes_Equal_ok N _ _ _ ut _ _ ux uh ui) (by decide) (fun uy uz t0 t1 => ?_)); have t2 := Tch.ext (Ext.refl uk) t0; obtain rfl := t1.bool; exact L_nil (uo _ _ t2 rfl)
           ·intro uj uk ul um un Q uo; have up : uj 100 = vb (ua) := um 4 100 (by kernel_rfl) (by kernel_rfl); have uq : uj 109 = vb (uh) := um 13 109 (by kernel_rfl) (by kernel_rfl); exact gt 100 up uc (L_not uq (by decide) (fin uo rfl))
           ·intro uj uk ul um un Q uo; have up : uj 100 = vb (ua) := um 4 100 (by kernel_rfl) (by kernel_rfl); have uq : uj 110 = vb (!uh) := um 14 110 (by kernel_rfl) (by kernel_rfl); exact pt up uc uq (fin uo rfl)
           ·intro uj uk ul um un; have uo := Tch.ext u4 ul; have up : uj 0 = w0 := (un 0 (by kernel_rfl)).trans gj; have uq : uj 1 = w1 := (un 1 (by kernel_rfl)).trans gk; have ur : uj 13 = k9 := (un 13 (by kernel_rfl)).trans gl; have us : uj 14 = ku := (un 14 (by kernel_rfl)).trans gm; have ut : uj 15 = Value.slice (some ⟨kz, 0, none⟩) ((a0.length : Int)).toNat ((a0.length : Int)).toNat := (un 15 (by kernel_rfl)).trans gn; have uu : uj 85 = vi (((((a0.length : Int)).toNat : Nat) : Int)) := (un 85 (by kernel_rfl)).trans go; have uv : uj 86 = vi (g8) := (un 86 (by kernel_rfl)).trans gi; have uw : uj 111 = vb (!uh) := um 15 111 (by kernel_rfl); exact then_n ⟨uk, (!uh), rfl, uo, ul.le, Option.some.inj hr, uw, up, uq, ur, us, ut, uu, uv, (u3).ext ul⟩
          ·have hr := ite_f uc hr
           refine W_draws mixed (by kernel_rfl) [PV.data (a1 : List Bool), PV.eq (vi g8), PV.ptr (ua : Bool), PV.eq (vb ua), PV.eq (vb ua), PV.eq (undef), PV.eq (undef), PV.eq (undef), PV.eq (undef), PV.eq (undef), PV.eq (undef), PV.eq (undef), PV.eq (undef), PV.eq (undef), PV.eq (undef), PV.eq (vb false)] (Steps_cons ?_ (Steps_cons ?_ (Steps_cons ?_ (Steps_cons ?_ (Steps_cons ?_ (Steps_cons ?_ (Steps_cons ?_ (Steps_cons ?_ (Steps_cons ?_ (Steps_cons ?_ (Steps_cons ?_ (Steps_cons ?_ (Steps_cons ?_ (Steps_cons ?_ (Steps_cons ?_ (Steps_cons ?_ Steps_nil)))))))))))))))) ?_
           ·intro ud ue uf ug uh Q ui; have uj : ud 1 = w1 := (uh 1 (by kernel_rfl)).trans gk; exact mv uj (fin ui (h1.mono (j8.trans (jn.trans (k3.le.trans (kb.le.trans (km.le.trans (g0.le.trans (gh.trans (gw.le.trans (u2.le.trans uf.le)))))))))))
           ·intro ud ue uf ug uh Q ui; have uj : ud 16 = vi (g8) := (uh 16 (by kernel_rfl)).trans rfl; exact mv uj (fin ui rfl)
           ·intro ud ue uf ug uh Q ui; have uj : V _ (ud 96) (a1 : List Bool) := ug 0 96 (by kernel_rfl) (by kernel_rfl); obtain ⟨uk, ul, um⟩ : ∃ v, _ = v ∧ V _ v _ := ⟨_, rfl, uj⟩; have un : ud 97 = vi (g8) := ug 1 97 (by kernel_rfl) (by kernel_rfl); exact ix Tryz.underlying32 ty4.inf ul um un ub (fun uo up => fin ui up)
           ·intro ud ue uf ug uh Q ui; have uj : Ptr _ (ud 98) (ua : Bool) := ug 2 98 (by kernel_rfl) (by kernel_rfl); obtain ⟨uk, ul, um⟩ : ∃ v, _ = v ∧ Ptr _ v _ := ⟨_, rfl, uj⟩; exact L_load_bool ty4 ul um (by decide) (fin ui rfl)
           ·intro ud ue uf ug uh Q ui; have uj : ud 99 = vb (ua) := ug 3 99 (by kernel_rfl) (by kernel_rfl); exact mv uj (fin ui rfl)
           ·intro ud ue uf ug uh Q ui; have uj : ud 100 = vb (ua) := ug 4 100 (by kernel_rfl) (by kernel_rfl); exact gf 100 uj uc (fin ui rfl)
           ·intro ud ue uf ug uh Q ui; have uj : ud 100 = vb (ua) := ug 4 100 (by kernel_rfl) (by kernel_rfl); exact gf 100 uj uc (fin ui rfl)
           ·intro ud ue uf ug uh Q ui; have uj : ud 100 = vb (ua) := ug 4 100 (by kernel_rfl) (by kernel_rfl); exact gf 100 uj uc (fin ui rfl)
           ·intro ud ue uf ug uh Q ui; have uj : ud 100 = vb (ua) := ug 4 100 (by kernel_rfl) (by kernel_rfl); exact gf 100 uj uc (fin ui rfl)
           ·intro ud ue uf ug uh Q ui; have uj : ud 100 = vb (ua) := ug 4 100 (by kernel_rfl) (by kernel_rfl); exact gf 100 uj uc (fin ui rfl)
           ·intro ud ue uf ug uh Q ui; have uj : ud 100 = vb (ua) := ug 4 100 (by kernel_rfl) (by kernel_rfl); exact gf 100 uj uc (fin ui rfl)
           ·intro ud ue uf ug uh Q ui; have uj : ud 100 = vb (ua) := ug 4 100 (by kernel_rfl) (by kernel_rfl); exact gf 100 uj uc (fin ui rfl)
           ·intro ud ue uf ug uh Q ui; have uj : ud 100 = vb (ua) := ug 4 100 (by kernel_rfl) (by kernel_rfl); exact gf 100 uj uc (fin ui rfl)
           ·intro ud ue uf ug uh Q ui; have uj : ud 100 = vb (ua) := ug 4 100 (by kernel_rfl) (by kernel_rfl); exact gf 100 uj uc (fin ui rfl)
           ·intro ud ue uf ug uh Q ui; have uj : ud 100 = vb (ua) := ug 4 100 (by kernel_rfl) (by kernel_rfl); exact gf 100 uj uc (fin ui rfl)
           ·intro ud ue uf ug uh Q ui; have uj : ud 100 = vb (ua) := ug 4 100 (by kernel_rfl) (by kernel_rfl); exact pf uj uc (rv (vb false)) (fin ui rfl)
           ·intro ud ue uf ug uh; have ui := Tch.ext u4 uf; have uj : ud 0 = w0 := (uh 0 (by kernel_rfl)).trans gj; have uk : ud 1 = w1 := (uh 1 (by kernel_rfl)).trans gk; have ul : ud 13 = k9 := (uh 13 (by kernel_rfl)).trans gl; have um : ud 14 = ku := (uh 14 (by kernel_rfl)).trans gm; have un : ud 15 = Value.slice (some ⟨kz, 0, none⟩) ((a0.length : Int)).toNat ((a0.length : Int)).toNat := (uh 15 (by kernel_rfl)).trans gn; have uo : ud 85 = vi (((((a0.length : Int)).toNat : Nat) : Int)) := (uh 85 (by kernel_rfl)).trans go; have up : ud 86 = vi (g8) := (uh 86 (by kernel_rfl)).trans gi; have uq : ud 111 = vb (false) := ug 15 111 (by kernel_rfl); exact then_n ⟨ue, false, rfl, ui, uf.le, Option.some.inj hr, uq, uj, uk, ul, um, un, uo, up, (u3).ext uf⟩
         ·rintro ua ub ⟨uc, u9, rfl, ud, ue, u6, uf, ug, uh, ui, uj, uk, ul, um, un⟩
          subst u6
          have hr := u7
          try dsimp only at hr
          refine W_cond _ uf (fun uo => ?_) (fun uo => ?_)
          ·have hr := ite_t uo hr; refine sr (asg (rv (Value.slice none 0 0)) (asg (rv (vi 20)) (nn (W_ret (block_r (then_r (then_r (block_r ?_)))))))); obtain rfl := Option.some.inj hr; have hr := g6; (try dsimp only at hr); refine then_r (then_r ?_); obtain rfl := Option.some.inj hr; exact done2 (Or.inl rfl) Tryz.results17 rfl rfl ⟨_, _, rfl, rfl, ud, _, _, rfl, Vnil, Vint⟩
          ·have hr := ite_f uo hr; refine W_skip (block_n (then_n (W_region ?_))); obtain ⟨up, hr⟩ := chk_some hr; exact ad um (rv (vi 1)) up (mv (rv (vi (g8 + 1))) (nn ⟨ga, Nat.lt_succ_self _, ⟨uc, (g8 + 1), (g9.set (g8).toNat gr), rfl, ud, (gh.trans (gw.le.trans (u2.le.trans ue))), hr, rfl, ug, uh, ui, uj, uk, ul, un⟩⟩))
        ·have hr := ite_f gq hr; refine W_exit (then_x (then_x (block_here ?_))); exact then_n ⟨gd, g9, rfl, gg, gh, Option.some.inj hr, gn, gp⟩
      ·rintro g8 g9 ⟨ga, g7, rfl, gb, gc, g5, gd, gg⟩; subst g5; have hr := g6; (try dsimp only at hr); refine then_n (sr (mv gd (asg (rv (Value.slice (some ⟨kz, 0, none⟩) ((a0.length : Int)).toNat ((a0.length : Int)).toNat)) (asg (rv (vi 0)) (nn (W_ret ?_)))))); obtain rfl := Option.some.inj hr; obtain ⟨gh, gi, gj, gk⟩ := (gg).freeze; have gl := Tch.trans gb gj (fun k hk => Or.inr (by subst hk; exact (Nat.le_trans kp.size g1))); exact done2 (Or.inl rfl) Tryz.results17 rfl rfl ⟨_, _, rfl, gi, gl, _, _, rfl, gk, Vint⟩

theorem ref14_Repair_ok (N : Nat) (s0 : St) (w0 : Value) (a0 : List (List U8)) (h0 : V s0 w0 a0) (w1 : Value) (a1 : List Bool) (h1 : V s0 w1 a1) (a2 : Int) (r : (List (List U8)) × Int) (hr : ref14_Repair N a0 a1 a2 = some r) :
    Calls Tryz.prog 18 #[w0, w1, .int .i64 a2] s0.w (Ret s0 fun v s => ∃ a b, v = .tuple #[a, b] ∧ V s a r.1 ∧ V s b r.2) := by
 unfold ref14_Repair at hr
 have j0 := Ext.refl s0
 refine Calls_of (n := 122) (args := [w0, w1, .int .i64 a2]) Tryz.func18 rfl rfl (by simp) (sr (asg (rv (Value.slice none 0 0)) (asg (rv (vi 0)) (nn (W_seq ?_)))))
 obtain ⟨j1, j2, j3⟩ := bind_some hr
 refine W_seq_cut (fun f w => ∃ (s : St) (j4 : Bool), s.w = w ∧ Ext s0 s ∧ Le s0 s ∧ j4 = j1 ∧ f 34 = vb j4 ∧ f 0 = w0 ∧ f 1 = w1 ∧ f 2 = vi (a2)) ?_ ?_
 ·have hr := j2
  refine W_region (mv (rv (vi a2)) (ls (rv (vi a2)) (rv (vi 1)) (mv (rv (vb (decide (a2 < 1)))) ?_)))
  rcases tf (decide (a2 < 1)) with j5 | j5
  ·have hr := ite_t j5 hr; refine gf 18 (rv (vb (decide (a2 < 1)))) j5 (gf 18 (rv (vb (decide (a2 < 1)))) j5 (pt (rv (vb (decide (a2 < 1)))) j5 (rv (vb true)) (mv (rv (vb true)) (gf 22 (rv (vb true)) rfl (gf 22 (rv (vb true)) rfl (gf 22 (rv (vb true)) rfl (gf 22 (rv (vb true)) rfl (pt (rv (vb true)) rfl (rv (vb true)) (mv (rv (vb true)) (gf 28 (rv (vb true)) rfl (gf 28 (rv (vb true)) rfl (gf 28 (rv (vb true)) rfl (gf 28 (rv (vb true)) rfl ?_))))))))))))); exact gf 28 (rv (vb true)) rfl (pt (rv (vb true)) rfl (rv (vb true)) (nn ⟨s0, true, rfl, j0, (Le.refl _), Option.some.inj hr, rfl, rfl, rfl, rfl⟩))
  ·have hr := ite_f j5 hr
   refine gt 18 (rv (vb (decide (a2 < 1)))) j5 (mv (rv (vi a2)) (gt 18 (rv (vb (decide (a2 < 1)))) j5 (L_gtr (rv (vi a2)) (rv (vi 16)) (by decide) (pf (rv (vb (decide (a2 < 1)))) j5 (rv (vb (decide (16 < a2)))) (mv (rv (vb (decide (16 < a2)))) ?_)))))
   rcases tf (decide (16 < a2)) with j6 | j6
   ·have hr := ite_t j6 hr; exact gf 22 (rv (vb (decide (16 < a2)))) j6 (gf 22 (rv (vb (decide (16 < a2)))) j6 (gf 22 (rv (vb (decide (16 < a2)))) j6 (gf 22 (rv (vb (decide (16 < a2)))) j6 (pt (rv (vb (decide (16 < a2)))) j6 (rv (vb true)) (mv (rv (vb true)) (gf 28 (rv (vb true)) rfl (gf 28 (rv (vb true)) rfl (gf 28 (rv (vb true)) rfl (gf 28 (rv (vb true)) rfl (gf 28 (rv (vb true)) rfl (pt (rv (vb true)) rfl (rv (vb true)) (nn ⟨s0, true, rfl, j0, (Le.refl _), Option.some.inj hr, rfl, rfl, rfl, rfl⟩))))))))))))
   ·have hr := ite_f j6 hr
    refine gt 22 (rv (vb (decide (16 < a2)))) j6 (mv (rv w0) (gt 22 (rv (vb (decide (16 < a2)))) j6 (ln Tryz.underlying22 (rv w0) h0 (gt 22 (rv (vb (decide (16 < a2)))) j6 (mv (rv (vi a2)) (gt 22 (rv (vb (decide (16 < a2)))) j6 (ls (rv (vi ((a0.length : Int)))) (rv (vi a2)) (pf (rv (vb (decide (16 < a2)))) j6 (rv (vb (decide ((a0.length : Int) < a2)))) (mv (rv (vb (decide ((a0.length : Int) < a2)))) ?_)))))))))
    rcases tf (decide ((a0.length : Int) < a2)) with j7 | j7
    ·have hr := ite_t j7 hr; exact gf 28 (rv (vb (decide ((a0.length : Int) < a2)))) j7 (gf 28 (rv (vb (decide ((a0.length : Int) < a2)))) j7 (gf 28 (rv (vb (decide ((a0.length : Int) < a2)))) j7 (gf 28 (rv (vb (decide ((a0.length : Int) < a2)))) j7 (gf 28 (rv (vb (decide ((a0.length : Int) < a2)))) j7 (pt (rv (vb (decide ((a0.length : Int) < a2)))) j7 (rv (vb true)) (nn ⟨s0, true, rfl, j0, (Le.refl _), Option.some.inj hr, rfl, rfl, rfl, rfl⟩))))))
    ·have hr := ite_f j7 hr; refine gt 28 (rv (vb (decide ((a0.length : Int) < a2)))) j7 (mv (rv w0) (gt 28 (rv (vb (decide ((a0.length : Int) < a2)))) j7 (ln Tryz.underlying22 (rv w0) h0 (gt 28 (rv (vb (decide ((a0.length : Int) < a2)))) j7 (mv (rv (vi a2)) (gt 28 (rv (vb (decide ((a0.length : Int) < a2)))) j7 ?_)))))); obtain ⟨j8, hr⟩ := chk_some hr; exact ad (rv (vi a2)) (rv (vi 16)) j8 (gt 28 (rv (vb (decide ((a0.length : Int) < a2)))) j7 (L_gtr (rv (vi ((a0.length : Int)))) (rv (vi (a2 + 16))) (by decide) (pf (rv (vb (decide ((a0.length : Int) < a2)))) j7 (rv (vb (decide ((a2 + 16) < (a0.length : Int))))) (nn ⟨s0, (decide ((a2 + 16) < (a0.length : Int))), rfl, j0, (Le.refl _), Option.some.inj hr, rfl, rfl, rfl, rfl⟩))))
 ·rintro j5 j6 ⟨j7, j4, rfl, j8, j9, j2, ja, jb, jc, jd⟩
  subst j2
  have hr := j3
  try dsimp only at hr
  refine W_cond _ ja (fun je => ?_) (fun je => ?_)
  ·have hr := ite_t je hr; refine sr (asg (rv (Value.slice none 0 0)) (asg (rv (vi 3)) (nn (W_ret (then_r ?_))))); obtain rfl := Option.some.inj hr; exact done2 (Or.inl rfl) Tryz.results18 rfl rfl ⟨_, _, rfl, rfl, j8, _, _, rfl, Vnil, Vint⟩
  ·have hr := ite_f je hr
   refine W_skip (then_n (W_seq (sr (mv jc (ln Tryz.underlying32 (rv w1) (h1.mono j9) (mv jb (ln Tryz.underlying22 (rv w0) (h0.mono j9) (ne (rv (vi ((a1.length : Int)))) (rv (vi ((a0.length : Int)))) (nn ?_)))))))))
   refine W_cond _ (rv (vb (!decide ((a1.length : Int) = (a0.length : Int))))) (fun jf => ?_) (fun jf => ?_)
   ·have hr := ite_t jf hr; refine sr (asg (rv (Value.slice none 0 0)) (asg (rv (vi 26)) (nn (W_ret (then_r ?_))))); obtain rfl := Option.some.inj hr; exact done2 (Or.inl rfl) Tryz.results18 rfl rfl ⟨_, _, rfl, rfl, j8, _, _, rfl, Vnil, Vint⟩
   ·have hr := ite_f jf hr
    refine W_skip (then_n (sr (asg (rv (Value.slice none 0 0)) (nn (sr (asg (rv (Value.slice none 0 0)) (nn (W_seq (sr (asg (rv (vi 0)) (nn ?_)))))))))))
    obtain ⟨jg, jh, ji⟩ := bind_some hr
    refine W_cut (fun f w => ∃ (s : St) (jj : Value) (jk : List Int) (jl : Value) (jm : List (List U8)), s.w = w ∧ Ext s0 s ∧ Le j7 s ∧ (jk, jm) = jg ∧ f 8 = jj ∧ Bld s s0.w.heap.size 3 jj jk ∧ f 9 = jl ∧ Bld s s0.w.heap.size 23 jl jm ∧ f 0 = w0 ∧ f 1 = w1 ∧ f 2 = vi (a2) ∧ (∀ k, (own jj) k → ¬ (own jl) k)) ?_ ?_
    ·refine W_block (W_loop (fun m f w => ∃ (s : St) (jn : Value) (jo : List Int) (jp : Value) (jq : List (List U8)) (jr : Int), s.w = w ∧ Ext s0 s ∧ Le j7 s ∧ ref14_Repair_l1 N a0 a1 m jo jq jr = some jg ∧ f 8 = jn ∧ Bld s s0.w.heap.size 3 jn jo ∧ f 9 = jp ∧ Bld s s0.w.heap.size 23 jp jq ∧ f 10 = vi jr ∧ f 0 = w0 ∧ f 1 = w1 ∧ f 2 = vi (a2) ∧ (∀ k, (own jn) k → ¬ (own jp) k)) N ⟨j7, (Value.slice none 0 0), ([]), (Value.slice none 0 0), ([]), 0, rfl, j8, (Le.refl _), jh, rfl, Bld.nil, rfl, Bld.nil, rfl, jb, jc, jd, (fun k h => absurd h own_nil)⟩ ?_)
     rintro js jt ju ⟨jv, jn, jo, jp, jq, jr, rfl, jw, jx, hr, jy, jz, k0, k1, k2, k3, k4, k5, k6⟩
     cases js with
     | zero => exact absurd hr (by simp [ref14_Repair_l1])
     | succ js =>
      rw [ref14_Repair_l1.eq_2] at hr
      refine W_seq (sr (mv k2 (mv k3 (ln Tryz.underlying22 (rv w0) (h0.mono (j9.trans jx)) (ls (rv (vi jr)) (rv (vi ((a0.length : Int)))) (nn ?_))))))
      refine W_cond _ (rv (vb (decide (jr < (a0.length : Int))))) (fun k7 => ?_) (fun k7 => ?_)
      ·have hr := ite_t k7 hr
       refine W_skip (then_n (W_seq (W_block (sr (mv k4 (mv k2 ?_))))))
       obtain ⟨k8, k9, hr⟩ := bind_some hr
       refine ix Tryz.underlying32 ty4.inf (rv w1) (h1.mono (j9.trans jx)) (rv (vi jr)) k9 (fun ka kb => L_load_bool ty4 (rv ka) kb (by decide) (nn ?_))
       refine W_cond _ (rv (vb k8)) (fun kc => ?_) (fun kc => ?_)
       ·have hr := ite_t kc hr
        obtain ⟨kd, hr⟩ := chk_some hr
        obtain ⟨ke, kf, hr⟩ := bind_some hr
        obtain ⟨kg, hr⟩ := chk_some hr
        refine W_drawO mixed 13 [PX.bld s0.w.heap.size 3 (jo : List Int), PX.eq (vi jr), PX.data (([jr] : List Int) : List Int), PX.bld s0.w.heap.size 3 (jo ++ ([jr] : List Int) : List Int), PX.bld s0.w.heap.size 23 (jq : List (List U8)), PX.data (a0 : List (List U8)), PX.eq (vi jr), PX.ptr (ke : List U8), PX.data (ke : List U8), PX.data (([ke] : List (List U8)) : List (List U8)), PX.bld s0.w.heap.size 23 (jq ++ ([ke] : List (List U8)) : List (List U8)), PX.bld s0.w.heap.size 3 (jo ++ ([jr] : List Int) : List Int), PX.bld s0.w.heap.size 23 (jq ++ ([ke] : List (List U8)) : List (List U8)), PX.bld s0.w.heap.size 3 (jo : List Int), PX.bld s0.w.heap.size 23 (jq : List (List U8))] [50, 51, 52, 53, 54, 55, 56, 57, 58, 59, 60, 8, 9, 8, 9] [[13], [], [], [0], [14], [], [], [], [], [], [4], [3], [10]] rfl (by kernel_rfl) (ent2 rfl (by have hh := jz; rw [← jy] at hh; exact hh) (by have hh := k1; rw [← k0] at hh; exact hh)) (dis2 rfl (fun k h1 kh => k6 k (own_same (jy : _ = jn) h1) (own_same (k0 : _ = jp) kh)) (fun k h1 kh => (fun k hk hm => k6 k hm hk) k (own_same (k0 : _ = jp) h1) (own_same (jy : _ = jn) kh))) (StepsX_cons ?_ (StepsX_cons ?_ (StepsX_cons ?_ (StepsX_cons ?_ (StepsX_cons ?_ (StepsX_cons ?_ (StepsX_cons ?_ (StepsX_cons ?_ (StepsX_cons ?_ (StepsX_cons ?_ (StepsX_cons ?_ (StepsX_cons ?_ (StepsX_cons ?_ StepsX_nil))))))))))))) ?_
        ·intro ki kj kk kl km kn Q ko; obtain ⟨kp, kq, kr⟩ : ∃ v, ki 8 = v ∧ Bld kj s0.w.heap.size 3 v (jo : List Int) := ⟨_, rfl, kl 13 (by kernel_rfl) (by show _ < 15; decide)⟩; exact mv kq (L_nil (ko _ _ No (Ext.refl kj) (fun _ h => h.elim) kr (fun k h => Or.inl ⟨13, (List.mem_singleton.2 rfl : (13 : Nat) ∈ [13]), (by show own (ki 8) k; rw [kq]; exact h)⟩)))
        ·intro ki kj kk kl km kn Q ko; have kp : ki 10 = vi (jr) := (km 10 (by kernel_rfl)).trans k2; exact mv kp (L_nil (ko _ _ No (Ext.refl kj) (fun _ h => h.elim) rfl (fun _ h => h.elim)))
        ·intro ki kj kk kl km kn Q ko; have kp : ki 51 = vi (jr) := kl 1 (by kernel_rfl) (by show _ < 15; decide); refine L_buildSlice (xs := ([jr] : List Int)) Tryz.underlying38 tyz3 (Parts_cons rfl kp Parts_nil) (Vs.cons Vint Vs.nil) rfl (by decide) (by decide) (fun kq kr ks kt ku => ?_); have kv := Tch.ext (Ext.refl kj) ks; exact L_nil (ko _ _ No kv (fun _ h => h.elim) ku (fun _ h => h.elim))
        ·intro ki kj kk kl km kn Q ko; obtain ⟨kp, kq, kr⟩ : ∃ v, ki 50 = v ∧ Bld kj s0.w.heap.size 3 v (jo : List Int) := ⟨_, rfl, kl 0 (by kernel_rfl) (by show _ < 15; decide)⟩; have ks : V _ (ki 52) (([jr] : List Int) : List Int) := kl 2 (by kernel_rfl) (by show _ < 15; decide); obtain ⟨kt, ku, kv⟩ : ∃ v, _ = v ∧ V _ v _ := ⟨_, rfl, ks⟩; exact L_append (xs := jo) (B := s0.w.heap.size) Tryz.underlying38 tyz3 kq ku (kr) (Nat.le_trans jw.size kk.size) kv kd.1 kd.2 (by decide) (fun kw kx ky => L_nil (ko _ _ _ ky.tch (fun k h => ⟨0, (List.mem_singleton.2 rfl : (0 : Nat) ∈ [0]), (by show own (ki 50) k; rw [kq]; exact h)⟩) ky.bld (fun k h => (ky.own k h).imp (fun h => ⟨0, (List.mem_singleton.2 rfl : (0 : Nat) ∈ [0]), (by show own (ki 50) k; rw [kq]; exact h)⟩) (fun h => h))))
        ·intro ki kj kk kl km kn Q ko; obtain ⟨kp, kq, kr⟩ : ∃ v, ki 9 = v ∧ Bld kj s0.w.heap.size 23 v (jq : List (List U8)) := ⟨_, rfl, kl 14 (by kernel_rfl) (by show _ < 15; decide)⟩; exact mv kq (L_nil (ko _ _ No (Ext.refl kj) (fun _ h => h.elim) kr (fun k h => Or.inl ⟨14, (List.mem_singleton.2 rfl : (14 : Nat) ∈ [14]), (by show own (ki 9) k; rw [kq]; exact h)⟩)))
        ·intro ki kj kk kl km kn Q ko; have kp : ki 0 = w0 := (km 0 (by kernel_rfl)).trans k3; exact mv kp (L_nil (ko _ _ No (Ext.refl kj) (fun _ h => h.elim) (h0.mono (j9.trans (jx.trans kk.le))) (fun _ h => h.elim)))
        ·intro ki kj kk kl km kn Q ko; have kp : ki 10 = vi (jr) := (km 10 (by kernel_rfl)).trans k2; exact mv kp (L_nil (ko _ _ No (Ext.refl kj) (fun _ h => h.elim) rfl (fun _ h => h.elim)))
        ·intro ki kj kk kl km kn Q ko; have kp : V _ (ki 55) (a0 : List (List U8)) := kl 5 (by kernel_rfl) (by show _ < 15; decide); obtain ⟨kq, kr, ks⟩ : ∃ v, _ = v ∧ V _ v _ := ⟨_, rfl, kp⟩; have kt : ki 56 = vi (jr) := kl 6 (by kernel_rfl) (by show _ < 15; decide); exact ix Tryz.underlying22 ty23.inf kr ks kt kf (fun ku kv => L_nil (ko _ _ No (Ext.refl kj) (fun _ h => h.elim) kv (fun _ h => h.elim)))
        ·intro ki kj kk kl km kn Q ko; have kp : Ptr _ (ki 57) (ke : List U8) := kl 7 (by kernel_rfl) (by show _ < 15; decide); obtain ⟨kq, kr, ks⟩ : ∃ v, _ = v ∧ Ptr _ v _ := ⟨_, rfl, kp⟩; exact ld ty23 kr ks (fun kt ku => L_nil (ko _ _ No (Ext.refl kj) (fun _ h => h.elim) ku (fun _ h => h.elim)))
        ·intro ki kj kk kl km kn Q ko; have kp : V _ (ki 58) (ke : List U8) := kl 8 (by kernel_rfl) (by show _ < 15; decide); obtain ⟨kq, kr, ks⟩ : ∃ v, _ = v ∧ V _ v _ := ⟨_, rfl, kp⟩; refine L_buildSlice (xs := ([ke] : List (List U8))) Tryz.underlying22 tyz23 (Parts_cons rfl kr Parts_nil) (Vs.cons ks Vs.nil) rfl (by decide) (by decide) (fun kt ku kv kw kx => ?_); have ky := Tch.ext (Ext.refl kj) kv; exact L_nil (ko _ _ No ky (fun _ h => h.elim) kx (fun _ h => h.elim))
        ·intro ki kj kk kl km kn Q ko; obtain ⟨kp, kq, kr⟩ : ∃ v, ki 54 = v ∧ Bld kj s0.w.heap.size 23 v (jq : List (List U8)) := ⟨_, rfl, kl 4 (by kernel_rfl) (by show _ < 15; decide)⟩; have ks : V _ (ki 59) (([ke] : List (List U8)) : List (List U8)) := kl 9 (by kernel_rfl) (by show _ < 15; decide); obtain ⟨kt, ku, kv⟩ : ∃ v, _ = v ∧ V _ v _ := ⟨_, rfl, ks⟩; exact L_append (xs := jq) (B := s0.w.heap.size) Tryz.underlying22 tyz23 kq ku (kr) (Nat.le_trans jw.size kk.size) kv kg.1 kg.2 (by decide) (fun kw kx ky => L_nil (ko _ _ _ ky.tch (fun k h => ⟨4, (List.mem_singleton.2 rfl : (4 : Nat) ∈ [4]), (by show own (ki 54) k; rw [kq]; exact h)⟩) ky.bld (fun k h => (ky.own k h).imp (fun h => ⟨4, (List.mem_singleton.2 rfl : (4 : Nat) ∈ [4]), (by show own (ki 54) k; rw [kq]; exact h)⟩) (fun h => h))))
        ·intro ki kj kk kl km kn Q ko; obtain ⟨kp, kq, kr⟩ : ∃ v, ki 53 = v ∧ Bld kj s0.w.heap.size 3 v (jo ++ ([jr] : List Int) : List Int) := ⟨_, rfl, kl 3 (by kernel_rfl) (by show _ < 15; decide)⟩; exact asg kq (L_nil (ko _ _ No (Ext.refl kj) (fun _ h => h.elim) kr (fun k h => Or.inl ⟨3, (List.mem_singleton.2 rfl : (3 : Nat) ∈ [3]), (by show own (ki 53) k; rw [kq]; exact h)⟩)))
        ·intro ki kj kk kl km kn Q ko; obtain ⟨kp, kq, kr⟩ : ∃ v, ki 60 = v ∧ Bld kj s0.w.heap.size 23 v (jq ++ ([ke] : List (List U8)) : List (List U8)) := ⟨_, rfl, kl 10 (by kernel_rfl) (by show _ < 15; decide)⟩; exact asg kq (L_nil (ko _ _ No (Ext.refl kj) (fun _ h => h.elim) kr (fun k h => Or.inl ⟨10, (List.mem_singleton.2 rfl : (10 : Nat) ∈ [10]), (by show own (ki 60) k; rw [kq]; exact h)⟩)))
        ·intro ki kj kk kl km kn ko; have kp := Tch.trans jw kk (fun k h => Or.inr ((ent_is2 (k := 13) rfl rfl h).elim (fun kh => ((jz).lt (own_same (jy : _ = jn) kh)).1) (fun kh => ((k1).lt (own_same (k0 : _ = jp) kh)).1))); obtain ⟨kq, kr, ks⟩ : ∃ v, ki 8 = v ∧ Bld kj s0.w.heap.size 3 v (jo ++ ([jr] : List Int) : List Int) := ⟨_, rfl, kl 11 (by show _ < 15; decide) (by kernel_rfl)⟩; obtain ⟨kt, ku, kv⟩ : ∃ v, ki 9 = v ∧ Bld kj s0.w.heap.size 23 v (jq ++ ([ke] : List (List U8)) : List (List U8)) := ⟨_, rfl, kl 12 (by show _ < 15; decide) (by kernel_rfl)⟩; have kw : ∀ k, (own kq) k → ¬ (own kt) k := fun k h1 kh => km 11 12 (by show _ < 15; decide) (by show _ < 15; decide) (by kernel_rfl) (by kernel_rfl) (by decide) k (by show own (ki 8) k; rw [kr]; exact h1) (by show own (ki 9) k; rw [ku]; exact kh); have kx : ki 0 = w0 := (ko 0 (by kernel_rfl)).trans k3; have ky : ki 1 = w1 := (ko 1 (by kernel_rfl)).trans k4; have kz : ki 2 = vi (a2) := (ko 2 (by kernel_rfl)).trans k5; have g0 : ki 10 = vi (jr) := (ko 10 (by kernel_rfl)).trans k2; refine block_n (then_n (W_region (mv g0 ?_))); obtain ⟨g1, hr⟩ := chk_some hr; exact ad (rv (vi jr)) (rv (vi 1)) g1 (asg (rv (vi (jr + 1))) (nn ⟨js, Nat.lt_succ_self _, ⟨kj, kq, (jo ++ ([jr] : List Int)), kt, (jq ++ ([ke] : List (List U8))), (jr + 1), rfl, kp, (jx.trans kk.le), hr, kr, ks, ku, kv, rfl, kx, ky, kz, kw⟩⟩))
       ·have hr := ite_f kc hr; refine W_skip (block_n (then_n (W_region (mv k2 ?_)))); obtain ⟨kd, hr⟩ := chk_some hr; exact ad (rv (vi jr)) (rv (vi 1)) kd (asg (rv (vi (jr + 1))) (nn ⟨js, Nat.lt_succ_self _, ⟨jv, jn, jo, jp, jq, (jr + 1), rfl, jw, jx, hr, jy, jz, k0, k1, rfl, k3, k4, k5, k6⟩⟩))
      ·have hr := ite_f k7 hr; refine W_exit (then_x (then_x (block_here ?_))); exact then_n ⟨jv, jn, jo, jp, jq, rfl, jw, jx, Option.some.inj hr, jy, jz, k0, k1, k3, k4, k5, k6⟩
    ·rintro jn jo ⟨jp, jj, jk, jl, jm, rfl, jq, jr, jh, js, jt, ju, jv, jw, jx, jy, jz⟩
     subst jh
     have hr := ji
     try dsimp only at hr
     refine then_n (W_seq (sr (mv ju ?_)))
     have k0 := (jv).toV
     refine ln Tryz.underlying22 (rv jl) k0 (mv jy (ls (rv (vi ((jm.length : Int)))) (rv (vi a2)) (nn ?_)))
     refine W_cond _ (rv (vb (decide ((jm.length : Int) < a2)))) (fun k1 => ?_) (fun k1 => ?_)
     ·have hr := ite_t k1 hr; refine sr (asg (rv (Value.slice none 0 0)) (asg (rv (vi 19)) (nn (W_ret (then_r ?_))))); obtain rfl := Option.some.inj hr; exact done2 (Or.inl rfl) Tryz.results18 rfl rfl ⟨_, _, rfl, rfl, jq, _, _, rfl, Vnil, Vint⟩
     ·have hr := ite_f k1 hr
      refine W_skip (then_n (W_seq (sr (mv ju ?_))))
      have k2 := (jv).toV
      obtain ⟨k3, k4, hr⟩ := bind_some hr
      refine ix Tryz.underlying22 ty23.inf (rv jl) k2 (rv (vi 0)) k4 (fun k5 k6 => ld ty23 (rv k5) k6 (fun k7 k8 => ln Tryz.underlying23 (rv k7) k8 (L_gtr (rv (vi ((k3.length : Int)))) (rv (vi 65536)) (by decide) (nn ?_))))
      refine W_cond _ (rv (vb (decide (65536 < (k3.length : Int))))) (fun k9 => ?_) (fun k9 => ?_)
      ·have hr := ite_t k9 hr; refine sr (asg (rv (Value.slice none 0 0)) (asg (rv (vi 8)) (nn (W_ret (then_r ?_))))); obtain rfl := Option.some.inj hr; exact done2 (Or.inl rfl) Tryz.results18 rfl rfl ⟨_, _, rfl, rfl, jq, _, _, rfl, Vnil, Vint⟩
      ·have hr := ite_f k9 hr
       refine W_skip (then_n (W_seq (sr (asg (rv (vi 0)) (nn ?_)))))
       obtain ⟨ka, kb, kc⟩ := bind_some hr
       refine W_cut (fun f w => ∃ (s : St), s.w = w ∧ Ext s0 s ∧ Le jp s ∧ Sum.inl () = ka ∧ f 0 = w0 ∧ f 1 = w1 ∧ f 2 = vi (a2) ∧ f 8 = jj ∧ f 9 = jl ∧ Bld s s0.w.heap.size 3 jj jk ∧ Bld s s0.w.heap.size 23 jl jm) ?_ ?_
       ·refine W_block (W_loop (fun m f w => ∃ (s : St) (kd : Int), s.w = w ∧ Ext s0 s ∧ Le jp s ∧ ref14_Repair_l2 N jm m kd = some ka ∧ f 11 = vi kd ∧ f 0 = w0 ∧ f 1 = w1 ∧ f 2 = vi (a2) ∧ f 8 = jj ∧ f 9 = jl ∧ Bld s s0.w.heap.size 3 jj jk ∧ Bld s s0.w.heap.size 23 jl jm) N ⟨jp, 0, rfl, jq, (Le.refl _), kb, rfl, jw, jx, jy, js, ju, jt, jv⟩ ?_)
        rintro ke kf kg ⟨kh, kd, rfl, ki, kj, hr, kk, kl, km, kn, ko, kp, kq, kr⟩
        cases ke with
        | zero => exact absurd hr (by simp [ref14_Repair_l2])
        | succ ke =>
         rw [ref14_Repair_l2.eq_2] at hr
         refine W_seq (sr (mv kk (mv kp ?_)))
         have ks := (kr).toV
         refine ln Tryz.underlying22 (rv jl) ks (ls (rv (vi kd)) (rv (vi ((jm.length : Int)))) (nn ?_))
         refine W_cond _ (rv (vb (decide (kd < (jm.length : Int))))) (fun kt => ?_) (fun kt => ?_)
         ·have hr := ite_t kt hr
          refine W_skip (then_n (W_seq (W_block (W_seq ?_))))
          obtain ⟨ku, kv, hr⟩ := bind_some hr
          obtain ⟨kw, kx, hr⟩ := bind_some hr
          refine W_draws mixed (by kernel_rfl) [PV.data (jm : List (List U8)), PV.eq (vi kd), PV.ptr (ku : List U8), PV.data (ku : List U8), PV.eq (vi ((ku.length : Int))), PV.data (jm : List (List U8)), PV.ptr (kw : List U8), PV.data (kw : List U8), PV.eq (vi ((kw.length : Int))), PV.eq (vb (!decide ((ku.length : Int) = (kw.length : Int))))] (Steps_cons ?_ (Steps_cons ?_ (Steps_cons ?_ (Steps_cons ?_ (Steps_cons ?_ (Steps_cons ?_ (Steps_cons ?_ (Steps_cons ?_ (Steps_cons ?_ (Steps_cons ?_ Steps_nil)))))))))) ?_
          ·intro ky kz g0 g1 g2 Q g3; have g4 : ky 9 = jl := (g2 9 (by kernel_rfl)).trans kp; refine mv g4 ?_; have g5 := ((kr).ext g0).toV; exact fin g3 g5
          ·intro ky kz g0 g1 g2 Q g3; have g4 : ky 11 = vi (kd) := (g2 11 (by kernel_rfl)).trans kk; exact mv g4 (fin g3 rfl)
          ·intro ky kz g0 g1 g2 Q g3; have g4 : V _ (ky 76) (jm : List (List U8)) := g1 0 76 (by kernel_rfl) (by kernel_rfl); obtain ⟨g5, g6, g7⟩ : ∃ v, _ = v ∧ V _ v _ := ⟨_, rfl, g4⟩; have g8 : ky 77 = vi (kd) := g1 1 77 (by kernel_rfl) (by kernel_rfl); exact ix Tryz.underlying22 ty23.inf g6 g7 g8 kv (fun g9 ga => fin g3 ga)
          ·intro ky kz g0 g1 g2 Q g3; have g4 : Ptr _ (ky 78) (ku : List U8) := g1 2 78 (by kernel_rfl) (by kernel_rfl); obtain ⟨g5, g6, g7⟩ : ∃ v, _ = v ∧ Ptr _ v _ := ⟨_, rfl, g4⟩; exact ld ty23 g6 g7 (fun g8 g9 => fin g3 g9)
          ·intro ky kz g0 g1 g2 Q g3; have g4 : V _ (ky 79) (ku : List U8) := g1 3 79 (by kernel_rfl) (by kernel_rfl); obtain ⟨g5, g6, g7⟩ : ∃ v, _ = v ∧ V _ v _ := ⟨_, rfl, g4⟩; exact ln Tryz.underlying23 g6 g7 (fin g3 rfl)
          ·intro ky kz g0 g1 g2 Q g3; have g4 : ky 9 = jl := (g2 9 (by kernel_rfl)).trans kp; refine mv g4 ?_; have g5 := ((kr).ext g0).toV; exact fin g3 g5
          ·intro ky kz g0 g1 g2 Q g3; have g4 : V _ (ky 81) (jm : List (List U8)) := g1 5 81 (by kernel_rfl) (by kernel_rfl); obtain ⟨g5, g6, g7⟩ : ∃ v, _ = v ∧ V _ v _ := ⟨_, rfl, g4⟩; exact ix Tryz.underlying22 ty23.inf g6 g7 (rv (vi 0)) kx (fun g8 g9 => fin g3 g9)
          ·intro ky kz g0 g1 g2 Q g3; have g4 : Ptr _ (ky 82) (kw : List U8) := g1 6 82 (by kernel_rfl) (by kernel_rfl); obtain ⟨g5, g6, g7⟩ : ∃ v, _ = v ∧ Ptr _ v _ := ⟨_, rfl, g4⟩; exact ld ty23 g6 g7 (fun g8 g9 => fin g3 g9)
          ·intro ky kz g0 g1 g2 Q g3; have g4 : V _ (ky 83) (kw : List U8) := g1 7 83 (by kernel_rfl) (by kernel_rfl); obtain ⟨g5, g6, g7⟩ : ∃ v, _ = v ∧ V _ v _ := ⟨_, rfl, g4⟩; exact ln Tryz.underlying23 g6 g7 (fin g3 rfl)
          ·intro ky kz g0 g1 g2 Q g3; have g4 : ky 80 = vi ((ku.length : Int)) := g1 4 80 (by kernel_rfl) (by kernel_rfl); have g5 : ky 84 = vi ((kw.length : Int)) := g1 8 84 (by kernel_rfl) (by kernel_rfl); exact ne g4 g5 (fin g3 rfl)
          ·intro ky kz g0 g1 g2
           have g3 := Tch.ext ki g0
           have g4 : ky 0 = w0 := (g2 0 (by kernel_rfl)).trans kl
           have g5 : ky 1 = w1 := (g2 1 (by kernel_rfl)).trans km
           have g6 : ky 2 = vi (a2) := (g2 2 (by kernel_rfl)).trans kn
           have g7 : ky 8 = jj := (g2 8 (by kernel_rfl)).trans ko
           have g8 : ky 9 = jl := (g2 9 (by kernel_rfl)).trans kp
           have g9 : ky 11 = vi (kd) := (g2 11 (by kernel_rfl)).trans kk
           have ga : ky 85 = vb (!decide ((ku.length : Int) = (kw.length : Int))) := g1 9 85 (by kernel_rfl)
           refine then_n ?_
           refine W_cond _ ga (fun gb => ?_) (fun gb => ?_)
           ·have hr := ite_t gb hr; refine sr (asg (rv (Value.slice none 0 0)) (asg (rv (vi 26)) (nn (W_ret (block_r (then_r (then_r (block_r ?_)))))))); obtain rfl := Option.some.inj hr; have hr := kc; (try dsimp only at hr); refine then_r (then_r ?_); obtain rfl := Option.some.inj hr; exact done2 (Or.inl rfl) Tryz.results18 rfl rfl ⟨_, _, rfl, rfl, g3, _, _, rfl, Vnil, Vint⟩
           ·have hr := ite_f gb hr; refine W_skip (block_n (then_n (W_region (mv g9 ?_)))); obtain ⟨gc, hr⟩ := chk_some hr; exact ad (rv (vi kd)) (rv (vi 1)) gc (asg (rv (vi (kd + 1))) (nn ⟨ke, Nat.lt_succ_self _, ⟨kz, (kd + 1), rfl, g3, (kj.trans g0.le), hr, rfl, g4, g5, g6, g7, g8, (kq).ext g0, (kr).ext g0⟩⟩))
         ·have hr := ite_f kt hr; refine W_exit (then_x (then_x (block_here ?_))); exact then_n ⟨kh, rfl, ki, kj, Option.some.inj hr, kl, km, kn, ko, kp, kq, kr⟩
       ·rintro kd ke ⟨kf, rfl, kg, kh, kb, ki, kj, kk, kl, km, kn, ko⟩
        subst kb
        have hr := kc
        try dsimp only at hr
        refine then_n (W_seq ?_)
        obtain ⟨kp, kq, hr⟩ := bind_some hr
        obtain ⟨kr, ks, hr⟩ := bind_some hr
        obtain ⟨kt, ku, hr⟩ := bind_some hr
        refine W_draws mixed (by kernel_rfl) [PV.data (jk : List Int), PV.eq (vi a2), PV.data (kp : List Int), PV.data (jm : List (List U8)), PV.eq (vi a2), PV.data (kr : List (List U8)), PV.data (kt : List (List U8)), PV.data (kt : List (List U8))] (Steps_cons ?_ (Steps_cons ?_ (Steps_cons ?_ (Steps_cons ?_ (Steps_cons ?_ (Steps_cons ?_ (Steps_cons ?_ (Steps_cons ?_ Steps_nil)))))))) ?_
        ·intro kv kw kx ky kz Q g0; have g1 : kv 8 = jj := (kz 8 (by kernel_rfl)).trans kl; refine mv g1 ?_; have g2 := ((kn).ext kx).toV; exact fin g0 g2
        ·intro kv kw kx ky kz Q g0; have g1 : kv 2 = vi (a2) := (kz 2 (by kernel_rfl)).trans kk; exact mv g1 (fin g0 rfl)
        ·intro kv kw kx ky kz Q g0; have g1 : V _ (kv 86) (jk : List Int) := ky 0 86 (by kernel_rfl) (by kernel_rfl); obtain ⟨g2, g3, g4⟩ : ∃ v, _ = v ∧ V _ v _ := ⟨_, rfl, g1⟩; have g5 : kv 87 = vi (a2) := ky 1 87 (by kernel_rfl) (by kernel_rfl); exact L_slice_h Tryz.underlying38 ty3.inf g3 g4 g5 kq (by decide) (fun g6 g7 => fin g0 g7)
        ·intro kv kw kx ky kz Q g0; have g1 : kv 9 = jl := (kz 9 (by kernel_rfl)).trans km; refine mv g1 ?_; have g2 := ((ko).ext kx).toV; exact fin g0 g2
        ·intro kv kw kx ky kz Q g0; have g1 : kv 2 = vi (a2) := (kz 2 (by kernel_rfl)).trans kk; exact mv g1 (fin g0 rfl)
        ·intro kv kw kx ky kz Q g0; have g1 : V _ (kv 89) (jm : List (List U8)) := ky 3 89 (by kernel_rfl) (by kernel_rfl); obtain ⟨g2, g3, g4⟩ : ∃ v, _ = v ∧ V _ v _ := ⟨_, rfl, g1⟩; have g5 : kv 90 = vi (a2) := ky 4 90 (by kernel_rfl) (by kernel_rfl); exact L_slice_h Tryz.underlying22 ty23.inf g3 g4 g5 ks (by decide) (fun g6 g7 => fin g0 g7)
        ·intro kv kw kx ky kz Q g0; have g1 : V _ (kv 88) (kp : List Int) := ky 2 88 (by kernel_rfl) (by kernel_rfl); obtain ⟨g2, g3, g4⟩ : ∃ v, _ = v ∧ V _ v _ := ⟨_, rfl, g1⟩; have g5 : V _ (kv 91) (kr : List (List U8)) := ky 5 91 (by kernel_rfl) (by kernel_rfl); obtain ⟨g6, g7, g8⟩ : ∃ v, _ = v ∧ V _ v _ := ⟨_, rfl, g5⟩; refine L_calls cal58 (args2 g3 g7) (ref14_solved_ok N _ _ _ g4 _ _ g8 kt ku) (by decide) (fun g9 ga gb gc => ?_); have gd := Tch.ext (Ext.refl kw) gb; exact L_nil (g0 _ _ gd gc)
        ·intro kv kw kx ky kz Q g0; have g1 : V _ (kv 92) (kt : List (List U8)) := ky 6 92 (by kernel_rfl) (by kernel_rfl); obtain ⟨g2, g3, g4⟩ : ∃ v, _ = v ∧ V _ v _ := ⟨_, rfl, g1⟩; exact asg g3 (fin g0 g4)
        ·intro kv kw kx ky kz
         have g0 := Tch.ext kg kx
         have g1 : kv 0 = w0 := (kz 0 (by kernel_rfl)).trans ki
         have g2 : kv 1 = w1 := (kz 1 (by kernel_rfl)).trans kj
         have g3 : kv 2 = vi (a2) := (kz 2 (by kernel_rfl)).trans kk
         have g4 : V _ (kv 12) (kt : List (List U8)) := ky 7 12 (by kernel_rfl)
         obtain ⟨g5, g6, g7⟩ : ∃ v, _ = v ∧ V _ v _ := ⟨_, rfl, g4⟩
         refine then_n (sr (asg (rv (Value.slice none 0 0)) (nn (W_seq (sr (asg (rv (vi 0)) (nn ?_)))))))
         obtain ⟨g8, g9, ga⟩ := bind_some hr
         refine W_cut (fun f w => ∃ (s : St) (gb : Value) (gc : List (List U8)), s.w = w ∧ Ext s0 s ∧ Le kw s ∧ Sum.inl gc = g8 ∧ f 13 = gb ∧ Bld s s0.w.heap.size 23 gb gc) ?_ ?_
         ·refine W_block (W_loop (fun m f w => ∃ (s : St) (gd : Value) (gg : List (List U8)) (gh : Int), s.w = w ∧ Ext s0 s ∧ Le kw s ∧ ref14_Repair_l3 N a0 a1 a2 kt m gg gh = some g8 ∧ f 13 = gd ∧ Bld s s0.w.heap.size 23 gd gg ∧ f 14 = vi gh ∧ f 0 = w0 ∧ f 1 = w1 ∧ f 2 = vi (a2) ∧ f 12 = g5) N ⟨kw, (Value.slice none 0 0), ([]), 0, rfl, g0, (Le.refl _), g9, rfl, Bld.nil, rfl, g1, g2, g3, g6⟩ ?_)
          rintro gi gj gk ⟨gl, gd, gg, gh, rfl, gm, gn, hr, go, gp, gq, gr, gs, gu, gv⟩
          cases gi with
          | zero => exact absurd hr (by simp [ref14_Repair_l3])
          | succ gi =>
           rw [ref14_Repair_l3.eq_2] at hr
           refine W_seq (sr (mv gq (mv gr (ln Tryz.underlying22 (rv w0) (h0.mono (j9.trans (jr.trans (kh.trans (kx.le.trans gn))))) (ls (rv (vi gh)) (rv (vi ((a0.length : Int)))) (nn ?_))))))
           refine W_cond _ (rv (vb (decide (gh < (a0.length : Int))))) (fun gw => ?_) (fun gw => ?_)
           ·have hr := ite_t gw hr
            refine W_skip (then_n (W_seq (W_block (sr (mv gq (mv gu ?_))))))
            obtain ⟨gx, gy, hr⟩ := bind_some hr
            refine L_calls cal53 (args2 (rv (vi gh)) (rv (vi a2))) (ref14_weights_ok N _ gh a2 gx gy) (by decide) (fun gz u0 u1 u2 => ?_)
            have u3 := Tch.ext gm u1
            refine mv gv ?_
            obtain ⟨u4, u5, hr⟩ := bind_some hr
            refine L_calls cal52 (args2 (rv gz) (rv g5)) (ref14_combined_ok N _ _ _ u2 _ _ (g7.mono (gn.trans u1.le)) u4 u5) (by decide) (fun u6 u7 u9 ua => ?_)
            have ub := Tch.ext u3 u9
            refine asg (rv u6) (nn (W_seq ?_))
            obtain ⟨uc, ud, ue⟩ := bind_some hr
            refine W_seq_cut (fun f w => ∃ (s : St) (uf : Bool), s.w = w ∧ Ext s0 s ∧ Le u7 s ∧ uf = uc ∧ f 116 = vb uf ∧ f 0 = w0 ∧ f 1 = w1 ∧ f 2 = vi (a2) ∧ f 12 = g5 ∧ f 13 = gd ∧ f 14 = vi (gh) ∧ f 15 = u6 ∧ Bld s s0.w.heap.size 23 gd gg) ?_ ?_
            ·have hr := ud
             refine W_region (mv gs (mv gq ?_))
             obtain ⟨ug, uh, hr⟩ := bind_some hr
             refine ix Tryz.underlying32 ty4.inf (rv w1) (h1.mono (j9.trans (jr.trans (kh.trans (kx.le.trans (gn.trans (u1.le.trans u9.le))))))) (rv (vi gh)) uh (fun ui uj => L_load_bool ty4 (rv ui) uj (by decide) (mv (rv (vb ug)) ?_))
             rcases tf (ug) with uk | uk
             ·have hr := ite_t uk hr; refine gt 108 (rv (vb ug)) uk (mv (rv u6) (gt 108 (rv (vb ug)) uk (mv gr (gt 108 (rv (vb ug)) uk (mv gq (gt 108 (rv (vb ug)) uk ?_)))))); obtain ⟨ul, um, hr⟩ := bind_some hr; refine ix Tryz.underlying22 ty23.inf (rv w0) (h0.mono (j9.trans (jr.trans (kh.trans (kx.le.trans (gn.trans (u1.le.trans u9.le))))))) (rv (vi gh)) um (fun un uo => gt 108 (rv (vb ug)) uk (ld ty23 (rv un) uo (fun up uq => gt 108 (rv (vb ug)) uk ?_))); obtain ⟨ur, us, hr⟩ := bind_some hr; refine L_calls cal59 (args2 (rv u6) (rv up)) (ref14_same_ok N _ _ _ ua _ _ uq ur us) (by decide) (fun ut uu uv uw => ?_); have ux := Tch.ext ub uv; obtain rfl := uw.bool; exact gt 108 (rv (vb ug)) uk (L_not (rv (vb ur)) (by decide) (pt (rv (vb ug)) uk (rv (vb (!ur))) (nn ⟨uu, (!ur), rfl, ux, uv.le, Option.some.inj hr, rfl, gr, gs, gu, gv, go, gq, rfl, (((gp).ext u1).ext u9).ext uv⟩)))
             ·have hr := ite_f uk hr; exact gf 108 (rv (vb ug)) uk (gf 108 (rv (vb ug)) uk (gf 108 (rv (vb ug)) uk (gf 108 (rv (vb ug)) uk (gf 108 (rv (vb ug)) uk (gf 108 (rv (vb ug)) uk (gf 108 (rv (vb ug)) uk (pf (rv (vb ug)) uk (rv (vb false)) (nn ⟨u7, false, rfl, ub, (Le.refl _), Option.some.inj hr, rfl, gr, gs, gu, gv, go, gq, rfl, ((gp).ext u1).ext u9⟩))))))))
            ·rintro ug uh ⟨ui, uf, rfl, uj, uk, ud, ul, um, un, uo, up, uq, ur, us, ut⟩
             subst ud
             have hr := ue
             try dsimp only at hr
             refine W_cond _ ul (fun uu => ?_) (fun uu => ?_)
             ·have hr := ite_t uu hr; refine sr (asg (rv (Value.slice none 0 0)) (asg (rv (vi 20)) (nn (W_ret (then_r (block_r (then_r (then_r (block_r ?_))))))))); obtain rfl := Option.some.inj hr; have hr := ga; (try dsimp only at hr); refine then_r (then_r ?_); obtain rfl := Option.some.inj hr; exact done2 (Or.inl rfl) Tryz.results18 rfl rfl ⟨_, _, rfl, rfl, uj, _, _, rfl, Vnil, Vint⟩
             ·have hr := ite_f uu hr; refine W_skip (then_n (W_region (mv uq (mv us (L_buildSlice (xs := ([u4] : List (List U8))) Tryz.underlying22 tyz23 (Parts_cons rfl (rv u6) Parts_nil) (Vs.cons (ua.mono uk) Vs.nil) rfl (by decide) (by decide) (fun uv uw ux uy uz => ?_)))))); have t0 := Tch.ext uj ux; obtain ⟨t1, hr⟩ := chk_some hr; refine L_append (xs := gg) (B := s0.w.heap.size) Tryz.underlying22 tyz23 (rv gd) (rv uw) ((ut).ext ux) (t0.size) uz t1.1 t1.2 (by decide) (fun t2 t3 t4 => ?_); have t5 := t4.tchM ((ut).ext ux) t0 (Nat.le_refl _); refine asg (rv t2) (L_nil (block_n (then_n (W_region (mv ur ?_))))); obtain ⟨t6, hr⟩ := chk_some hr; exact ad (rv (vi gh)) (rv (vi 1)) t6 (asg (rv (vi (gh + 1))) (nn ⟨gi, Nat.lt_succ_self _, ⟨t3, t2, (gg ++ ([u4] : List (List U8))), (gh + 1), rfl, t5, (gn.trans (u1.le.trans (u9.le.trans (uk.trans (ux.le.trans t4.tch.le))))), hr, rfl, t4.bld, rfl, um, un, uo, up⟩⟩))
           ·have hr := ite_f gw hr; refine W_exit (then_x (then_x (block_here ?_))); exact then_n ⟨gl, gd, gg, rfl, gm, gn, Option.some.inj hr, go, gp⟩
         ·rintro gd gg ⟨gh, gb, gc, rfl, gi, gj, g9, gk, gl⟩; subst g9; have hr := ga; (try dsimp only at hr); refine then_n (sr (mv gk ?_)); have gm := (gl).toV; refine asg (rv gb) (asg (rv (vi 0)) (nn (W_ret ?_))); obtain rfl := Option.some.inj hr; exact done2 (Or.inl rfl) Tryz.results18 rfl rfl ⟨_, _, rfl, rfl, gi, _, _, rfl, gm, Vint⟩

theorem check_Blame_ok (N : Nat) (s0 : St) (w0 : Value) (a0 : List (List U8)) (h0 : V s0 w0 a0) (a1 : Int) (r : Int × Int) (hr : check_Blame N a0 a1 = some r) :
    Calls Tryz.prog 30 #[w0, .int .i64 a1] s0.w (Ret s0 fun v s => ∃ a b, v = .tuple #[a, b] ∧ V s a r.1 ∧ V s b r.2) := by
 unfold check_Blame at hr
 have j0 := Ext.refl s0
 refine Calls_of (n := 61) (args := [w0, .int .i64 a1]) Tryz.func30 rfl rfl (by simp) (sr (asg (rv (vi 0)) (asg (rv (vi 0)) (nn (sr (L_buildSlice (xs := ([true] : List Bool)) Tryz.underlying32 tyz4 (Parts_cons rfl (rv (vb true)) Parts_nil) (Vs.cons Vbool Vs.nil) rfl (by decide) (by decide) (fun j1 j2 j3 j4 j5 => ?_)))))))
 have j6 := Tch.ext j0 j3
 refine mv (rv w0) (ln Tryz.underlying22 (rv w0) (h0.mono j3.le) (L_min (rv (vi ((a0.length : Int)))) (rv (vi 33)) (by decide) ?_))
 obtain ⟨j7, j8, hr⟩ := bind_some hr
 refine L_calls cal82 (args2 (rv j2) (rv (vi (min (a0.length : Int) 33)))) (slices_Repeat_Lbool_bool_ok N _ _ _ j5 (min (a0.length : Int) 33) j7 j8) (by decide) (fun j9 ja jb jc => ?_)
 have jd := Tch.ext j6 jb
 obtain ⟨je, jf, rfl, jg⟩ := jc
 refine asg (rv (Value.slice (some ⟨je, 0, none⟩) j7.length j7.length)) (nn (W_seq (sr (mv (rv w0) (mv (rv (Value.slice (some ⟨je, 0, none⟩) j7.length j7.length)) (mv (rv (vi a1)) ?_))))))
 obtain ⟨jh, ji, hr⟩ := bind_some hr
 obtain ⟨jj, jk, jl, jm⟩ := (jg).freeze
 refine L_calls_fz cal17 (args3 (rv w0) (rv (Value.slice (some ⟨je, 0, none⟩) j7.length j7.length)) (rv (vi a1))) jk jl (fun k hk => by have jn : k = je := hk; rw [jn]; exact (jg).g) (check_Repair_ok N _ _ _ (h0.mono (j3.le.trans (jb.le.trans jl.le))) _ _ jm a1 jh ji) (by decide) (fun jo jp jq jr js jt => ?_)
 have ju := Tch.ext jd js
 obtain ⟨jv, jw, rfl, jx, jy⟩ := jt
 obtain rfl := jy.int
 refine mv (rv (Value.tuple #[jv, vi (jh.2)])) (xt (rv (Value.tuple #[jv, vi (jh.2)])) (k := 0) rfl (xt (rv (Value.tuple #[jv, vi (jh.2)])) (k := 1) rfl (asg (rv jv) (asg (rv (vi (jh.2))) (nn (sr (mv (rv (vi (jh.2))) (ne (rv (vi (jh.2))) (rv (vi 20)) (nn ?_)))))))))
 refine W_cond _ (rv (vb (!decide (jh.2 = 20)))) (fun jz => ?_) (fun jz => ?_)
 ·have hr := ite_t jz hr
  refine W_seq (sr (mv (rv (vi (jh.2))) (ne (rv (vi (jh.2))) (rv (vi 0)) (nn ?_))))
  refine W_cond _ (rv (vb (!decide (jh.2 = 0)))) (fun k0 => ?_) (fun k0 => ?_)
  ·have hr := ite_t k0 hr; refine sr (mv (rv (vi (jh.2))) (asg (rv (vi 0)) (asg (rv (vi (jh.2))) (nn (W_ret (then_r (then_r ?_))))))); obtain rfl := Option.some.inj hr; exact done2 (Or.inl rfl) Tryz.results30 rfl rfl ⟨_, _, rfl, rfl, ju, _, _, rfl, Vint, Vint⟩
  ·have hr := ite_f k0 hr; refine W_skip (then_n (sr (asg (rv (vi (-1))) (asg (rv (vi 0)) (nn (W_ret (then_r ?_))))))); obtain rfl := Option.some.inj hr; exact done2 (Or.inl rfl) Tryz.results30 rfl rfl ⟨_, _, rfl, rfl, ju, _, _, rfl, Vint, Vint⟩
 ·have hr := ite_f jz hr
  refine W_skip (then_n (sr (asg (rv (Value.slice none 0 0)) (nn (W_seq (sr (mv (rv w0) (ln Tryz.underlying22 (rv w0) (h0.mono (j3.le.trans (jb.le.trans js.le))) (mv (rv (vi 0)) (nn ?_))))))))))
  obtain ⟨k0, k1, k2⟩ := bind_some hr
  refine W_cut (fun f w => ∃ (s : St) (k3 : Value) (k4 : List Int), s.w = w ∧ Ext s0 s ∧ Le jq s ∧ k4 = k0 ∧ f 9 = k3 ∧ Bld s s0.w.heap.size 3 k3 k4) ?_ ?_
  ·refine W_block (W_loop (fun m f w => ∃ (s : St) (k5 : Value) (k6 : List Int) (k7 : Int) (k8 : List Bool), s.w = w ∧ Ext s0 s ∧ Le jq s ∧ check_Blame_l1 N a0 a1 m k6 k7 k8 = some k0 ∧ f 9 = k5 ∧ Bld s s0.w.heap.size 3 k5 k6 ∧ f 32 = vi k7 ∧ f 0 = w0 ∧ f 1 = vi (a1) ∧ f 6 = Value.slice (some ⟨je, 0, none⟩) j7.length j7.length ∧ f 31 = vi ((a0.length : Int)) ∧ Arr s je 4 j7.length k8 ∧ (∀ k, (own k5) k → ¬ (fun k => k = je) k)) N ⟨jq, (Value.slice none 0 0), ([]), 0, j7, rfl, ju, (Le.refl _), k1, rfl, Bld.nil, rfl, rfl, rfl, rfl, rfl, (jg).ext js, (fun k h => absurd h own_nil)⟩ ?_)
   rintro k9 ka kb ⟨kc, k5, k6, k7, k8, rfl, kd, ke, hr, kf, kg, kh, ki, kj, kk, kl, km, kn⟩
   cases k9 with
   | zero => exact absurd hr (by simp [check_Blame_l1])
   | succ k9 =>
    rw [check_Blame_l1.eq_2] at hr
    refine sr (ls kh kl (nn (W_seq ?_)))
    refine W_cond _ (rv (vb (decide (k7 < (a0.length : Int))))) (fun ko => ?_) (fun ko => ?_)
    ·have hr := ite_t ko hr
     refine W_skip (then_n (W_seq (W_block (sr (mv kh (asg (rv (vi k7)) (nn (sr (mv kk (mv (rv (vi k7)) ?_))))))))))
     obtain ⟨kp, kq, hr⟩ := bind_some hr
     refine L_indexA (sz := 1) Tryz.underlying32 ty4.inf (rv (Value.slice (some ⟨je, 0, none⟩) j7.length j7.length)) (rv (vi k7)) (idx_some kq).1 (by have := (idx_some kq).2.1; have := (km).1; omega) (by decide) (L_storeA (xs := k8) ty4 (rv (Value.pointer (some ⟨je, (k7).toNat * 1, none⟩))) (rv (vb false)) Vbool (km) kq (fun kr ks kt => ?_))
     have ku := Tch.trans kd ks (fun k hk => Or.inr (by subst hk; exact (Nat.le_trans j6.size jf)))
     refine nn (W_seq (sr (mv ki (mv kk (mv kj ?_)))))
     obtain ⟨kv, kw, hr⟩ := bind_some hr
     obtain ⟨kx, ky, kz, g0⟩ := (kt).freeze
     refine L_calls_fz cal17 (args3 (rv w0) (rv (Value.slice (some ⟨je, 0, none⟩) j7.length j7.length)) (rv (vi a1))) ky kz (fun k hk => by have jn : k = je := hk; rw [jn]; exact (kt).g) (check_Repair_ok N _ _ _ (h0.mono (j3.le.trans (jb.le.trans (js.le.trans (ke.trans (ks.le.trans kz.le)))))) _ _ g0 a1 kv kw) (by decide) (fun g1 g2 g3 g4 g5 g6 => ?_)
     have g7 := Tch.ext ku g5
     obtain ⟨g8, g9, rfl, ga, gb⟩ := g6
     obtain rfl := gb.int
     refine mv (rv (Value.tuple #[g8, vi (kv.2)])) (xt (rv (Value.tuple #[g8, vi (kv.2)])) (k := 0) rfl (xt (rv (Value.tuple #[g8, vi (kv.2)])) (k := 1) rfl (asg (rv g8) (asg (rv (vi (kv.2))) (nn (sr (mv (rv (vi (kv.2))) (el (rv (vi (kv.2))) (rv (vi 0)) (nn ?_)))))))))
     refine W_cond _ (rv (vb (decide (kv.2 = 0)))) (fun gc => ?_) (fun gc => ?_)
     ·have hr := ite_t gc hr
      refine W_region (mv kf (mv (rv (vi k7)) (L_buildSlice (xs := ([k7] : List Int)) Tryz.underlying38 tyz3 (Parts_cons rfl (rv (vi k7)) Parts_nil) (Vs.cons Vint Vs.nil) rfl (by decide) (by decide) (fun gd gg gh gi gj => ?_))))
      have gk := Tch.ext g7 gh
      obtain ⟨gl, hr⟩ := chk_some hr
      refine L_append (xs := k6) (B := s0.w.heap.size) Tryz.underlying38 tyz3 (rv k5) (rv gg) ((((kg).tch ks kn).ext g5).ext gh) (gk.size) gj gl.1 gl.2 (by decide) (fun gm gn go => ?_)
      have gp := go.tchM ((((kg).tch ks kn).ext g5).ext gh) gk (Nat.le_refl _)
      have gq : ∀ k, (fun k => k = je) k → ¬ own gm k := fun k gr gs => by rcases go.own k gs with gu | gu; exact (fun k hk hm => kn k hm hk) k gr gu; have gv := (((kt).ext g5).ext gh).lt; subst gr; omega
      refine asg (rv gm) (nn (W_region (mv kk (mv (rv (vi k7)) ?_))))
      obtain ⟨gw, gx, hr⟩ := bind_some hr
      refine L_indexA (sz := 1) Tryz.underlying32 ty4.inf (rv (Value.slice (some ⟨je, 0, none⟩) j7.length j7.length)) (rv (vi k7)) (idx_some gx).1 (by have := (idx_some gx).2.1; have := ((((kt).ext g5).ext gh).tch go.tch ((fun k hk hm => kn k hm hk) je rfl)).1; omega) (by decide) (L_storeA (xs := (k8.set (k7).toNat false)) ty4 (rv (Value.pointer (some ⟨je, (k7).toNat * 1, none⟩))) (rv (vb true)) Vbool ((((kt).ext g5).ext gh).tch go.tch ((fun k hk hm => kn k hm hk) je rfl)) gx (fun gy gz u0 => ?_))
      have u1 := Tch.trans gp gz (fun k hk => Or.inr (by subst hk; exact (Nat.le_trans j6.size jf)))
      refine L_nil (block_n (then_n (W_region ?_)))
      obtain ⟨u2, hr⟩ := chk_some hr
      exact ad kh (rv (vi 1)) u2 (mv (rv (vi (k7 + 1))) (nn ⟨k9, Nat.lt_succ_self _, ⟨gy, gm, (k6 ++ ([k7] : List Int)), (k7 + 1), ((k8.set (k7).toNat false).set (k7).toNat true), rfl, u1, (ke.trans (ks.le.trans (g5.le.trans (gh.le.trans (go.tch.le.trans gz.le))))), hr, rfl, (go.bld).tch gz (fun k hk hm => gq k hm hk), rfl, ki, kj, kk, kl, u0, (fun k hk hm => gq k hm hk)⟩⟩))
     ·have hr := ite_f gc hr; refine W_skip (then_n (W_region (mv kk (mv (rv (vi k7)) ?_)))); obtain ⟨gd, gg, hr⟩ := bind_some hr; refine L_indexA (sz := 1) Tryz.underlying32 ty4.inf (rv (Value.slice (some ⟨je, 0, none⟩) j7.length j7.length)) (rv (vi k7)) (idx_some gg).1 (by have := (idx_some gg).2.1; have := ((kt).ext g5).1; omega) (by decide) (L_storeA (xs := (k8.set (k7).toNat false)) ty4 (rv (Value.pointer (some ⟨je, (k7).toNat * 1, none⟩))) (rv (vb true)) Vbool ((kt).ext g5) gg (fun gh gi gj => ?_)); have gk := Tch.trans g7 gi (fun k hk => Or.inr (by subst hk; exact (Nat.le_trans j6.size jf))); refine L_nil (block_n (then_n (W_region ?_))); obtain ⟨gl, hr⟩ := chk_some hr; exact ad kh (rv (vi 1)) gl (mv (rv (vi (k7 + 1))) (nn ⟨k9, Nat.lt_succ_self _, ⟨gh, k5, k6, (k7 + 1), ((k8.set (k7).toNat false).set (k7).toNat true), rfl, gk, (ke.trans (ks.le.trans (g5.le.trans gi.le))), hr, kf, (((kg).tch ks kn).ext g5).tch gi kn, rfl, ki, kj, kk, kl, gj, kn⟩⟩))
    ·have hr := ite_f ko hr; refine W_exit (then_x (then_x (block_here ?_))); exact then_n ⟨kc, k5, k6, rfl, kd, ke, Option.some.inj hr, kf, kg⟩
  ·rintro k5 k6 ⟨k7, k3, k4, rfl, k8, k9, k1, ka, kb⟩
   subst k1
   have hr := k2
   try dsimp only at hr
   refine then_n (W_seq (sr (mv ka ?_)))
   have kc := (kb).toV
   refine ln Tryz.underlying38 (rv k3) kc (ne (rv (vi ((k4.length : Int)))) (rv (vi 1)) (nn ?_))
   refine W_cond _ (rv (vb (!decide ((k4.length : Int) = 1)))) (fun kd => ?_) (fun kd => ?_)
   ·have hr := ite_t kd hr; refine sr (asg (rv (vi 0)) (asg (rv (vi 20)) (nn (W_ret (then_r ?_))))); obtain rfl := Option.some.inj hr; exact done2 (Or.inl rfl) Tryz.results30 rfl rfl ⟨_, _, rfl, rfl, k8, _, _, rfl, Vint, Vint⟩
   ·have hr := ite_f kd hr; refine W_skip (then_n (sr (mv ka ?_))); have ke := (kb).toV; obtain ⟨kf, kg, hr⟩ := bind_some hr; refine ix Tryz.underlying38 ty3.inf (rv k3) ke (rv (vi 0)) kg (fun kh ki => li ty3 (rv kh) ki (asg (rv (vi kf)) (asg (rv (vi 0)) (nn (W_ret ?_))))); obtain rfl := Option.some.inj hr; exact done2 (Or.inl rfl) Tryz.results30 rfl rfl ⟨_, _, rfl, rfl, k8, _, _, rfl, Vint, Vint⟩

theorem ref14_Blame_ok (N : Nat) (s0 : St) (w0 : Value) (a0 : List (List U8)) (h0 : V s0 w0 a0) (a1 : Int) (r : Int × Int) (hr : ref14_Blame N a0 a1 = some r) :
    Calls Tryz.prog 31 #[w0, .int .i64 a1] s0.w (Ret s0 fun v s => ∃ a b, v = .tuple #[a, b] ∧ V s a r.1 ∧ V s b r.2) := by
 unfold ref14_Blame at hr
 have j0 := Ext.refl s0
 refine Calls_of (n := 51) (args := [w0, .int .i64 a1]) Tryz.func31 rfl rfl (by simp) (sr (asg (rv (vi 0)) (asg (rv (vi 0)) (nn (sr (mv (rv w0) (mv (rv w0) (ln Tryz.underlying22 (rv w0) h0 ?_))))))))
 obtain ⟨j1, j2, hr⟩ := bind_some hr
 refine L_calls cal83 (args2 (rv (vi ((a0.length : Int)))) (rv (vi (-1)))) (ref14_all_ok N _ (a0.length : Int) (-1) j1 j2) (by decide) (fun j3 j4 j5 j6 => ?_)
 have j7 := Tch.ext j0 j5
 refine mv (rv (vi a1)) ?_
 obtain ⟨j8, j9, hr⟩ := bind_some hr
 refine L_calls cal18 (args3 (rv w0) (rv j3) (rv (vi a1))) (ref14_Repair_ok N _ _ _ (h0.mono j5.le) _ _ j6 a1 j8 j9) (by decide) (fun ja jb jc jd => ?_)
 have je := Tch.ext j7 jc
 obtain ⟨jf, jg, rfl, jh, ji⟩ := jd
 obtain rfl := ji.int
 refine mv (rv (Value.tuple #[jf, vi (j8.2)])) (xt (rv (Value.tuple #[jf, vi (j8.2)])) (k := 0) rfl (xt (rv (Value.tuple #[jf, vi (j8.2)])) (k := 1) rfl (asg (rv jf) (asg (rv (vi (j8.2))) (nn (W_seq (sr (mv (rv (vi (j8.2))) (el (rv (vi (j8.2))) (rv (vi 0)) (nn ?_))))))))))
 refine W_cond _ (rv (vb (decide (j8.2 = 0)))) (fun jj => ?_) (fun jj => ?_)
 ·have hr := ite_t jj hr; refine sr (asg (rv (vi (-1))) (asg (rv (vi 0)) (nn (W_ret (then_r ?_))))); obtain rfl := Option.some.inj hr; exact done2 (Or.inl rfl) Tryz.results31 rfl rfl ⟨_, _, rfl, rfl, je, _, _, rfl, Vint, Vint⟩
 ·have hr := ite_f jj hr
  refine W_skip (then_n (W_seq (sr (mv (rv (vi (j8.2))) (ne (rv (vi (j8.2))) (rv (vi 20)) (nn ?_))))))
  refine W_cond _ (rv (vb (!decide (j8.2 = 20)))) (fun jk => ?_) (fun jk => ?_)
  ·have hr := ite_t jk hr; refine sr (mv (rv (vi (j8.2))) (asg (rv (vi 0)) (asg (rv (vi (j8.2))) (nn (W_ret (then_r ?_)))))); obtain rfl := Option.some.inj hr; exact done2 (Or.inl rfl) Tryz.results31 rfl rfl ⟨_, _, rfl, rfl, je, _, _, rfl, Vint, Vint⟩
  ·have hr := ite_f jk hr
   refine W_skip (then_n (sr (asg (rv (vi 0)) (asg (rv (vi 0)) (nn (W_seq (sr (asg (rv (vi 0)) (nn ?_)))))))))
   obtain ⟨jl, jm, jn⟩ := bind_some hr
   refine W_cut (fun f w => ∃ (s : St) (jo : Int) (jp : Int), s.w = w ∧ Ext s0 s ∧ Le jb s ∧ (jo, jp) = jl ∧ f 8 = vi jo ∧ f 9 = vi jp) ?_ ?_
   ·refine W_block (W_loop (fun m f w => ∃ (s : St) (jq : Int) (jr : Int) (js : Int), s.w = w ∧ Ext s0 s ∧ Le jb s ∧ ref14_Blame_l1 N a0 a1 m jq jr js = some jl ∧ f 8 = vi jq ∧ f 9 = vi jr ∧ f 10 = vi js ∧ f 0 = w0 ∧ f 1 = vi (a1)) N ⟨jb, 0, 0, 0, rfl, je, (Le.refl _), jm, rfl, rfl, rfl, rfl, rfl⟩ ?_)
    rintro jt ju jv ⟨jw, jq, jr, js, rfl, jx, jy, hr, jz, k0, k1, k2, k3⟩
    cases jt with
    | zero => exact absurd hr (by simp [ref14_Blame_l1])
    | succ jt =>
     rw [ref14_Blame_l1.eq_2] at hr
     refine W_seq (sr (mv k1 (mv k2 (ln Tryz.underlying22 (rv w0) (h0.mono (j5.le.trans (jc.le.trans jy))) (ls (rv (vi js)) (rv (vi ((a0.length : Int)))) (nn ?_))))))
     refine W_cond _ (rv (vb (decide (js < (a0.length : Int))))) (fun k4 => ?_) (fun k4 => ?_)
     ·have hr := ite_t k4 hr
      refine W_skip (then_n (W_seq (W_block (sr (mv k2 (mv k2 (ln Tryz.underlying22 (rv w0) (h0.mono (j5.le.trans (jc.le.trans jy))) (mv k1 ?_))))))))
      obtain ⟨k5, k6, hr⟩ := bind_some hr
      refine L_calls cal83 (args2 (rv (vi ((a0.length : Int)))) (rv (vi js))) (ref14_all_ok N _ (a0.length : Int) js k5 k6) (by decide) (fun k7 k8 k9 ka => ?_)
      have kb := Tch.ext jx k9
      refine mv k3 ?_
      obtain ⟨kc, kd, hr⟩ := bind_some hr
      refine L_calls cal18 (args3 (rv w0) (rv k7) (rv (vi a1))) (ref14_Repair_ok N _ _ _ (h0.mono (j5.le.trans (jc.le.trans (jy.trans k9.le)))) _ _ ka a1 kc kd) (by decide) (fun ke kf kg kh => ?_)
      have ki := Tch.ext kb kg
      obtain ⟨kj, kk, rfl, kl, km⟩ := kh
      obtain rfl := km.int
      refine mv (rv (Value.tuple #[kj, vi (kc.2)])) (xt (rv (Value.tuple #[kj, vi (kc.2)])) (k := 0) rfl (xt (rv (Value.tuple #[kj, vi (kc.2)])) (k := 1) rfl (asg (rv kj) (asg (rv (vi (kc.2))) (nn (sr (mv (rv (vi (kc.2))) (el (rv (vi (kc.2))) (rv (vi 0)) (nn ?_)))))))))
      refine W_cond _ (rv (vb (decide (kc.2 = 0)))) (fun kn => ?_) (fun kn => ?_)
      ·have hr := ite_t kn hr; refine sr (mv jz ?_); obtain ⟨ko, hr⟩ := chk_some hr; refine ad (rv (vi jq)) (rv (vi 1)) ko (asg (rv (vi (jq + 1))) (nn (W_region (mv k1 (asg (rv (vi js)) (L_nil (block_n (then_n (W_region (mv k1 ?_)))))))))); obtain ⟨kp, hr⟩ := chk_some hr; exact ad (rv (vi js)) (rv (vi 1)) kp (asg (rv (vi (js + 1))) (nn ⟨jt, Nat.lt_succ_self _, ⟨kf, (jq + 1), js, (js + 1), rfl, ki, (jy.trans (k9.le.trans kg.le)), hr, rfl, rfl, rfl, k2, k3⟩⟩))
      ·have hr := ite_f kn hr; refine W_skip (block_n (then_n (W_region (mv k1 ?_)))); obtain ⟨ko, hr⟩ := chk_some hr; exact ad (rv (vi js)) (rv (vi 1)) ko (asg (rv (vi (js + 1))) (nn ⟨jt, Nat.lt_succ_self _, ⟨kf, jq, jr, (js + 1), rfl, ki, (jy.trans (k9.le.trans kg.le)), hr, jz, k0, rfl, k2, k3⟩⟩))
     ·have hr := ite_f k4 hr; refine W_exit (then_x (then_x (block_here ?_))); exact then_n ⟨jw, jq, jr, rfl, jx, jy, Option.some.inj hr, jz, k0⟩
   ·rintro jq jr ⟨js, jo, jp, rfl, jt, ju, jm, jv, jw⟩
    subst jm
    have hr := jn
    try dsimp only at hr
    refine then_n (W_seq (sr (mv jv (ne (rv (vi jo)) (rv (vi 1)) (nn ?_)))))
    refine W_cond _ (rv (vb (!decide (jo = 1)))) (fun jx => ?_) (fun jx => ?_)
    ·have hr := ite_t jx hr; refine sr (asg (rv (vi 0)) (asg (rv (vi 20)) (nn (W_ret (then_r ?_))))); obtain rfl := Option.some.inj hr; exact done2 (Or.inl rfl) Tryz.results31 rfl rfl ⟨_, _, rfl, rfl, jt, _, _, rfl, Vint, Vint⟩
    ·have hr := ite_f jx hr; refine W_skip (then_n (sr (mv jw (asg (rv (vi jp)) (asg (rv (vi 0)) (nn (W_ret ?_))))))); obtain rfl := Option.some.inj hr; exact done2 (Or.inl rfl) Tryz.results31 rfl rfl ⟨_, _, rfl, rfl, jt, _, _, rfl, Vint, Vint⟩

theorem law14_CheckBlames_ok (N : Nat) (s0 : St) (w0 : Value) (a0 : List (List U8)) (h0 : V s0 w0 a0) (a1 : Int) (r : Bool) (hr : law14_CheckBlames N a0 a1 = some r) :
    Calls Tryz.prog 7 #[w0, .int .i64 a1] s0.w (Ret s0 fun v s => V s v r) := by
 unfold law14_CheckBlames at hr
 have j0 := Ext.refl s0
 refine Calls_of (n := 59) (args := [w0, .int .i64 a1]) Tryz.func7 rfl rfl (by simp) (sr (asg (rv (vb false)) (nn (sr (asg (rv (vi 0)) (nn (W_seq (sr (asg (rv (vi 0)) (nn ?_))))))))))
 obtain ⟨j1, j2, j3⟩ := bind_some hr
 refine W_cut (fun f w => ∃ (s : St) (j4 : Int), s.w = w ∧ Ext s0 s ∧ Le s0 s ∧ j4 = j1 ∧ f 5 = vi j4 ∧ f 0 = w0 ∧ f 1 = vi (a1)) ?_ ?_
 ·refine W_block (W_loop (fun m f w => ∃ (s : St) (j5 : Int) (j6 : Int), s.w = w ∧ Ext s0 s ∧ Le s0 s ∧ law14_CheckBlames_l1 N a0 m j5 j6 = some j1 ∧ f 5 = vi j5 ∧ f 6 = vi j6 ∧ f 0 = w0 ∧ f 1 = vi (a1)) N ⟨s0, 0, 0, rfl, j0, (Le.refl _), j2, rfl, rfl, rfl, rfl⟩ ?_)
  rintro j7 j8 j9 ⟨ja, j5, j6, rfl, jb, jc, hr, jd, je, jf, jg⟩
  cases j7 with
  | zero => exact absurd hr (by simp [law14_CheckBlames_l1])
  | succ j7 =>
   rw [law14_CheckBlames_l1.eq_2] at hr
   refine W_seq ?_
   obtain ⟨jh, ji, jj⟩ := bind_some hr
   refine W_seq_cut (fun f w => ∃ (s : St) (jk : Bool), s.w = w ∧ Ext s0 s ∧ Le ja s ∧ jk = jh ∧ f 18 = vb jk ∧ f 0 = w0 ∧ f 1 = vi (a1) ∧ f 5 = vi (j5) ∧ f 6 = vi (j6)) ?_ ?_
   ·have hr := ji
    refine W_region (mv je (mv jf (ln Tryz.underlying22 (rv w0) (h0.mono jc) (ls (rv (vi j6)) (rv (vi ((a0.length : Int)))) (mv (rv (vb (decide (j6 < (a0.length : Int))))) ?_)))))
    rcases tf (decide (j6 < (a0.length : Int))) with jl | jl
    ·have hr := ite_t jl hr; exact gt 15 (rv (vb (decide (j6 < (a0.length : Int))))) jl (mv je (gt 15 (rv (vb (decide (j6 < (a0.length : Int))))) jl (ls (rv (vi j6)) (rv (vi 41)) (pt (rv (vb (decide (j6 < (a0.length : Int))))) jl (rv (vb (decide (j6 < 41)))) (nn ⟨ja, (decide (j6 < 41)), rfl, jb, (Le.refl _), Option.some.inj hr, rfl, jf, jg, jd, je⟩)))))
    ·have hr := ite_f jl hr; exact gf 15 (rv (vb (decide (j6 < (a0.length : Int))))) jl (gf 15 (rv (vb (decide (j6 < (a0.length : Int))))) jl (pf (rv (vb (decide (j6 < (a0.length : Int))))) jl (rv (vb false)) (nn ⟨ja, false, rfl, jb, (Le.refl _), Option.some.inj hr, rfl, jf, jg, jd, je⟩)))
   ·rintro jl jm ⟨jn, jk, rfl, jo, jp, ji, jq, jr, js, jt, ju⟩
    subst ji
    have hr := jj
    try dsimp only at hr
    refine W_cond _ jq (fun jv => ?_) (fun jv => ?_)
    ·have hr := ite_t jv hr; refine W_skip (then_n (W_seq (W_block (W_region (mv jt (mv jr (mv ju ?_))))))); obtain ⟨jw, jx, hr⟩ := bind_some hr; refine ix Tryz.underlying22 ty23.inf (rv w0) (h0.mono (jc.trans jp)) (rv (vi j6)) jx (fun jy jz => ld ty23 (rv jy) jz (fun k0 k1 => ln Tryz.underlying23 (rv k0) k1 (L_addK (rv (vi j5)) (rv (vi ((jw.length : Int)))) (by decide) (asg (rv (vi (addK .i64 j5 (jw.length : Int)))) (L_nil (block_n (then_n (W_region (mv ju ?_))))))))); obtain ⟨k2, hr⟩ := chk_some hr; exact ad (rv (vi j6)) (rv (vi 1)) k2 (asg (rv (vi (j6 + 1))) (nn ⟨j7, Nat.lt_succ_self _, ⟨jn, (addK .i64 j5 (jw.length : Int)), (j6 + 1), rfl, jo, (jc.trans jp), hr, rfl, rfl, jr, js⟩⟩))
    ·have hr := ite_f jv hr; refine W_exit (then_x (then_x (block_here ?_))); exact then_n ⟨jn, j5, rfl, jo, (jc.trans jp), Option.some.inj hr, jt, jr, js⟩
 ·rintro j5 j6 ⟨j7, j4, rfl, j8, j9, j2, ja, jb, jc⟩
  subst j2
  have hr := j3
  try dsimp only at hr
  refine then_n (W_seq ?_)
  obtain ⟨jd, je, jf⟩ := bind_some hr
  refine W_seq_cut (fun f w => ∃ (s : St) (jg : Bool), s.w = w ∧ Ext s0 s ∧ Le j7 s ∧ jg = jd ∧ f 34 = vb jg ∧ f 0 = w0 ∧ f 1 = vi (a1)) ?_ ?_
  ·have hr := je
   refine W_region (mv jb (ln Tryz.underlying22 (rv w0) (h0.mono j9) (L_gtr (rv (vi ((a0.length : Int)))) (rv (vi 40)) (by decide) (mv (rv (vb (decide (40 < (a0.length : Int))))) ?_))))
   rcases tf (decide (40 < (a0.length : Int))) with jh | jh
   ·have hr := ite_t jh hr; exact gf 31 (rv (vb (decide (40 < (a0.length : Int))))) jh (gf 31 (rv (vb (decide (40 < (a0.length : Int))))) jh (pt (rv (vb (decide (40 < (a0.length : Int))))) jh (rv (vb true)) (nn ⟨j7, true, rfl, j8, (Le.refl _), Option.some.inj hr, rfl, jb, jc⟩)))
   ·have hr := ite_f jh hr; exact gt 31 (rv (vb (decide (40 < (a0.length : Int))))) jh (mv ja (gt 31 (rv (vb (decide (40 < (a0.length : Int))))) jh (L_gtr (rv (vi j4)) (rv (vi 400)) (by decide) (pf (rv (vb (decide (40 < (a0.length : Int))))) jh (rv (vb (decide (400 < j4)))) (nn ⟨j7, (decide (400 < j4)), rfl, j8, (Le.refl _), Option.some.inj hr, rfl, jb, jc⟩)))))
  ·rintro jh ji ⟨jj, jg, rfl, jk, jl, je, jm, jn, jo⟩
   subst je
   have hr := jf
   try dsimp only at hr
   refine W_cond _ jm (fun jp => ?_) (fun jp => ?_)
   ·have hr := ite_t jp hr; refine sr ?_; obtain ⟨jq, jr, hr⟩ := bind_some hr; refine L_calls cal11 (args0) (law14_works_ok N _  jq jr) (by decide) (fun js jt ju jv => ?_); have jw := Tch.ext jk ju; obtain rfl := jv.bool; refine asg (rv (vb jq)) (nn (W_ret (then_r ?_))); obtain rfl := Option.some.inj hr; exact done1 (Or.inl rfl) Tryz.results7 rfl ⟨_, _, rfl, rfl, jw, Vbool⟩
   ·have hr := ite_f jp hr
    refine W_skip (then_n (sr (mv jn (mv jo ?_))))
    obtain ⟨jq, jr, hr⟩ := bind_some hr
    refine L_calls cal30 (args2 (rv w0) (rv (vi a1))) (check_Blame_ok N _ _ _ (h0.mono (j9.trans jl)) a1 jq jr) (by decide) (fun js jt ju jv => ?_)
    have jw := Tch.ext jk ju
    obtain ⟨jx, jy, rfl, jz, k0⟩ := jv
    obtain rfl := jz.int
    obtain rfl := k0.int
    refine mv (rv (Value.tuple #[vi (jq.1), vi (jq.2)])) (xt (rv (Value.tuple #[vi (jq.1), vi (jq.2)])) (k := 0) rfl (xt (rv (Value.tuple #[vi (jq.1), vi (jq.2)])) (k := 1) rfl (asg (rv (vi (jq.1))) (asg (rv (vi (jq.2))) (nn (sr (mv jn (mv jo ?_))))))))
    obtain ⟨k1, k2, hr⟩ := bind_some hr
    refine L_calls cal31 (args2 (rv w0) (rv (vi a1))) (ref14_Blame_ok N _ _ _ (h0.mono (j9.trans (jl.trans ju.le))) a1 k1 k2) (by decide) (fun k3 k4 k5 k6 => ?_)
    have k7 := Tch.ext jw k5
    obtain ⟨k8, k9, rfl, ka, kb⟩ := k6
    obtain rfl := ka.int
    obtain rfl := kb.int
    refine mv (rv (Value.tuple #[vi (k1.1), vi (k1.2)])) (xt (rv (Value.tuple #[vi (k1.1), vi (k1.2)])) (k := 0) rfl (xt (rv (Value.tuple #[vi (k1.1), vi (k1.2)])) (k := 1) rfl (asg (rv (vi (k1.1))) (asg (rv (vi (k1.2))) (nn (sr (mv (rv (vi (jq.1))) (mv (rv (vi (k1.1))) (el (rv (vi (jq.1))) (rv (vi (k1.1))) (mv (rv (vb (decide (jq.1 = k1.1)))) ?_))))))))))
    rcases tf (decide (jq.1 = k1.1)) with kc | kc
    ·have hr := ite_t kc hr
     refine gt 51 (rv (vb (decide (jq.1 = k1.1)))) kc (mv (rv (vi (jq.2))) (gt 51 (rv (vb (decide (jq.1 = k1.1)))) kc (mv (rv (vi (k1.2))) (gt 51 (rv (vb (decide (jq.1 = k1.1)))) kc (el (rv (vi (jq.2))) (rv (vi (k1.2))) (pt (rv (vb (decide (jq.1 = k1.1)))) kc (rv (vb (decide (jq.2 = k1.2)))) (mv (rv (vb (decide (jq.2 = k1.2)))) ?_)))))))
     rcases tf (decide (jq.2 = k1.2)) with kd | kd
     ·have hr := ite_t kd hr; refine gt 56 (rv (vb (decide (jq.2 = k1.2)))) kd ?_; obtain ⟨ke, kf, hr⟩ := bind_some hr; refine L_calls cal11 (args0) (law14_works_ok N _  ke kf) (by decide) (fun kg kh ki kj => ?_); have kk := Tch.ext k7 ki; obtain rfl := kj.bool; refine pt (rv (vb (decide (jq.2 = k1.2)))) kd (rv (vb ke)) (asg (rv (vb ke)) (nn (W_ret ?_))); obtain rfl := Option.some.inj hr; exact done1 (Or.inl rfl) Tryz.results7 rfl ⟨_, _, rfl, rfl, kk, Vbool⟩
     ·have hr := ite_f kd hr; refine gf 56 (rv (vb (decide (jq.2 = k1.2)))) kd (pf (rv (vb (decide (jq.2 = k1.2)))) kd (rv (vb false)) (asg (rv (vb false)) (nn (W_ret ?_)))); obtain rfl := Option.some.inj hr; exact done1 (Or.inl rfl) Tryz.results7 rfl ⟨_, _, rfl, rfl, k7, Vbool⟩
    ·have hr := ite_f kc hr; refine gf 51 (rv (vb (decide (jq.1 = k1.1)))) kc (gf 51 (rv (vb (decide (jq.1 = k1.1)))) kc (gf 51 (rv (vb (decide (jq.1 = k1.1)))) kc (pf (rv (vb (decide (jq.1 = k1.1)))) kc (rv (vb false)) (mv (rv (vb false)) (gf 56 (rv (vb false)) rfl (pf (rv (vb false)) rfl (rv (vb false)) (asg (rv (vb false)) (nn (W_ret ?_))))))))); obtain rfl := Option.some.inj hr; exact done1 (Or.inl rfl) Tryz.results7 rfl ⟨_, _, rfl, rfl, k7, Vbool⟩

end Go.Arm
