/- A part of the proof. -/
import Derived.Test.YtdaedcoolcicoaaGreatPure2
namespace Go.Arm
open Go Go.RowKit Go.Proofs
variable {σ : Type}
theorem check_Repair_ok (N : Nat) (s0 : St) (w0 : Value) (a0 : List (List U8)) (h0 : V s0 w0 a0) (w1 : Value) (a1 : List Bool) (h1 : V s0 w1 a1) (a2 : Int) (r : (List (List U8)) × Int) (hr : check_Repair N a0 a1 a2 = some r) :
    Calls Tryz.prog 17 #[w0, w1, .int .i64 a2] s0.w (Ret s0 fun v s => ∃ a b, v = .tuple #[a, b] ∧ V s a r.1 ∧ V s b r.2) := by
 unfold check_Repair at hr
 have j0 := Ext.refl s0
 refine Calls_of (n := 114) (args := [w0, w1, .int .i64 a2]) Tryz.func17 rfl rfl (by simp) (sr (asg (rv (Value.slice none 0 0)) (asg (rv (vi 0)) (nn ?_))))
 obtain ⟨j1, j2, j3⟩ := bind_some hr
 refine W_seq_cut (fun f w => ∃ (s : St), s.w = w ∧ Ext s0 s ∧ Le s0 s ∧ Sum.inl () = j1 ∧ f 0 = w0 ∧ f 1 = w1 ∧ f 2 = vi (a2)) ?_ ?_
 ·have hr := j2
  refine W_block ?_
  obtain ⟨j4, j5, j6⟩ := bind_some hr
  refine W_seq_cut (fun f w => ∃ (s : St) (j7 : Bool), s.w = w ∧ Ext s0 s ∧ Le s0 s ∧ j7 = j4 ∧ f 17 = vb j7 ∧ f 0 = w0 ∧ f 1 = w1 ∧ f 2 = vi (a2)) ?_ ?_
  ·have hr := j5
   refine W_region (mv (rv (vi a2)) (ls (rv (vi a2)) (rv (vi 1)) (mv (rv (vb (decide (a2 < 1)))) ?_)))
   rcases tf (decide (a2 < 1)) with j8 | j8
   ·have hr := ite_t j8 hr; refine gf 20 (rv (vb (decide (a2 < 1)))) j8 (gf 20 (rv (vb (decide (a2 < 1)))) j8 (pt (rv (vb (decide (a2 < 1)))) j8 (rv (vb true)) (mv (rv (vb true)) (gf 24 (rv (vb true)) rfl (gf 24 (rv (vb true)) rfl (gf 24 (rv (vb true)) rfl (gf 24 (rv (vb true)) rfl (pt (rv (vb true)) rfl (rv (vb true)) (mv (rv (vb true)) (gf 30 (rv (vb true)) rfl (gf 30 (rv (vb true)) rfl (gf 30 (rv (vb true)) rfl (gf 30 (rv (vb true)) rfl ?_))))))))))))); exact gf 30 (rv (vb true)) rfl (pt (rv (vb true)) rfl (rv (vb true)) (asg (rv (vb true)) (nn ⟨s0, true, rfl, j0, (Le.refl _), Option.some.inj hr, rfl, rfl, rfl, rfl⟩)))
   ·have hr := ite_f j8 hr
    refine gt 20 (rv (vb (decide (a2 < 1)))) j8 (mv (rv (vi a2)) (gt 20 (rv (vb (decide (a2 < 1)))) j8 (L_gtr (rv (vi a2)) (rv (vi 16)) (by decide) (pf (rv (vb (decide (a2 < 1)))) j8 (rv (vb (decide (16 < a2)))) (mv (rv (vb (decide (16 < a2)))) ?_)))))
    rcases tf (decide (16 < a2)) with j9 | j9
    ·have hr := ite_t j9 hr; exact gf 24 (rv (vb (decide (16 < a2)))) j9 (gf 24 (rv (vb (decide (16 < a2)))) j9 (gf 24 (rv (vb (decide (16 < a2)))) j9 (gf 24 (rv (vb (decide (16 < a2)))) j9 (pt (rv (vb (decide (16 < a2)))) j9 (rv (vb true)) (mv (rv (vb true)) (gf 30 (rv (vb true)) rfl (gf 30 (rv (vb true)) rfl (gf 30 (rv (vb true)) rfl (gf 30 (rv (vb true)) rfl (gf 30 (rv (vb true)) rfl (pt (rv (vb true)) rfl (rv (vb true)) (asg (rv (vb true)) (nn ⟨s0, true, rfl, j0, (Le.refl _), Option.some.inj hr, rfl, rfl, rfl, rfl⟩)))))))))))))
    ·have hr := ite_f j9 hr
     refine gt 24 (rv (vb (decide (16 < a2)))) j9 (mv (rv w0) (gt 24 (rv (vb (decide (16 < a2)))) j9 (ln Tryz.underlying22 (rv w0) h0 (gt 24 (rv (vb (decide (16 < a2)))) j9 (mv (rv (vi a2)) (gt 24 (rv (vb (decide (16 < a2)))) j9 (ls (rv (vi ((a0.length : Int)))) (rv (vi a2)) (pf (rv (vb (decide (16 < a2)))) j9 (rv (vb (decide ((a0.length : Int) < a2)))) (mv (rv (vb (decide ((a0.length : Int) < a2)))) ?_)))))))))
     rcases tf (decide ((a0.length : Int) < a2)) with ja | ja
     ·have hr := ite_t ja hr; exact gf 30 (rv (vb (decide ((a0.length : Int) < a2)))) ja (gf 30 (rv (vb (decide ((a0.length : Int) < a2)))) ja (gf 30 (rv (vb (decide ((a0.length : Int) < a2)))) ja (gf 30 (rv (vb (decide ((a0.length : Int) < a2)))) ja (gf 30 (rv (vb (decide ((a0.length : Int) < a2)))) ja (pt (rv (vb (decide ((a0.length : Int) < a2)))) ja (rv (vb true)) (asg (rv (vb true)) (nn ⟨s0, true, rfl, j0, (Le.refl _), Option.some.inj hr, rfl, rfl, rfl, rfl⟩)))))))
     ·have hr := ite_f ja hr; refine gt 30 (rv (vb (decide ((a0.length : Int) < a2)))) ja (mv (rv w0) (gt 30 (rv (vb (decide ((a0.length : Int) < a2)))) ja (ln Tryz.underlying22 (rv w0) h0 (gt 30 (rv (vb (decide ((a0.length : Int) < a2)))) ja (mv (rv (vi a2)) (gt 30 (rv (vb (decide ((a0.length : Int) < a2)))) ja ?_)))))); obtain ⟨jb, hr⟩ := chk_some hr; exact ad (rv (vi a2)) (rv (vi 16)) jb (gt 30 (rv (vb (decide ((a0.length : Int) < a2)))) ja (L_gtr (rv (vi ((a0.length : Int)))) (rv (vi (a2 + 16))) (by decide) (pf (rv (vb (decide ((a0.length : Int) < a2)))) ja (rv (vb (decide ((a2 + 16) < (a0.length : Int))))) (asg (rv (vb (decide ((a2 + 16) < (a0.length : Int))))) (nn ⟨s0, (decide ((a2 + 16) < (a0.length : Int))), rfl, j0, (Le.refl _), Option.some.inj hr, rfl, rfl, rfl, rfl⟩)))))
  ·rintro j8 j9 ⟨ja, j7, rfl, jb, jc, j5, jd, je, jf, jg⟩
   subst j5
   have hr := j6
   try dsimp only at hr
   refine W_cond _ jd (fun jh => ?_) (fun jh => ?_)
   ·have hr := ite_t jh hr; refine sr (asg (rv (Value.slice none 0 0)) (asg (rv (vi 3)) (nn (W_ret (block_r ?_))))); obtain rfl := Option.some.inj hr; have hr := j3; (try dsimp only at hr); refine then_r ?_; obtain rfl := Option.some.inj hr; exact done2 (Or.inl rfl) Tryz.results17 rfl rfl ⟨_, _, rfl, rfl, jb, _, _, rfl, Vnil, Vint⟩
   ·have hr := ite_f jh hr
    refine sr (mv jf (ln Tryz.underlying32 (rv w1) (h1.mono jc) (mv je (ln Tryz.underlying22 (rv w0) (h0.mono jc) (ne (rv (vi ((a1.length : Int)))) (rv (vi ((a0.length : Int)))) (asg (rv (vb (!decide ((a1.length : Int) = (a0.length : Int))))) (nn ?_)))))))
    refine W_cond _ (rv (vb (!decide ((a1.length : Int) = (a0.length : Int))))) (fun ji => ?_) (fun ji => ?_)
    ·have hr := ite_t ji hr; refine sr (asg (rv (Value.slice none 0 0)) (asg (rv (vi 26)) (nn (W_ret (block_r ?_))))); obtain rfl := Option.some.inj hr; have hr := j3; (try dsimp only at hr); refine then_r ?_; obtain rfl := Option.some.inj hr; exact done2 (Or.inl rfl) Tryz.results17 rfl rfl ⟨_, _, rfl, rfl, jb, _, _, rfl, Vnil, Vint⟩
    ·have hr := ite_f ji hr; refine W_skip (block_n ?_); exact then_n ⟨ja, rfl, jb, jc, Option.some.inj hr, je, jf, jg⟩
 ·rintro j4 j5 ⟨j6, rfl, j7, j8, j2, j9, ja, jb⟩
  subst j2
  have hr := j3
  try dsimp only at hr
  refine sr (asg (rv (Value.slice none 0 0)) (nn (sr (asg (rv (Value.slice none 0 0)) (nn (W_seq (sr (mv j9 (ln Tryz.underlying22 (rv w0) (h0.mono j8) (mv (rv (vi 0)) (nn ?_)))))))))))
  obtain ⟨jc, jd, je⟩ := bind_some hr
  refine W_cut (fun f w => ∃ (s : St) (jf : Value) (jg : List Int) (jh : Value) (ji : List (List U8)), s.w = w ∧ Ext s0 s ∧ Le j6 s ∧ (jg, ji) = jc ∧ f 8 = jf ∧ Bld s s0.w.heap.size 3 jf jg ∧ f 9 = jh ∧ Bld s s0.w.heap.size 23 jh ji ∧ f 0 = w0 ∧ f 1 = w1 ∧ f 2 = vi (a2) ∧ (∀ k, (own jf) k → ¬ (own jh) k)) ?_ ?_
  ·refine W_block (W_loop (fun m f w => ∃ (s : St) (jj : Value) (jk : List Int) (jl : Value) (jm : List (List U8)) (jn : Int), s.w = w ∧ Ext s0 s ∧ Le j6 s ∧ check_Repair_l1 N a0 a1 m jk jm jn = some jc ∧ f 8 = jj ∧ Bld s s0.w.heap.size 3 jj jk ∧ f 9 = jl ∧ Bld s s0.w.heap.size 23 jl jm ∧ f 45 = vi jn ∧ f 0 = w0 ∧ f 1 = w1 ∧ f 2 = vi (a2) ∧ f 43 = w0 ∧ f 44 = vi ((a0.length : Int)) ∧ (∀ k, (own jj) k → ¬ (own jl) k)) N ⟨j6, (Value.slice none 0 0), ([]), (Value.slice none 0 0), ([]), 0, rfl, j7, (Le.refl _), jd, rfl, Bld.nil, rfl, Bld.nil, rfl, j9, ja, jb, rfl, rfl, (fun k h => absurd h own_nil)⟩ ?_)
   rintro jo jp jq ⟨jr, jj, jk, jl, jm, jn, rfl, js, jt, hr, ju, jv, jw, jx, jy, jz, k0, k1, k2, k3, k4⟩
   cases jo with
   | zero => exact absurd hr (by simp [check_Repair_l1])
   | succ jo =>
    rw [check_Repair_l1.eq_2] at hr
    refine sr (ls jy k3 (nn (W_seq ?_)))
    refine W_cond _ (rv (vb (decide (jn < (a0.length : Int))))) (fun k5 => ?_) (fun k5 => ?_)
    ·have hr := ite_t k5 hr
     refine W_skip (then_n (W_seq (W_block (sr (mv jy ?_)))))
     obtain ⟨k6, k7, hr⟩ := bind_some hr
     refine ix Tryz.underlying22 ty23.inf k2 (h0.mono (j8.trans jt)) jy k7 (fun k8 k9 => ld ty23 (rv k8) k9 (fun ka kb => asg (rv (vi jn)) (asg (rv ka) (nn (sr (mv k0 (mv (rv (vi jn)) ?_)))))))
     obtain ⟨kc, kd, hr⟩ := bind_some hr
     refine ix Tryz.underlying32 ty4.inf (rv w1) (h1.mono (j8.trans jt)) (rv (vi jn)) kd (fun ke kf => L_load_bool ty4 (rv ke) kf (by decide) (nn ?_))
     refine W_cond _ (rv (vb kc)) (fun kg => ?_) (fun kg => ?_)
     ·have hr := ite_t kg hr; refine W_region (mv ju (mv (rv (vi jn)) (L_buildSlice (xs := ([jn] : List Int)) Tryz.underlying38 tyz3 (Parts_cons rfl (rv (vi jn)) Parts_nil) (Vs.cons Vint Vs.nil) rfl (by decide) (by decide) (fun kh ki kj kk kl => ?_)))); have km := Tch.ext js kj; obtain ⟨kn, hr⟩ := chk_some hr; refine L_append (xs := jk) (B := s0.w.heap.size) Tryz.underlying38 tyz3 (rv jj) (rv ki) ((jv).ext kj) (km.size) kl kn.1 kn.2 (by decide) (fun ko kp kq => ?_); have kr := kq.tchM ((jv).ext kj) km (Nat.le_refl _); have ks := kq.apart ((jx).ext kj) (fun k hk hm => k4 k hm hk); refine mv jw (mv (rv ka) (L_buildSlice (xs := ([k6] : List (List U8))) Tryz.underlying22 tyz23 (Parts_cons rfl (rv ka) Parts_nil) (Vs.cons (kb.mono (kj.le.trans kq.tch.le)) Vs.nil) rfl (by decide) (by decide) (fun kt ku kv kw kx => ?_))); have ky := Tch.ext kr kv; obtain ⟨kz, hr⟩ := chk_some hr; refine L_append (xs := jm) (B := s0.w.heap.size) Tryz.underlying22 tyz23 (rv jl) (rv ku) ((((jx).ext kj).tch kq.tch (fun k hk hm => k4 k hm hk)).ext kv) (ky.size) kx kz.1 kz.2 (by decide) (fun g0 g1 g2 => ?_); have g3 := g2.tchM ((((jx).ext kj).tch kq.tch (fun k hk hm => k4 k hm hk)).ext kv) ky (Nat.le_refl _); have g4 := g2.apart ((kq.bld).ext kv) (fun k hk hm => ks k hm hk); refine asg (rv ko) (asg (rv g0) (L_nil (block_n (then_n (W_region ?_))))); obtain ⟨g5, hr⟩ := chk_some hr; exact ad jy (rv (vi 1)) g5 (mv (rv (vi (jn + 1))) (nn ⟨jo, Nat.lt_succ_self _, ⟨g1, ko, (jk ++ ([jn] : List Int)), g0, (jm ++ ([k6] : List (List U8))), (jn + 1), rfl, g3, (jt.trans (kj.le.trans (kq.tch.le.trans (kv.le.trans g2.tch.le)))), hr, rfl, ((kq.bld).ext kv).tch g2.tch (fun k hk hm => ks k hm hk), rfl, g2.bld, rfl, jz, k0, k1, k2, k3, g4⟩⟩))
     ·have hr := ite_f kg hr; refine W_skip (block_n (then_n (W_region ?_))); obtain ⟨kh, hr⟩ := chk_some hr; exact ad jy (rv (vi 1)) kh (mv (rv (vi (jn + 1))) (nn ⟨jo, Nat.lt_succ_self _, ⟨jr, jj, jk, jl, jm, (jn + 1), rfl, js, jt, hr, ju, jv, jw, jx, rfl, jz, k0, k1, k2, k3, k4⟩⟩))
    ·have hr := ite_f k5 hr; refine W_exit (then_x (then_x (block_here ?_))); exact then_n ⟨jr, jj, jk, jl, jm, rfl, js, jt, Option.some.inj hr, ju, jv, jw, jx, jz, k0, k1, k4⟩
  ·rintro jj jk ⟨jl, jf, jg, jh, ji, rfl, jm, jn, jd, jo, jp, jq, jr, js, jt, ju, jv⟩
   subst jd
   have hr := je
   try dsimp only at hr
   refine then_n (W_seq (sr (mv jq ?_)))
   have jw := (jr).toV
   refine ln Tryz.underlying22 (rv jh) jw (mv ju (ls (rv (vi ((ji.length : Int)))) (rv (vi a2)) (nn ?_)))
   refine W_cond _ (rv (vb (decide ((ji.length : Int) < a2)))) (fun jx => ?_) (fun jx => ?_)
   ·have hr := ite_t jx hr; refine sr (asg (rv (Value.slice none 0 0)) (asg (rv (vi 19)) (nn (W_ret (then_r ?_))))); obtain rfl := Option.some.inj hr; exact done2 (Or.inl rfl) Tryz.results17 rfl rfl ⟨_, _, rfl, rfl, jm, _, _, rfl, Vnil, Vint⟩
   ·have hr := ite_f jx hr
    refine W_skip (then_n (W_seq (sr (mv jq ?_))))
    have jy := (jr).toV
    obtain ⟨jz, k0, hr⟩ := bind_some hr
    refine L_calls cal49 (args1 (rv jh)) (check_sized_ok N _ _ _ jy jz k0) (by decide) (fun k1 k2 k3 k4 => ?_)
    have k5 := Tch.ext jm k3
    obtain rfl := k4.int
    refine asg (rv (vi jz)) (nn (sr (mv (rv (vi jz)) (ne (rv (vi jz)) (rv (vi 0)) (nn ?_)))))
    refine W_cond _ (rv (vb (!decide (jz = 0)))) (fun k6 => ?_) (fun k6 => ?_)
    ·have hr := ite_t k6 hr; refine sr (mv (rv (vi jz)) (asg (rv (Value.slice none 0 0)) (asg (rv (vi jz)) (nn (W_ret (then_r ?_)))))); obtain rfl := Option.some.inj hr; exact done2 (Or.inl rfl) Tryz.results17 rfl rfl ⟨_, _, rfl, rfl, k5, _, _, rfl, Vnil, Vint⟩
    ·have hr := ite_f k6 hr
     refine W_skip (then_n (sr ?_))
     obtain ⟨k7, k8, hr⟩ := bind_some hr
     refine L_calls cal50 (args0) (check_newField_ok N _  k7 k8) (by decide) (fun k9 ka kb kc => ?_)
     have kd := Tch.ext k5 kb
     refine asg (rv k9) (nn (W_seq ?_))
     obtain ⟨ke, kf, hr⟩ := bind_some hr
     obtain ⟨kg, kh, hr⟩ := bind_some hr
     obtain ⟨ki, kj, hr⟩ := bind_some hr
     refine W_draws mixed (by kernel_rfl) [PV.ptr (k7 : Field), PV.data (jg : List Int), PV.eq (vi a2), PV.data (ke : List Int), PV.data (ji : List (List U8)), PV.eq (vi a2), PV.data (kg : List (List U8)), PV.data (ki : List (List U8)), PV.data (ki : List (List U8))] (Steps_cons ?_ (Steps_cons ?_ (Steps_cons ?_ (Steps_cons ?_ (Steps_cons ?_ (Steps_cons ?_ (Steps_cons ?_ (Steps_cons ?_ (Steps_cons ?_ Steps_nil))))))))) ?_
     ·intro kk kl km kn ko Q kp; have kq : kk 13 = k9 := (ko 13 (by kernel_rfl)).trans rfl; exact mv kq (fin kp (kc.mono km.le))
     ·intro kk kl km kn ko Q kp; have kq : kk 8 = jf := (ko 8 (by kernel_rfl)).trans jo; refine mv kq ?_; have kr := ((((jp).ext k3).ext kb).ext km).toV; exact fin kp kr
     ·intro kk kl km kn ko Q kp; have kq : kk 2 = vi (a2) := (ko 2 (by kernel_rfl)).trans ju; exact mv kq (fin kp rfl)
     ·intro kk kl km kn ko Q kp; have kq : V _ (kk 74) (jg : List Int) := kn 1 74 (by kernel_rfl) (by kernel_rfl); obtain ⟨kr, ks, kt⟩ : ∃ v, _ = v ∧ V _ v _ := ⟨_, rfl, kq⟩; have ku : kk 75 = vi (a2) := kn 2 75 (by kernel_rfl) (by kernel_rfl); exact L_slice_h Tryz.underlying38 ty3.inf ks kt ku kf (by decide) (fun kv kw => fin kp kw)
     ·intro kk kl km kn ko Q kp; have kq : kk 9 = jh := (ko 9 (by kernel_rfl)).trans jq; refine mv kq ?_; have kr := ((((jr).ext k3).ext kb).ext km).toV; exact fin kp kr
     ·intro kk kl km kn ko Q kp; have kq : kk 2 = vi (a2) := (ko 2 (by kernel_rfl)).trans ju; exact mv kq (fin kp rfl)
     ·intro kk kl km kn ko Q kp; have kq : V _ (kk 77) (ji : List (List U8)) := kn 4 77 (by kernel_rfl) (by kernel_rfl); obtain ⟨kr, ks, kt⟩ : ∃ v, _ = v ∧ V _ v _ := ⟨_, rfl, kq⟩; have ku : kk 78 = vi (a2) := kn 5 78 (by kernel_rfl) (by kernel_rfl); exact L_slice_h Tryz.underlying22 ty23.inf ks kt ku kh (by decide) (fun kv kw => fin kp kw)
     ·intro kk kl km kn ko Q kp; have kq : Ptr _ (kk 73) (k7 : Field) := kn 0 73 (by kernel_rfl) (by kernel_rfl); obtain ⟨kr, ks, kt⟩ : ∃ v, _ = v ∧ Ptr _ v _ := ⟨_, rfl, kq⟩; have ku : V _ (kk 76) (ke : List Int) := kn 3 76 (by kernel_rfl) (by kernel_rfl); obtain ⟨kv, kw, kx⟩ : ∃ v, _ = v ∧ V _ v _ := ⟨_, rfl, ku⟩; have ky : V _ (kk 79) (kg : List (List U8)) := kn 6 79 (by kernel_rfl) (by kernel_rfl); obtain ⟨kz, g0, g1⟩ : ∃ v, _ = v ∧ V _ v _ := ⟨_, rfl, ky⟩; refine L_calls cal56 (args3 ks kw g0) (check_field_solve_ok N _ _ _ kt _ _ kx _ _ g1 ki kj) (by decide) (fun g2 g3 g4 g5 => ?_); have g6 := Tch.ext (Ext.refl kl) g4; exact L_nil (kp _ _ g6 g5)
     ·intro kk kl km kn ko Q kp; have kq : V _ (kk 80) (ki : List (List U8)) := kn 7 80 (by kernel_rfl) (by kernel_rfl); obtain ⟨kr, ks, kt⟩ : ∃ v, _ = v ∧ V _ v _ := ⟨_, rfl, kq⟩; exact asg ks (fin kp kt)
     ·intro kk kl km kn ko
      have kp := Tch.ext kd km
      have kq : kk 0 = w0 := (ko 0 (by kernel_rfl)).trans js
      have kr : kk 1 = w1 := (ko 1 (by kernel_rfl)).trans jt
      have ks : kk 13 = k9 := (ko 13 (by kernel_rfl)).trans rfl
      have kt : V _ (kk 14) (ki : List (List U8)) := kn 8 14 (by kernel_rfl)
      obtain ⟨ku, kv, kw⟩ : ∃ v, _ = v ∧ V _ v _ := ⟨_, rfl, kt⟩
      refine then_n (sr (mv kq (ln Tryz.underlying22 (rv w0) (h0.mono (j8.trans (jn.trans (k3.le.trans (kb.le.trans km.le))))) ?_)))
      obtain ⟨kx, hr⟩ := chk_some hr
      refine L_makeArr (x0 := ([] : List U8)) Tryz.underlying22 tyz23 (rv (vi ((a0.length : Int)))) kx.1 kx.2.1 kx.2.2 (fun _ => ⟨none, 0, rfl, Nat.le_refl _, fun h => (h rfl).elim⟩) (by decide) (fun ky kz g0 g1 g2 => ?_)
      have g3 := Tch.ext kp g0
      refine asg (rv (Value.slice (some ⟨kz, 0, none⟩) ((a0.length : Int)).toNat ((a0.length : Int)).toNat)) (nn (W_seq (sr (mv (rv (Value.slice (some ⟨kz, 0, none⟩) ((a0.length : Int)).toNat ((a0.length : Int)).toNat)) (L_lenA Tryz.underlying22 (rv (Value.slice (some ⟨kz, 0, none⟩) ((a0.length : Int)).toNat ((a0.length : Int)).toNat)) (by decide) (mv (rv (vi 0)) (nn ?_)))))))
      obtain ⟨g4, g5, g6⟩ := bind_some hr
      refine W_cut (fun f w => ∃ (s : St) (g7 : List (List U8)), s.w = w ∧ Ext s0 s ∧ Le ky s ∧ Sum.inl g7 = g4 ∧ f 15 = Value.slice (some ⟨kz, 0, none⟩) ((a0.length : Int)).toNat ((a0.length : Int)).toNat ∧ Arr s kz 23 ((a0.length : Int)).toNat g7) ?_ ?_
      ·refine W_block (W_loop (fun m f w => ∃ (s : St) (g8 : Int) (g9 : List (List U8)), s.w = w ∧ Ext s0 s ∧ Le ky s ∧ check_Repair_l2 N a0 a1 k7 ki m g8 g9 = some g4 ∧ f 86 = vi g8 ∧ f 0 = w0 ∧ f 1 = w1 ∧ f 13 = k9 ∧ f 14 = ku ∧ f 15 = Value.slice (some ⟨kz, 0, none⟩) ((a0.length : Int)).toNat ((a0.length : Int)).toNat ∧ f 85 = vi (((((a0.length : Int)).toNat : Nat) : Int)) ∧ Arr s kz 23 ((a0.length : Int)).toNat g9) N ⟨ky, 0, (List.replicate ((a0.length : Int)).toNat ([] : List U8)), rfl, g3, (Le.refl _), g5, rfl, kq, kr, ks, kv, rfl, rfl, g2⟩ ?_)
       rintro ga gb gc ⟨gd, g8, g9, rfl, gg, gh, hr, gi, gj, gk, gl, gm, gn, go, gp⟩
       cases ga with
       | zero => exact absurd hr (by simp [check_Repair_l2])
       | succ ga =>
        rw [check_Repair_l2.eq_2] at hr
        refine sr (ls gi go (nn (W_seq ?_)))
        refine W_cond _ (rfl : _ = vb (decide (g8 < ((((a0.length : Int)).toNat : Nat) : Int)))) (fun gq => ?_) (fun gq => ?_)
        ·have hr := ite_t gq hr
         refine W_skip (then_n (W_seq (W_block (sr (mv gi (asg (rv (vi g8)) (nn (sr (mv gn (mv (rv (vi g8)) (mv gl (mv (rv (vi g8)) (mv gm ?_)))))))))))))
         obtain ⟨gr, gs, hr⟩ := bind_some hr
         refine L_calls cal51 (args3 (rv k9) (rv (vi g8)) (rv ku)) (check_field_block_ok N _ _ _ (kc.mono (km.le.trans (g0.le.trans gh))) g8 _ _ (kw.mono (g0.le.trans gh)) gr gs) (by decide) (fun gu gv gw gx => ?_)
         have gy := Tch.ext gg gw
         obtain ⟨gz, u0, hr⟩ := bind_some hr
         refine L_indexA (sz := 1) Tryz.underlying22 ty23.inf (rv (Value.slice (some ⟨kz, 0, none⟩) ((a0.length : Int)).toNat ((a0.length : Int)).toNat)) (rv (vi g8)) (idx_some u0).1 (by have := (idx_some u0).2.1; have := ((gp).ext gw).1; omega) (by decide) (L_storeA (xs := g9) ty23 (rv (Value.pointer (some ⟨kz, (g8).toNat * 1, none⟩))) (rv gu) gx ((gp).ext gw) u0 (fun u1 u2 u3 => ?_))
         have u4 := Tch.trans gy u2 (fun k hk => Or.inr (by subst hk; exact (Nat.le_trans kp.size g1)))
         refine nn ?_
         obtain ⟨u5, u6, u7⟩ := bind_some hr
         refine W_seq_cut (fun f w => ∃ (s : St) (u9 : Bool), s.w = w ∧ Ext s0 s ∧ Le u1 s ∧ u9 = u5 ∧ f 111 = vb u9 ∧ f 0 = w0 ∧ f 1 = w1 ∧ f 13 = k9 ∧ f 14 = ku ∧ f 15 = Value.slice (some ⟨kz, 0, none⟩) ((a0.length : Int)).toNat ((a0.length : Int)).toNat ∧ f 85 = vi (((((a0.length : Int)).toNat : Nat) : Int)) ∧ f 86 = vi (g8) ∧ Arr s kz 23 ((a0.length : Int)).toNat (g9.set (g8).toNat gr)) ?_ ?_
         ·have hr := u6
          obtain ⟨ua, ub, hr⟩ := bind_some hr
          rcases tf (ua) with uc | uc
          ·have hr := ite_t uc hr
           obtain ⟨ud, ue, hr⟩ := bind_some hr
           obtain ⟨uf, ug, hr⟩ := bind_some hr
           obtain ⟨uh, ui, hr⟩ := bind_some hr
           refine W_draws mixed (by kernel_rfl) [PV.data (a1 : List Bool), PV.eq (vi g8), PV.ptr (ua : Bool), PV.eq (vb ua), PV.eq (vb ua), PV.eq (Value.slice (some ⟨kz, 0, none⟩) ((a0.length : Int)).toNat ((a0.length : Int)).toNat), PV.eq (vi g8), PV.eq (Value.pointer (some ⟨kz, (g8).toNat * 1, none⟩)), PV.data (ud : List U8), PV.data (a0 : List (List U8)), PV.eq (vi g8), PV.ptr (uf : List U8), PV.data (uf : List U8), PV.eq (vb uh), PV.eq (vb (!uh)), PV.eq (vb (!uh))] (Steps_cons ?_ (Steps_cons ?_ (Steps_cons ?_ (Steps_cons ?_ (Steps_cons ?_ (Steps_cons ?_ (Steps_cons ?_ (Steps_cons ?_ (Steps_cons ?_ (Steps_cons ?_ (Steps_cons ?_ (Steps_cons ?_ (Steps_cons ?_ (Steps_cons ?_ (Steps_cons ?_ (Steps_cons ?_ Steps_nil)))))))))))))))) ?_
           ·intro uj uk ul um un Q uo; have uq : uj 1 = w1 := (un 1 (by kernel_rfl)).trans gk; exact mv uq (fin uo (h1.mono (j8.trans (jn.trans (k3.le.trans (kb.le.trans (km.le.trans (g0.le.trans (gh.trans (gw.le.trans (u2.le.trans ul.le)))))))))))
           ·intro uj uk ul um un Q uo; have uq : uj 16 = vi (g8) := (un 16 (by kernel_rfl)).trans rfl; exact mv uq (fin uo rfl)
           ·intro uj uk ul um un Q uo; have uq : V _ (uj 96) (a1 : List Bool) := um 0 96 (by kernel_rfl) (by kernel_rfl); obtain ⟨ur, us, ut⟩ : ∃ v, _ = v ∧ V _ v _ := ⟨_, rfl, uq⟩; have uu : uj 97 = vi (g8) := um 1 97 (by kernel_rfl) (by kernel_rfl); exact ix Tryz.underlying32 ty4.inf us ut uu ub (fun uv uw => fin uo uw)
           ·intro uj uk ul um un Q uo; have uq : Ptr _ (uj 98) (ua : Bool) := um 2 98 (by kernel_rfl) (by kernel_rfl); obtain ⟨ur, us, ut⟩ : ∃ v, _ = v ∧ Ptr _ v _ := ⟨_, rfl, uq⟩; exact L_load_bool ty4 us ut (by decide) (fin uo rfl)
           ·intro uj uk ul um un Q uo; have uq : uj 99 = vb (ua) := um 3 99 (by kernel_rfl) (by kernel_rfl); exact mv uq (fin uo rfl)
           ·intro uj uk ul um un Q uo; have uq : uj 15 = Value.slice (some ⟨kz, 0, none⟩) ((a0.length : Int)).toNat ((a0.length : Int)).toNat := (un 15 (by kernel_rfl)).trans gn; have ur : uj 100 = vb (ua) := um 4 100 (by kernel_rfl) (by kernel_rfl); exact gt 100 ur uc (mv uq (fin uo rfl))
           ·intro uj uk ul um un Q uo; have uq : uj 16 = vi (g8) := (un 16 (by kernel_rfl)).trans rfl; have ur : uj 100 = vb (ua) := um 4 100 (by kernel_rfl) (by kernel_rfl); exact gt 100 ur uc (mv uq (fin uo rfl))
           ·intro uj uk ul um un Q uo; have uq : uj 100 = vb (ua) := um 4 100 (by kernel_rfl) (by kernel_rfl); have ur : uj 101 = Value.slice (some ⟨kz, 0, none⟩) ((a0.length : Int)).toNat ((a0.length : Int)).toNat := um 5 101 (by kernel_rfl) (by kernel_rfl); have us : uj 102 = vi (g8) := um 6 102 (by kernel_rfl) (by kernel_rfl); exact gt 100 uq uc (L_indexA (sz := 1) Tryz.underlying22 ty23.inf ur us (idx_some ue).1 (by have := (idx_some ue).2.1; have := ((u3).ext ul).1; omega) (by decide) (fin uo rfl))
           ·intro uj uk ul um un Q uo; have uq : uj 100 = vb (ua) := um 4 100 (by kernel_rfl) (by kernel_rfl); have ur : uj 103 = Value.pointer (some ⟨kz, (g8).toNat * 1, none⟩) := um 7 103 (by kernel_rfl) (by kernel_rfl); exact gt 100 uq uc (L_loadA (xs := (g9.set (g8).toNat gr)) ty23 ur ((u3).ext ul) ue (by decide) (fun us ut => fin uo ut))
           ·intro uj uk ul um un Q uo; have uq : uj 0 = w0 := (un 0 (by kernel_rfl)).trans gj; have ur : uj 100 = vb (ua) := um 4 100 (by kernel_rfl) (by kernel_rfl); exact gt 100 ur uc (mv uq (fin uo (h0.mono (j8.trans (jn.trans (k3.le.trans (kb.le.trans (km.le.trans (g0.le.trans (gh.trans (gw.le.trans (u2.le.trans ul.le))))))))))))
           ·intro uj uk ul um un Q uo; have uq : uj 16 = vi (g8) := (un 16 (by kernel_rfl)).trans rfl; have ur : uj 100 = vb (ua) := um 4 100 (by kernel_rfl) (by kernel_rfl); exact gt 100 ur uc (mv uq (fin uo rfl))
           ·intro uj uk ul um un Q uo; have uq : uj 100 = vb (ua) := um 4 100 (by kernel_rfl) (by kernel_rfl); have ur : V _ (uj 105) (a0 : List (List U8)) := um 9 105 (by kernel_rfl) (by kernel_rfl); obtain ⟨us, ut, uu⟩ : ∃ v, _ = v ∧ V _ v _ := ⟨_, rfl, ur⟩; have uv : uj 106 = vi (g8) := um 10 106 (by kernel_rfl) (by kernel_rfl); exact gt 100 uq uc (ix Tryz.underlying22 ty23.inf ut uu uv ug (fun uw ux => fin uo ux))
           ·intro uj uk ul um un Q uo; have uq : uj 100 = vb (ua) := um 4 100 (by kernel_rfl) (by kernel_rfl); have ur : Ptr _ (uj 107) (uf : List U8) := um 11 107 (by kernel_rfl) (by kernel_rfl); obtain ⟨us, ut, uu⟩ : ∃ v, _ = v ∧ Ptr _ v _ := ⟨_, rfl, ur⟩; exact gt 100 uq uc (ld ty23 ut uu (fun uv uw => fin uo uw))
           ·intro uj uk ul um un Q uo; have uq : uj 100 = vb (ua) := um 4 100 (by kernel_rfl) (by kernel_rfl); have ur : V _ (uj 104) (ud : List U8) := um 8 104 (by kernel_rfl) (by kernel_rfl); obtain ⟨us, ut, uu⟩ : ∃ v, _ = v ∧ V _ v _ := ⟨_, rfl, ur⟩; have uv : V _ (uj 108) (uf : List U8) := um 12 108 (by kernel_rfl) (by kernel_rfl); obtain ⟨uw, ux, uy⟩ : ∃ v, _ = v ∧ V _ v _ := ⟨_, rfl, uv⟩; refine gt 100 uq uc (L_calls cal57 (args2 ut ux) (bytes_Equal_ok N _ _ _ uu _ _ uy uh ui) (by decide) (fun uz t0 t1 t2 => ?_)); have t3 := Tch.ext (Ext.refl uk) t1; obtain rfl := t2.bool; exact L_nil (uo _ _ t3 rfl)
           ·intro uj uk ul um un Q uo; have uq : uj 100 = vb (ua) := um 4 100 (by kernel_rfl) (by kernel_rfl); have ur : uj 109 = vb (uh) := um 13 109 (by kernel_rfl) (by kernel_rfl); exact gt 100 uq uc (L_not ur (by decide) (fin uo rfl))
           ·intro uj uk ul um un Q uo; have uq : uj 100 = vb (ua) := um 4 100 (by kernel_rfl) (by kernel_rfl); have ur : uj 110 = vb (!uh) := um 14 110 (by kernel_rfl) (by kernel_rfl); exact pt uq uc ur (fin uo rfl)
           ·intro uj uk ul um un; have uo := Tch.ext u4 ul; have uq : uj 0 = w0 := (un 0 (by kernel_rfl)).trans gj; have ur : uj 1 = w1 := (un 1 (by kernel_rfl)).trans gk; have us : uj 13 = k9 := (un 13 (by kernel_rfl)).trans gl; have ut : uj 14 = ku := (un 14 (by kernel_rfl)).trans gm; have uu : uj 15 = Value.slice (some ⟨kz, 0, none⟩) ((a0.length : Int)).toNat ((a0.length : Int)).toNat := (un 15 (by kernel_rfl)).trans gn; have uv : uj 85 = vi (((((a0.length : Int)).toNat : Nat) : Int)) := (un 85 (by kernel_rfl)).trans go; have uw : uj 86 = vi (g8) := (un 86 (by kernel_rfl)).trans gi; have ux : uj 111 = vb (!uh) := um 15 111 (by kernel_rfl); exact then_n ⟨uk, (!uh), rfl, uo, ul.le, Option.some.inj hr, ux, uq, ur, us, ut, uu, uv, uw, (u3).ext ul⟩
          ·have hr := ite_f uc hr
           refine W_draws mixed (by kernel_rfl) [PV.data (a1 : List Bool), PV.eq (vi g8), PV.ptr (ua : Bool), PV.eq (vb ua), PV.eq (vb ua), PV.eq (undef), PV.eq (undef), PV.eq (undef), PV.eq (undef), PV.eq (undef), PV.eq (undef), PV.eq (undef), PV.eq (undef), PV.eq (undef), PV.eq (undef), PV.eq (vb false)] (Steps_cons ?_ (Steps_cons ?_ (Steps_cons ?_ (Steps_cons ?_ (Steps_cons ?_ (Steps_cons ?_ (Steps_cons ?_ (Steps_cons ?_ (Steps_cons ?_ (Steps_cons ?_ (Steps_cons ?_ (Steps_cons ?_ (Steps_cons ?_ (Steps_cons ?_ (Steps_cons ?_ (Steps_cons ?_ Steps_nil)))))))))))))))) ?_
           ·intro ud ue uf ug uh Q ui; have uj : ud 1 = w1 := (uh 1 (by kernel_rfl)).trans gk; exact mv uj (fin ui (h1.mono (j8.trans (jn.trans (k3.le.trans (kb.le.trans (km.le.trans (g0.le.trans (gh.trans (gw.le.trans (u2.le.trans uf.le)))))))))))
           ·intro ud ue uf ug uh Q ui; have uj : ud 16 = vi (g8) := (uh 16 (by kernel_rfl)).trans rfl; exact mv uj (fin ui rfl)
           ·intro ud ue uf ug uh Q ui; have uj : V _ (ud 96) (a1 : List Bool) := ug 0 96 (by kernel_rfl) (by kernel_rfl); obtain ⟨uk, ul, um⟩ : ∃ v, _ = v ∧ V _ v _ := ⟨_, rfl, uj⟩; have un : ud 97 = vi (g8) := ug 1 97 (by kernel_rfl) (by kernel_rfl); exact ix Tryz.underlying32 ty4.inf ul um un ub (fun uo uq => fin ui uq)
           ·intro ud ue uf ug uh Q ui; have uj : Ptr _ (ud 98) (ua : Bool) := ug 2 98 (by kernel_rfl) (by kernel_rfl); obtain ⟨uk, ul, um⟩ : ∃ v, _ = v ∧ Ptr _ v _ := ⟨_, rfl, uj⟩; exact L_load_bool ty4 ul um (by decide) (fin ui rfl)
           ·intro ud ue uf ug uh Q ui; have uj : ud 99 = vb (ua) := ug 3 99 (by kernel_rfl) (by kernel_rfl); exact mv uj (fin ui rfl)
           ·intro ud ue uf ug uh Q ui; have uj : ud 100 = vb (ua) := ug 4 100 (by kernel_rfl) (by kernel_rfl); exact gf 100 uj uc (fin ui rfl)
           ·intro ud ue uf ug uh Q ui; have uj : ud 100 = vb (ua) := ug 4 100 (by kernel_rfl) (by kernel_rfl); exact gf 100 uj uc (fin ui rfl)
           ·intro ud ue uf ug uh Q ui; have uj : ud 100 = vb (ua) := ug 4 100 (by kernel_rfl) (by kernel_rfl); exact gf 100 uj uc (fin ui rfl)
           ·intro ud ue uf ug uh Q ui; have uj : ud 100 = vb (ua) := ug 4 100 (by kernel_rfl) (by kernel_rfl); exact gf 100 uj uc (fin ui rfl)
           ·intro ud ue uf ug uh Q ui; have uj : ud 100 = vb (ua) := ug 4 100 (by kernel_rfl) (by kernel_rfl); exact gf 100 uj uc (fin ui rfl)
           ·intro ud ue uf ug uh Q ui; have uj : ud 100 = vb (ua) := ug 4 100 (by kernel_rfl) (by kernel_rfl); exact gf 100 uj uc (fin ui rfl)
           ·intro ud ue uf ug uh Q ui; have uj : ud 100 = vb (ua) := ug 4 100 (by kernel_rfl) (by kernel_rfl); exact gf 100 uj uc (fin ui rfl)
           ·intro ud ue uf ug uh Q ui; have uj : ud 100 = vb (ua) := ug 4 100 (by kernel_rfl) (by kernel_rfl); exact gf 100 uj uc (fin ui rfl)
           ·intro ud ue uf ug uh Q ui; have uj : ud 100 = vb (ua) := ug 4 100 (by kernel_rfl) (by kernel_rfl); exact gf 100 uj uc (fin ui rfl)
           ·intro ud ue uf ug uh Q ui; have uj : ud 100 = vb (ua) := ug 4 100 (by kernel_rfl) (by kernel_rfl); exact gf 100 uj uc (fin ui rfl)
           ·intro ud ue uf ug uh Q ui; have uj : ud 100 = vb (ua) := ug 4 100 (by kernel_rfl) (by kernel_rfl); exact pf uj uc (rv (vb false)) (fin ui rfl)
           ·intro ud ue uf ug uh; have ui := Tch.ext u4 uf; have uj : ud 0 = w0 := (uh 0 (by kernel_rfl)).trans gj; have uk : ud 1 = w1 := (uh 1 (by kernel_rfl)).trans gk; have ul : ud 13 = k9 := (uh 13 (by kernel_rfl)).trans gl; have um : ud 14 = ku := (uh 14 (by kernel_rfl)).trans gm; have un : ud 15 = Value.slice (some ⟨kz, 0, none⟩) ((a0.length : Int)).toNat ((a0.length : Int)).toNat := (uh 15 (by kernel_rfl)).trans gn; have uo : ud 85 = vi (((((a0.length : Int)).toNat : Nat) : Int)) := (uh 85 (by kernel_rfl)).trans go; have uq : ud 86 = vi (g8) := (uh 86 (by kernel_rfl)).trans gi; have ur : ud 111 = vb (false) := ug 15 111 (by kernel_rfl); exact then_n ⟨ue, false, rfl, ui, uf.le, Option.some.inj hr, ur, uj, uk, ul, um, un, uo, uq, (u3).ext uf⟩
         ·rintro ua ub ⟨uc, u9, rfl, ud, ue, u6, uf, ug, uh, ui, uj, uk, ul, um, un⟩
          subst u6
          have hr := u7
          try dsimp only at hr
          refine W_cond _ uf (fun uo => ?_) (fun uo => ?_)
          ·have hr := ite_t uo hr; refine sr (asg (rv (Value.slice none 0 0)) (asg (rv (vi 20)) (nn (W_ret (block_r (then_r (then_r (block_r ?_)))))))); obtain rfl := Option.some.inj hr; have hr := g6; (try dsimp only at hr); refine then_r (then_r ?_); obtain rfl := Option.some.inj hr; exact done2 (Or.inl rfl) Tryz.results17 rfl rfl ⟨_, _, rfl, rfl, ud, _, _, rfl, Vnil, Vint⟩
          ·have hr := ite_f uo hr; refine W_skip (block_n (then_n (W_region ?_))); obtain ⟨uq, hr⟩ := chk_some hr; exact ad um (rv (vi 1)) uq (mv (rv (vi (g8 + 1))) (nn ⟨ga, Nat.lt_succ_self _, ⟨uc, (g8 + 1), (g9.set (g8).toNat gr), rfl, ud, (gh.trans (gw.le.trans (u2.le.trans ue))), hr, rfl, ug, uh, ui, uj, uk, ul, un⟩⟩))
        ·have hr := ite_f gq hr; refine W_exit (then_x (then_x (block_here ?_))); exact then_n ⟨gd, g9, rfl, gg, gh, Option.some.inj hr, gn, gp⟩
      ·rintro g8 g9 ⟨ga, g7, rfl, gb, gc, g5, gd, gg⟩; subst g5; have hr := g6; (try dsimp only at hr); refine then_n (sr (mv gd (asg (rv (Value.slice (some ⟨kz, 0, none⟩) ((a0.length : Int)).toNat ((a0.length : Int)).toNat)) (asg (rv (vi 0)) (nn (W_ret ?_)))))); obtain rfl := Option.some.inj hr; obtain ⟨gh, gi, gj, gk⟩ := (gg).freeze; have gl := Tch.trans gb gj (fun k hk => Or.inr (by subst hk; exact (Nat.le_trans kp.size g1))); exact done2 (Or.inl rfl) Tryz.results17 rfl rfl ⟨_, _, rfl, gi, gl, _, _, rfl, gk, Vint⟩

theorem ref14_Repair_ok (N : Nat) (s0 : St) (w0 : Value) (a0 : List (List U8)) (h0 : V s0 w0 a0) (w1 : Value) (a1 : List Bool) (h1 : V s0 w1 a1) (a2 : Int) (r : (List (List U8)) × Int) (hr : ref14_Repair N a0 a1 a2 = some r) :
    Calls Tryz.prog 18 #[w0, w1, .int .i64 a2] s0.w (Ret s0 fun v s => ∃ a b, v = .tuple #[a, b] ∧ V s a r.1 ∧ V s b r.2) := by
 unfold ref14_Repair at hr
 have j0 := Ext.refl s0
 refine Calls_of (n := 122) (args := [w0, w1, .int .i64 a2]) Tryz.func18 rfl rfl (by simp) (sr (asg (rv (Value.slice none 0 0)) (asg (rv (vi 0)) (nn (W_seq ?_)))))
 obtain ⟨j1, j2, j3⟩ := bind_some hr
 refine W_seq_cut (fun f w => ∃ (s : St) (j4 : Bool), s.w = w ∧ Ext s0 s ∧ Le s0 s ∧ j4 = j1 ∧ f 34 = vb j4 ∧ f 0 = w0 ∧ f 1 = w1 ∧ f 2 = vi (a2)) ?_ ?_
 ·have hr := j2
  refine W_region (mv (rv (vi a2)) (ls (rv (vi a2)) (rv (vi 1)) (mv (rv (vb (decide (a2 < 1)))) ?_)))
  rcases tf (decide (a2 < 1)) with j5 | j5
  ·have hr := ite_t j5 hr; refine gf 18 (rv (vb (decide (a2 < 1)))) j5 (gf 18 (rv (vb (decide (a2 < 1)))) j5 (pt (rv (vb (decide (a2 < 1)))) j5 (rv (vb true)) (mv (rv (vb true)) (gf 22 (rv (vb true)) rfl (gf 22 (rv (vb true)) rfl (gf 22 (rv (vb true)) rfl (gf 22 (rv (vb true)) rfl (pt (rv (vb true)) rfl (rv (vb true)) (mv (rv (vb true)) (gf 28 (rv (vb true)) rfl (gf 28 (rv (vb true)) rfl (gf 28 (rv (vb true)) rfl (gf 28 (rv (vb true)) rfl ?_))))))))))))); exact gf 28 (rv (vb true)) rfl (pt (rv (vb true)) rfl (rv (vb true)) (nn ⟨s0, true, rfl, j0, (Le.refl _), Option.some.inj hr, rfl, rfl, rfl, rfl⟩))
  ·have hr := ite_f j5 hr
   refine gt 18 (rv (vb (decide (a2 < 1)))) j5 (mv (rv (vi a2)) (gt 18 (rv (vb (decide (a2 < 1)))) j5 (L_gtr (rv (vi a2)) (rv (vi 16)) (by decide) (pf (rv (vb (decide (a2 < 1)))) j5 (rv (vb (decide (16 < a2)))) (mv (rv (vb (decide (16 < a2)))) ?_)))))
   rcases tf (decide (16 < a2)) with j6 | j6
   ·have hr := ite_t j6 hr; exact gf 22 (rv (vb (decide (16 < a2)))) j6 (gf 22 (rv (vb (decide (16 < a2)))) j6 (gf 22 (rv (vb (decide (16 < a2)))) j6 (gf 22 (rv (vb (decide (16 < a2)))) j6 (pt (rv (vb (decide (16 < a2)))) j6 (rv (vb true)) (mv (rv (vb true)) (gf 28 (rv (vb true)) rfl (gf 28 (rv (vb true)) rfl (gf 28 (rv (vb true)) rfl (gf 28 (rv (vb true)) rfl (gf 28 (rv (vb true)) rfl (pt (rv (vb true)) rfl (rv (vb true)) (nn ⟨s0, true, rfl, j0, (Le.refl _), Option.some.inj hr, rfl, rfl, rfl, rfl⟩))))))))))))
   ·have hr := ite_f j6 hr
    refine gt 22 (rv (vb (decide (16 < a2)))) j6 (mv (rv w0) (gt 22 (rv (vb (decide (16 < a2)))) j6 (ln Tryz.underlying22 (rv w0) h0 (gt 22 (rv (vb (decide (16 < a2)))) j6 (mv (rv (vi a2)) (gt 22 (rv (vb (decide (16 < a2)))) j6 (ls (rv (vi ((a0.length : Int)))) (rv (vi a2)) (pf (rv (vb (decide (16 < a2)))) j6 (rv (vb (decide ((a0.length : Int) < a2)))) (mv (rv (vb (decide ((a0.length : Int) < a2)))) ?_)))))))))
    rcases tf (decide ((a0.length : Int) < a2)) with j7 | j7
    ·have hr := ite_t j7 hr; exact gf 28 (rv (vb (decide ((a0.length : Int) < a2)))) j7 (gf 28 (rv (vb (decide ((a0.length : Int) < a2)))) j7 (gf 28 (rv (vb (decide ((a0.length : Int) < a2)))) j7 (gf 28 (rv (vb (decide ((a0.length : Int) < a2)))) j7 (gf 28 (rv (vb (decide ((a0.length : Int) < a2)))) j7 (pt (rv (vb (decide ((a0.length : Int) < a2)))) j7 (rv (vb true)) (nn ⟨s0, true, rfl, j0, (Le.refl _), Option.some.inj hr, rfl, rfl, rfl, rfl⟩))))))
    ·have hr := ite_f j7 hr; refine gt 28 (rv (vb (decide ((a0.length : Int) < a2)))) j7 (mv (rv w0) (gt 28 (rv (vb (decide ((a0.length : Int) < a2)))) j7 (ln Tryz.underlying22 (rv w0) h0 (gt 28 (rv (vb (decide ((a0.length : Int) < a2)))) j7 (mv (rv (vi a2)) (gt 28 (rv (vb (decide ((a0.length : Int) < a2)))) j7 ?_)))))); obtain ⟨j8, hr⟩ := chk_some hr; exact ad (rv (vi a2)) (rv (vi 16)) j8 (gt 28 (rv (vb (decide ((a0.length : Int) < a2)))) j7 (L_gtr (rv (vi ((a0.length : Int)))) (rv (vi (a2 + 16))) (by decide) (pf (rv (vb (decide ((a0.length : Int) < a2)))) j7 (rv (vb (decide ((a2 + 16) < (a0.length : Int))))) (nn ⟨s0, (decide ((a2 + 16) < (a0.length : Int))), rfl, j0, (Le.refl _), Option.some.inj hr, rfl, rfl, rfl, rfl⟩))))
 ·rintro j5 j6 ⟨j7, j4, rfl, j8, j9, j2, ja, jb, jc, jd⟩
  subst j2
  have hr := j3
  try dsimp only at hr
  refine W_cond _ ja (fun je => ?_) (fun je => ?_)
  ·have hr := ite_t je hr; refine sr (asg (rv (Value.slice none 0 0)) (asg (rv (vi 3)) (nn (W_ret (then_r ?_))))); obtain rfl := Option.some.inj hr; exact done2 (Or.inl rfl) Tryz.results18 rfl rfl ⟨_, _, rfl, rfl, j8, _, _, rfl, Vnil, Vint⟩
  ·have hr := ite_f je hr
   refine W_skip (then_n (W_seq (sr (mv jc (ln Tryz.underlying32 (rv w1) (h1.mono j9) (mv jb (ln Tryz.underlying22 (rv w0) (h0.mono j9) (ne (rv (vi ((a1.length : Int)))) (rv (vi ((a0.length : Int)))) (nn ?_)))))))))
   refine W_cond _ (rv (vb (!decide ((a1.length : Int) = (a0.length : Int))))) (fun jf => ?_) (fun jf => ?_)
   ·have hr := ite_t jf hr; refine sr (asg (rv (Value.slice none 0 0)) (asg (rv (vi 26)) (nn (W_ret (then_r ?_))))); obtain rfl := Option.some.inj hr; exact done2 (Or.inl rfl) Tryz.results18 rfl rfl ⟨_, _, rfl, rfl, j8, _, _, rfl, Vnil, Vint⟩
   ·have hr := ite_f jf hr
    refine W_skip (then_n (sr (asg (rv (Value.slice none 0 0)) (nn (sr (asg (rv (Value.slice none 0 0)) (nn (W_seq (sr (asg (rv (vi 0)) (nn ?_)))))))))))
    obtain ⟨jg, jh, ji⟩ := bind_some hr
    refine W_cut (fun f w => ∃ (s : St) (jj : Value) (jk : List Int) (jl : Value) (jm : List (List U8)), s.w = w ∧ Ext s0 s ∧ Le j7 s ∧ (jk, jm) = jg ∧ f 8 = jj ∧ Bld s s0.w.heap.size 3 jj jk ∧ f 9 = jl ∧ Bld s s0.w.heap.size 23 jl jm ∧ f 0 = w0 ∧ f 1 = w1 ∧ f 2 = vi (a2) ∧ (∀ k, (own jj) k → ¬ (own jl) k)) ?_ ?_
    ·refine W_block (W_loop (fun m f w => ∃ (s : St) (jn : Value) (jo : List Int) (jp : Value) (jq : List (List U8)) (jr : Int), s.w = w ∧ Ext s0 s ∧ Le j7 s ∧ ref14_Repair_l1 N a0 a1 m jo jq jr = some jg ∧ f 8 = jn ∧ Bld s s0.w.heap.size 3 jn jo ∧ f 9 = jp ∧ Bld s s0.w.heap.size 23 jp jq ∧ f 10 = vi jr ∧ f 0 = w0 ∧ f 1 = w1 ∧ f 2 = vi (a2) ∧ (∀ k, (own jn) k → ¬ (own jp) k)) N ⟨j7, (Value.slice none 0 0), ([]), (Value.slice none 0 0), ([]), 0, rfl, j8, (Le.refl _), jh, rfl, Bld.nil, rfl, Bld.nil, rfl, jb, jc, jd, (fun k h => absurd h own_nil)⟩ ?_)
     rintro js jt ju ⟨jv, jn, jo, jp, jq, jr, rfl, jw, jx, hr, jy, jz, k0, k1, k2, k3, k4, k5, k6⟩
     cases js with
     | zero => exact absurd hr (by simp [ref14_Repair_l1])
     | succ js =>
      rw [ref14_Repair_l1.eq_2] at hr
      refine W_seq (sr (mv k2 (mv k3 (ln Tryz.underlying22 (rv w0) (h0.mono (j9.trans jx)) (ls (rv (vi jr)) (rv (vi ((a0.length : Int)))) (nn ?_))))))
      refine W_cond _ (rv (vb (decide (jr < (a0.length : Int))))) (fun k7 => ?_) (fun k7 => ?_)
      ·have hr := ite_t k7 hr
       refine W_skip (then_n (W_seq (W_block (sr (mv k4 (mv k2 ?_))))))
       obtain ⟨k8, k9, hr⟩ := bind_some hr
       refine ix Tryz.underlying32 ty4.inf (rv w1) (h1.mono (j9.trans jx)) (rv (vi jr)) k9 (fun ka kb => L_load_bool ty4 (rv ka) kb (by decide) (nn ?_))
       refine W_cond _ (rv (vb k8)) (fun kc => ?_) (fun kc => ?_)
       ·have hr := ite_t kc hr
        obtain ⟨kd, hr⟩ := chk_some hr
        obtain ⟨ke, kf, hr⟩ := bind_some hr
        obtain ⟨kg, hr⟩ := chk_some hr
        refine W_drawO mixed 13 [PX.bld s0.w.heap.size 3 (jo : List Int), PX.eq (vi jr), PX.data (([jr] : List Int) : List Int), PX.bld s0.w.heap.size 3 (jo ++ ([jr] : List Int) : List Int), PX.bld s0.w.heap.size 23 (jq : List (List U8)), PX.data (a0 : List (List U8)), PX.eq (vi jr), PX.ptr (ke : List U8), PX.data (ke : List U8), PX.data (([ke] : List (List U8)) : List (List U8)), PX.bld s0.w.heap.size 23 (jq ++ ([ke] : List (List U8)) : List (List U8)), PX.bld s0.w.heap.size 3 (jo ++ ([jr] : List Int) : List Int), PX.bld s0.w.heap.size 23 (jq ++ ([ke] : List (List U8)) : List (List U8)), PX.bld s0.w.heap.size 3 (jo : List Int), PX.bld s0.w.heap.size 23 (jq : List (List U8))] [50, 51, 52, 53, 54, 55, 56, 57, 58, 59, 60, 8, 9, 8, 9] [[13], [], [], [0], [14], [], [], [], [], [], [4], [3], [10]] rfl (by kernel_rfl) (ent2 rfl (by have hh := jz; rw [← jy] at hh; exact hh) (by have hh := k1; rw [← k0] at hh; exact hh)) (dis2 rfl (fun k h1 kh => k6 k (own_same (jy : _ = jn) h1) (own_same (k0 : _ = jp) kh)) (fun k h1 kh => (fun k hk hm => k6 k hm hk) k (own_same (k0 : _ = jp) h1) (own_same (jy : _ = jn) kh))) (StepsX_cons ?_ (StepsX_cons ?_ (StepsX_cons ?_ (StepsX_cons ?_ (StepsX_cons ?_ (StepsX_cons ?_ (StepsX_cons ?_ (StepsX_cons ?_ (StepsX_cons ?_ (StepsX_cons ?_ (StepsX_cons ?_ (StepsX_cons ?_ (StepsX_cons ?_ StepsX_nil))))))))))))) ?_
        ·intro ki kj kk kl km kn Q ko; obtain ⟨kp, kq, kr⟩ : ∃ v, ki 8 = v ∧ Bld kj s0.w.heap.size 3 v (jo : List Int) := ⟨_, rfl, kl 13 (by kernel_rfl) (by show _ < 15; decide)⟩; exact mv kq (L_nil (ko _ _ No (Ext.refl kj) (fun _ h => h.elim) kr (fun k h => Or.inl ⟨13, (List.mem_singleton.2 rfl : (13 : Nat) ∈ [13]), (by show own (ki 8) k; rw [kq]; exact h)⟩)))
        ·intro ki kj kk kl km kn Q ko; have kp : ki 10 = vi (jr) := (km 10 (by kernel_rfl)).trans k2; exact mv kp (L_nil (ko _ _ No (Ext.refl kj) (fun _ h => h.elim) rfl (fun _ h => h.elim)))
        ·intro ki kj kk kl km kn Q ko; have kp : ki 51 = vi (jr) := kl 1 (by kernel_rfl) (by show _ < 15; decide); refine L_buildSlice (xs := ([jr] : List Int)) Tryz.underlying38 tyz3 (Parts_cons rfl kp Parts_nil) (Vs.cons Vint Vs.nil) rfl (by decide) (by decide) (fun kq kr ks kt ku => ?_); have kv := Tch.ext (Ext.refl kj) ks; exact L_nil (ko _ _ No kv (fun _ h => h.elim) ku (fun _ h => h.elim))
        ·intro ki kj kk kl km kn Q ko; obtain ⟨kp, kq, kr⟩ : ∃ v, ki 50 = v ∧ Bld kj s0.w.heap.size 3 v (jo : List Int) := ⟨_, rfl, kl 0 (by kernel_rfl) (by show _ < 15; decide)⟩; have ks : V _ (ki 52) (([jr] : List Int) : List Int) := kl 2 (by kernel_rfl) (by show _ < 15; decide); obtain ⟨kt, ku, kv⟩ : ∃ v, _ = v ∧ V _ v _ := ⟨_, rfl, ks⟩; exact L_append (xs := jo) (B := s0.w.heap.size) Tryz.underlying38 tyz3 kq ku (kr) (Nat.le_trans jw.size kk.size) kv kd.1 kd.2 (by decide) (fun kw kx ky => L_nil (ko _ _ _ ky.tch (fun k h => ⟨0, (List.mem_singleton.2 rfl : (0 : Nat) ∈ [0]), (by show own (ki 50) k; rw [kq]; exact h)⟩) ky.bld (fun k h => (ky.own k h).imp (fun h => ⟨0, (List.mem_singleton.2 rfl : (0 : Nat) ∈ [0]), (by show own (ki 50) k; rw [kq]; exact h)⟩) (fun h => h))))
        ·intro ki kj kk kl km kn Q ko; obtain ⟨kp, kq, kr⟩ : ∃ v, ki 9 = v ∧ Bld kj s0.w.heap.size 23 v (jq : List (List U8)) := ⟨_, rfl, kl 14 (by kernel_rfl) (by show _ < 15; decide)⟩; exact mv kq (L_nil (ko _ _ No (Ext.refl kj) (fun _ h => h.elim) kr (fun k h => Or.inl ⟨14, (List.mem_singleton.2 rfl : (14 : Nat) ∈ [14]), (by show own (ki 9) k; rw [kq]; exact h)⟩)))
        ·intro ki kj kk kl km kn Q ko; have kp : ki 0 = w0 := (km 0 (by kernel_rfl)).trans k3; exact mv kp (L_nil (ko _ _ No (Ext.refl kj) (fun _ h => h.elim) (h0.mono (j9.trans (jx.trans kk.le))) (fun _ h => h.elim)))
        ·intro ki kj kk kl km kn Q ko; have kp : ki 10 = vi (jr) := (km 10 (by kernel_rfl)).trans k2; exact mv kp (L_nil (ko _ _ No (Ext.refl kj) (fun _ h => h.elim) rfl (fun _ h => h.elim)))
        ·intro ki kj kk kl km kn Q ko; have kp : V _ (ki 55) (a0 : List (List U8)) := kl 5 (by kernel_rfl) (by show _ < 15; decide); obtain ⟨kq, kr, ks⟩ : ∃ v, _ = v ∧ V _ v _ := ⟨_, rfl, kp⟩; have kt : ki 56 = vi (jr) := kl 6 (by kernel_rfl) (by show _ < 15; decide); exact ix Tryz.underlying22 ty23.inf kr ks kt kf (fun ku kv => L_nil (ko _ _ No (Ext.refl kj) (fun _ h => h.elim) kv (fun _ h => h.elim)))
        ·intro ki kj kk kl km kn Q ko; have kp : Ptr _ (ki 57) (ke : List U8) := kl 7 (by kernel_rfl) (by show _ < 15; decide); obtain ⟨kq, kr, ks⟩ : ∃ v, _ = v ∧ Ptr _ v _ := ⟨_, rfl, kp⟩; exact ld ty23 kr ks (fun kt ku => L_nil (ko _ _ No (Ext.refl kj) (fun _ h => h.elim) ku (fun _ h => h.elim)))
        ·intro ki kj kk kl km kn Q ko; have kp : V _ (ki 58) (ke : List U8) := kl 8 (by kernel_rfl) (by show _ < 15; decide); obtain ⟨kq, kr, ks⟩ : ∃ v, _ = v ∧ V _ v _ := ⟨_, rfl, kp⟩; refine L_buildSlice (xs := ([ke] : List (List U8))) Tryz.underlying22 tyz23 (Parts_cons rfl kr Parts_nil) (Vs.cons ks Vs.nil) rfl (by decide) (by decide) (fun kt ku kv kw kx => ?_); have ky := Tch.ext (Ext.refl kj) kv; exact L_nil (ko _ _ No ky (fun _ h => h.elim) kx (fun _ h => h.elim))
        ·intro ki kj kk kl km kn Q ko; obtain ⟨kp, kq, kr⟩ : ∃ v, ki 54 = v ∧ Bld kj s0.w.heap.size 23 v (jq : List (List U8)) := ⟨_, rfl, kl 4 (by kernel_rfl) (by show _ < 15; decide)⟩; have ks : V _ (ki 59) (([ke] : List (List U8)) : List (List U8)) := kl 9 (by kernel_rfl) (by show _ < 15; decide); obtain ⟨kt, ku, kv⟩ : ∃ v, _ = v ∧ V _ v _ := ⟨_, rfl, ks⟩; exact L_append (xs := jq) (B := s0.w.heap.size) Tryz.underlying22 tyz23 kq ku (kr) (Nat.le_trans jw.size kk.size) kv kg.1 kg.2 (by decide) (fun kw kx ky => L_nil (ko _ _ _ ky.tch (fun k h => ⟨4, (List.mem_singleton.2 rfl : (4 : Nat) ∈ [4]), (by show own (ki 54) k; rw [kq]; exact h)⟩) ky.bld (fun k h => (ky.own k h).imp (fun h => ⟨4, (List.mem_singleton.2 rfl : (4 : Nat) ∈ [4]), (by show own (ki 54) k; rw [kq]; exact h)⟩) (fun h => h))))
        ·intro ki kj kk kl km kn Q ko; obtain ⟨kp, kq, kr⟩ : ∃ v, ki 53 = v ∧ Bld kj s0.w.heap.size 3 v (jo ++ ([jr] : List Int) : List Int) := ⟨_, rfl, kl 3 (by kernel_rfl) (by show _ < 15; decide)⟩; exact asg kq (L_nil (ko _ _ No (Ext.refl kj) (fun _ h => h.elim) kr (fun k h => Or.inl ⟨3, (List.mem_singleton.2 rfl : (3 : Nat) ∈ [3]), (by show own (ki 53) k; rw [kq]; exact h)⟩)))
        ·intro ki kj kk kl km kn Q ko; obtain ⟨kp, kq, kr⟩ : ∃ v, ki 60 = v ∧ Bld kj s0.w.heap.size 23 v (jq ++ ([ke] : List (List U8)) : List (List U8)) := ⟨_, rfl, kl 10 (by kernel_rfl) (by show _ < 15; decide)⟩; exact asg kq (L_nil (ko _ _ No (Ext.refl kj) (fun _ h => h.elim) kr (fun k h => Or.inl ⟨10, (List.mem_singleton.2 rfl : (10 : Nat) ∈ [10]), (by show own (ki 60) k; rw [kq]; exact h)⟩)))
        ·intro ki kj kk kl km kn ko; have kp := Tch.trans jw kk (fun k h => Or.inr ((ent_is2 (k := 13) rfl rfl h).elim (fun kh => ((jz).lt (own_same (jy : _ = jn) kh)).1) (fun kh => ((k1).lt (own_same (k0 : _ = jp) kh)).1))); obtain ⟨kq, kr, ks⟩ : ∃ v, ki 8 = v ∧ Bld kj s0.w.heap.size 3 v (jo ++ ([jr] : List Int) : List Int) := ⟨_, rfl, kl 11 (by show _ < 15; decide) (by kernel_rfl)⟩; obtain ⟨kt, ku, kv⟩ : ∃ v, ki 9 = v ∧ Bld kj s0.w.heap.size 23 v (jq ++ ([ke] : List (List U8)) : List (List U8)) := ⟨_, rfl, kl 12 (by show _ < 15; decide) (by kernel_rfl)⟩; have kw : ∀ k, (own kq) k → ¬ (own kt) k := fun k h1 kh => km 11 12 (by show _ < 15; decide) (by show _ < 15; decide) (by kernel_rfl) (by kernel_rfl) (by decide) k (by show own (ki 8) k; rw [kr]; exact h1) (by show own (ki 9) k; rw [ku]; exact kh); have kx : ki 0 = w0 := (ko 0 (by kernel_rfl)).trans k3; have ky : ki 1 = w1 := (ko 1 (by kernel_rfl)).trans k4; have kz : ki 2 = vi (a2) := (ko 2 (by kernel_rfl)).trans k5; have g0 : ki 10 = vi (jr) := (ko 10 (by kernel_rfl)).trans k2; refine block_n (then_n (W_region (mv g0 ?_))); obtain ⟨g1, hr⟩ := chk_some hr; exact ad (rv (vi jr)) (rv (vi 1)) g1 (asg (rv (vi (jr + 1))) (nn ⟨js, Nat.lt_succ_self _, ⟨kj, kq, (jo ++ ([jr] : List Int)), kt, (jq ++ ([ke] : List (List U8))), (jr + 1), rfl, kp, (jx.trans kk.le), hr, kr, ks, ku, kv, rfl, kx, ky, kz, kw⟩⟩))
       ·have hr := ite_f kc hr; refine W_skip (block_n (then_n (W_region (mv k2 ?_)))); obtain ⟨kd, hr⟩ := chk_some hr; exact ad (rv (vi jr)) (rv (vi 1)) kd (asg (rv (vi (jr + 1))) (nn ⟨js, Nat.lt_succ_self _, ⟨jv, jn, jo, jp, jq, (jr + 1), rfl, jw, jx, hr, jy, jz, k0, k1, rfl, k3, k4, k5, k6⟩⟩))
      ·have hr := ite_f k7 hr; refine W_exit (then_x (then_x (block_here ?_))); exact then_n ⟨jv, jn, jo, jp, jq, rfl, jw, jx, Option.some.inj hr, jy, jz, k0, k1, k3, k4, k5, k6⟩
    ·rintro jn jo ⟨jp, jj, jk, jl, jm, rfl, jq, jr, jh, js, jt, ju, jv, jw, jx, jy, jz⟩
     subst jh
     have hr := ji
     try dsimp only at hr
     refine then_n (W_seq (sr (mv ju ?_)))
     have k0 := (jv).toV
     refine ln Tryz.underlying22 (rv jl) k0 (mv jy (ls (rv (vi ((jm.length : Int)))) (rv (vi a2)) (nn ?_)))
     refine W_cond _ (rv (vb (decide ((jm.length : Int) < a2)))) (fun k1 => ?_) (fun k1 => ?_)
     ·have hr := ite_t k1 hr; refine sr (asg (rv (Value.slice none 0 0)) (asg (rv (vi 19)) (nn (W_ret (then_r ?_))))); obtain rfl := Option.some.inj hr; exact done2 (Or.inl rfl) Tryz.results18 rfl rfl ⟨_, _, rfl, rfl, jq, _, _, rfl, Vnil, Vint⟩
     ·have hr := ite_f k1 hr
      refine W_skip (then_n (W_seq (sr (mv ju ?_))))
      have k2 := (jv).toV
      obtain ⟨k3, k4, hr⟩ := bind_some hr
      refine ix Tryz.underlying22 ty23.inf (rv jl) k2 (rv (vi 0)) k4 (fun k5 k6 => ld ty23 (rv k5) k6 (fun k7 k8 => ln Tryz.underlying23 (rv k7) k8 (L_gtr (rv (vi ((k3.length : Int)))) (rv (vi 65536)) (by decide) (nn ?_))))
      refine W_cond _ (rv (vb (decide (65536 < (k3.length : Int))))) (fun k9 => ?_) (fun k9 => ?_)
      ·have hr := ite_t k9 hr; refine sr (asg (rv (Value.slice none 0 0)) (asg (rv (vi 8)) (nn (W_ret (then_r ?_))))); obtain rfl := Option.some.inj hr; exact done2 (Or.inl rfl) Tryz.results18 rfl rfl ⟨_, _, rfl, rfl, jq, _, _, rfl, Vnil, Vint⟩
      ·have hr := ite_f k9 hr
       refine W_skip (then_n (W_seq (sr (asg (rv (vi 0)) (nn ?_)))))
       obtain ⟨ka, kb, kc⟩ := bind_some hr
       refine W_cut (fun f w => ∃ (s : St), s.w = w ∧ Ext s0 s ∧ Le jp s ∧ Sum.inl () = ka ∧ f 0 = w0 ∧ f 1 = w1 ∧ f 2 = vi (a2) ∧ f 8 = jj ∧ f 9 = jl ∧ Bld s s0.w.heap.size 3 jj jk ∧ Bld s s0.w.heap.size 23 jl jm) ?_ ?_
       ·refine W_block (W_loop (fun m f w => ∃ (s : St) (kd : Int), s.w = w ∧ Ext s0 s ∧ Le jp s ∧ ref14_Repair_l2 N jm m kd = some ka ∧ f 11 = vi kd ∧ f 0 = w0 ∧ f 1 = w1 ∧ f 2 = vi (a2) ∧ f 8 = jj ∧ f 9 = jl ∧ Bld s s0.w.heap.size 3 jj jk ∧ Bld s s0.w.heap.size 23 jl jm) N ⟨jp, 0, rfl, jq, (Le.refl _), kb, rfl, jw, jx, jy, js, ju, jt, jv⟩ ?_)
        rintro ke kf kg ⟨kh, kd, rfl, ki, kj, hr, kk, kl, km, kn, ko, kp, kq, kr⟩
        cases ke with
        | zero => exact absurd hr (by simp [ref14_Repair_l2])
        | succ ke =>
         rw [ref14_Repair_l2.eq_2] at hr
         refine W_seq (sr (mv kk (mv kp ?_)))
         have ks := (kr).toV
         refine ln Tryz.underlying22 (rv jl) ks (ls (rv (vi kd)) (rv (vi ((jm.length : Int)))) (nn ?_))
         refine W_cond _ (rv (vb (decide (kd < (jm.length : Int))))) (fun kt => ?_) (fun kt => ?_)
         ·have hr := ite_t kt hr
          refine W_skip (then_n (W_seq (W_block (W_seq ?_))))
          obtain ⟨ku, kv, hr⟩ := bind_some hr
          obtain ⟨kw, kx, hr⟩ := bind_some hr
          refine W_draws mixed (by kernel_rfl) [PV.data (jm : List (List U8)), PV.eq (vi kd), PV.ptr (ku : List U8), PV.data (ku : List U8), PV.eq (vi ((ku.length : Int))), PV.data (jm : List (List U8)), PV.ptr (kw : List U8), PV.data (kw : List U8), PV.eq (vi ((kw.length : Int))), PV.eq (vb (!decide ((ku.length : Int) = (kw.length : Int))))] (Steps_cons ?_ (Steps_cons ?_ (Steps_cons ?_ (Steps_cons ?_ (Steps_cons ?_ (Steps_cons ?_ (Steps_cons ?_ (Steps_cons ?_ (Steps_cons ?_ (Steps_cons ?_ Steps_nil)))))))))) ?_
          ·intro ky kz g0 g1 g2 Q g3; have g4 : ky 9 = jl := (g2 9 (by kernel_rfl)).trans kp; refine mv g4 ?_; have g5 := ((kr).ext g0).toV; exact fin g3 g5
          ·intro ky kz g0 g1 g2 Q g3; have g4 : ky 11 = vi (kd) := (g2 11 (by kernel_rfl)).trans kk; exact mv g4 (fin g3 rfl)
          ·intro ky kz g0 g1 g2 Q g3; have g4 : V _ (ky 76) (jm : List (List U8)) := g1 0 76 (by kernel_rfl) (by kernel_rfl); obtain ⟨g5, g6, g7⟩ : ∃ v, _ = v ∧ V _ v _ := ⟨_, rfl, g4⟩; have g8 : ky 77 = vi (kd) := g1 1 77 (by kernel_rfl) (by kernel_rfl); exact ix Tryz.underlying22 ty23.inf g6 g7 g8 kv (fun g9 ga => fin g3 ga)
          ·intro ky kz g0 g1 g2 Q g3; have g4 : Ptr _ (ky 78) (ku : List U8) := g1 2 78 (by kernel_rfl) (by kernel_rfl); obtain ⟨g5, g6, g7⟩ : ∃ v, _ = v ∧ Ptr _ v _ := ⟨_, rfl, g4⟩; exact ld ty23 g6 g7 (fun g8 g9 => fin g3 g9)
          ·intro ky kz g0 g1 g2 Q g3; have g4 : V _ (ky 79) (ku : List U8) := g1 3 79 (by kernel_rfl) (by kernel_rfl); obtain ⟨g5, g6, g7⟩ : ∃ v, _ = v ∧ V _ v _ := ⟨_, rfl, g4⟩; exact ln Tryz.underlying23 g6 g7 (fin g3 rfl)
          ·intro ky kz g0 g1 g2 Q g3; have g4 : ky 9 = jl := (g2 9 (by kernel_rfl)).trans kp; refine mv g4 ?_; have g5 := ((kr).ext g0).toV; exact fin g3 g5
          ·intro ky kz g0 g1 g2 Q g3; have g4 : V _ (ky 81) (jm : List (List U8)) := g1 5 81 (by kernel_rfl) (by kernel_rfl); obtain ⟨g5, g6, g7⟩ : ∃ v, _ = v ∧ V _ v _ := ⟨_, rfl, g4⟩; exact ix Tryz.underlying22 ty23.inf g6 g7 (rv (vi 0)) kx (fun g8 g9 => fin g3 g9)
          ·intro ky kz g0 g1 g2 Q g3; have g4 : Ptr _ (ky 82) (kw : List U8) := g1 6 82 (by kernel_rfl) (by kernel_rfl); obtain ⟨g5, g6, g7⟩ : ∃ v, _ = v ∧ Ptr _ v _ := ⟨_, rfl, g4⟩; exact ld ty23 g6 g7 (fun g8 g9 => fin g3 g9)
          ·intro ky kz g0 g1 g2 Q g3; have g4 : V _ (ky 83) (kw : List U8) := g1 7 83 (by kernel_rfl) (by kernel_rfl); obtain ⟨g5, g6, g7⟩ : ∃ v, _ = v ∧ V _ v _ := ⟨_, rfl, g4⟩; exact ln Tryz.underlying23 g6 g7 (fin g3 rfl)
          ·intro ky kz g0 g1 g2 Q g3; have g4 : ky 80 = vi ((ku.length : Int)) := g1 4 80 (by kernel_rfl) (by kernel_rfl); have g5 : ky 84 = vi ((kw.length : Int)) := g1 8 84 (by kernel_rfl) (by kernel_rfl); exact ne g4 g5 (fin g3 rfl)
          ·intro ky kz g0 g1 g2
           have g3 := Tch.ext ki g0
           have g4 : ky 0 = w0 := (g2 0 (by kernel_rfl)).trans kl
           have g5 : ky 1 = w1 := (g2 1 (by kernel_rfl)).trans km
           have g6 : ky 2 = vi (a2) := (g2 2 (by kernel_rfl)).trans kn
           have g7 : ky 8 = jj := (g2 8 (by kernel_rfl)).trans ko
           have g8 : ky 9 = jl := (g2 9 (by kernel_rfl)).trans kp
           have g9 : ky 11 = vi (kd) := (g2 11 (by kernel_rfl)).trans kk
           have ga : ky 85 = vb (!decide ((ku.length : Int) = (kw.length : Int))) := g1 9 85 (by kernel_rfl)
           refine then_n ?_
           refine W_cond _ ga (fun gb => ?_) (fun gb => ?_)
           ·have hr := ite_t gb hr; refine sr (asg (rv (Value.slice none 0 0)) (asg (rv (vi 26)) (nn (W_ret (block_r (then_r (then_r (block_r ?_)))))))); obtain rfl := Option.some.inj hr; have hr := kc; (try dsimp only at hr); refine then_r (then_r ?_); obtain rfl := Option.some.inj hr; exact done2 (Or.inl rfl) Tryz.results18 rfl rfl ⟨_, _, rfl, rfl, g3, _, _, rfl, Vnil, Vint⟩
           ·have hr := ite_f gb hr; refine W_skip (block_n (then_n (W_region (mv g9 ?_)))); obtain ⟨gc, hr⟩ := chk_some hr; exact ad (rv (vi kd)) (rv (vi 1)) gc (asg (rv (vi (kd + 1))) (nn ⟨ke, Nat.lt_succ_self _, ⟨kz, (kd + 1), rfl, g3, (kj.trans g0.le), hr, rfl, g4, g5, g6, g7, g8, (kq).ext g0, (kr).ext g0⟩⟩))
         ·have hr := ite_f kt hr; refine W_exit (then_x (then_x (block_here ?_))); exact then_n ⟨kh, rfl, ki, kj, Option.some.inj hr, kl, km, kn, ko, kp, kq, kr⟩
       ·rintro kd ke ⟨kf, rfl, kg, kh, kb, ki, kj, kk, kl, km, kn, ko⟩
        subst kb
        have hr := kc
        try dsimp only at hr
        refine then_n (W_seq ?_)
        obtain ⟨kp, kq, hr⟩ := bind_some hr
        obtain ⟨kr, ks, hr⟩ := bind_some hr
        obtain ⟨kt, ku, hr⟩ := bind_some hr
        refine W_draws mixed (by kernel_rfl) [PV.data (jk : List Int), PV.eq (vi a2), PV.data (kp : List Int), PV.data (jm : List (List U8)), PV.eq (vi a2), PV.data (kr : List (List U8)), PV.data (kt : List (List U8)), PV.data (kt : List (List U8))] (Steps_cons ?_ (Steps_cons ?_ (Steps_cons ?_ (Steps_cons ?_ (Steps_cons ?_ (Steps_cons ?_ (Steps_cons ?_ (Steps_cons ?_ Steps_nil)))))))) ?_
        ·intro kv kw kx ky kz Q g0; have g1 : kv 8 = jj := (kz 8 (by kernel_rfl)).trans kl; refine mv g1 ?_; have g2 := ((kn).ext kx).toV; exact fin g0 g2
        ·intro kv kw kx ky kz Q g0; have g1 : kv 2 = vi (a2) := (kz 2 (by kernel_rfl)).trans kk; exact mv g1 (fin g0 rfl)
        ·intro kv kw kx ky kz Q g0; have g1 : V _ (kv 86) (jk : List Int) := ky 0 86 (by kernel_rfl) (by kernel_rfl); obtain ⟨g2, g3, g4⟩ : ∃ v, _ = v ∧ V _ v _ := ⟨_, rfl, g1⟩; have g5 : kv 87 = vi (a2) := ky 1 87 (by kernel_rfl) (by kernel_rfl); exact L_slice_h Tryz.underlying38 ty3.inf g3 g4 g5 kq (by decide) (fun g6 g7 => fin g0 g7)
        ·intro kv kw kx ky kz Q g0; have g1 : kv 9 = jl := (kz 9 (by kernel_rfl)).trans km; refine mv g1 ?_; have g2 := ((ko).ext kx).toV; exact fin g0 g2
        ·intro kv kw kx ky kz Q g0; have g1 : kv 2 = vi (a2) := (kz 2 (by kernel_rfl)).trans kk; exact mv g1 (fin g0 rfl)
        ·intro kv kw kx ky kz Q g0; have g1 : V _ (kv 89) (jm : List (List U8)) := ky 3 89 (by kernel_rfl) (by kernel_rfl); obtain ⟨g2, g3, g4⟩ : ∃ v, _ = v ∧ V _ v _ := ⟨_, rfl, g1⟩; have g5 : kv 90 = vi (a2) := ky 4 90 (by kernel_rfl) (by kernel_rfl); exact L_slice_h Tryz.underlying22 ty23.inf g3 g4 g5 ks (by decide) (fun g6 g7 => fin g0 g7)
        ·intro kv kw kx ky kz Q g0; have g1 : V _ (kv 88) (kp : List Int) := ky 2 88 (by kernel_rfl) (by kernel_rfl); obtain ⟨g2, g3, g4⟩ : ∃ v, _ = v ∧ V _ v _ := ⟨_, rfl, g1⟩; have g5 : V _ (kv 91) (kr : List (List U8)) := ky 5 91 (by kernel_rfl) (by kernel_rfl); obtain ⟨g6, g7, g8⟩ : ∃ v, _ = v ∧ V _ v _ := ⟨_, rfl, g5⟩; refine L_calls cal58 (args2 g3 g7) (ref14_solved_ok N _ _ _ g4 _ _ g8 kt ku) (by decide) (fun g9 ga gb gc => ?_); have gd := Tch.ext (Ext.refl kw) gb; exact L_nil (g0 _ _ gd gc)
        ·intro kv kw kx ky kz Q g0; have g1 : V _ (kv 92) (kt : List (List U8)) := ky 6 92 (by kernel_rfl) (by kernel_rfl); obtain ⟨g2, g3, g4⟩ : ∃ v, _ = v ∧ V _ v _ := ⟨_, rfl, g1⟩; exact asg g3 (fin g0 g4)
        ·intro kv kw kx ky kz
         have g0 := Tch.ext kg kx
         have g1 : kv 0 = w0 := (kz 0 (by kernel_rfl)).trans ki
         have g2 : kv 1 = w1 := (kz 1 (by kernel_rfl)).trans kj
         have g3 : kv 2 = vi (a2) := (kz 2 (by kernel_rfl)).trans kk
         have g4 : V _ (kv 12) (kt : List (List U8)) := ky 7 12 (by kernel_rfl)
         obtain ⟨g5, g6, g7⟩ : ∃ v, _ = v ∧ V _ v _ := ⟨_, rfl, g4⟩
         refine then_n (sr (asg (rv (Value.slice none 0 0)) (nn (W_seq (sr (asg (rv (vi 0)) (nn ?_)))))))
         obtain ⟨g8, g9, ga⟩ := bind_some hr
         refine W_cut (fun f w => ∃ (s : St) (gb : Value) (gc : List (List U8)), s.w = w ∧ Ext s0 s ∧ Le kw s ∧ Sum.inl gc = g8 ∧ f 13 = gb ∧ Bld s s0.w.heap.size 23 gb gc) ?_ ?_
         ·refine W_block (W_loop (fun m f w => ∃ (s : St) (gd : Value) (gg : List (List U8)) (gh : Int), s.w = w ∧ Ext s0 s ∧ Le kw s ∧ ref14_Repair_l3 N a0 a1 a2 kt m gg gh = some g8 ∧ f 13 = gd ∧ Bld s s0.w.heap.size 23 gd gg ∧ f 14 = vi gh ∧ f 0 = w0 ∧ f 1 = w1 ∧ f 2 = vi (a2) ∧ f 12 = g5) N ⟨kw, (Value.slice none 0 0), ([]), 0, rfl, g0, (Le.refl _), g9, rfl, Bld.nil, rfl, g1, g2, g3, g6⟩ ?_)
          rintro gi gj gk ⟨gl, gd, gg, gh, rfl, gm, gn, hr, go, gp, gq, gr, gs, gu, gv⟩
          cases gi with
          | zero => exact absurd hr (by simp [ref14_Repair_l3])
          | succ gi =>
           rw [ref14_Repair_l3.eq_2] at hr
           refine W_seq (sr (mv gq (mv gr (ln Tryz.underlying22 (rv w0) (h0.mono (j9.trans (jr.trans (kh.trans (kx.le.trans gn))))) (ls (rv (vi gh)) (rv (vi ((a0.length : Int)))) (nn ?_))))))
           refine W_cond _ (rv (vb (decide (gh < (a0.length : Int))))) (fun gw => ?_) (fun gw => ?_)
           ·have hr := ite_t gw hr
            refine W_skip (then_n (W_seq (W_block (sr (mv gq (mv gu ?_))))))
            obtain ⟨gx, gy, hr⟩ := bind_some hr
            refine L_calls cal53 (args2 (rv (vi gh)) (rv (vi a2))) (ref14_weights_ok N _ gh a2 gx gy) (by decide) (fun gz u0 u1 u2 => ?_)
            have u3 := Tch.ext gm u1
            refine mv gv ?_
            obtain ⟨u4, u5, hr⟩ := bind_some hr
            refine L_calls cal52 (args2 (rv gz) (rv g5)) (ref14_combined_ok N _ _ _ u2 _ _ (g7.mono (gn.trans u1.le)) u4 u5) (by decide) (fun u6 u7 u9 ua => ?_)
            have ub := Tch.ext u3 u9
            refine asg (rv u6) (nn (W_seq ?_))
            obtain ⟨uc, ud, ue⟩ := bind_some hr
            refine W_seq_cut (fun f w => ∃ (s : St) (uf : Bool), s.w = w ∧ Ext s0 s ∧ Le u7 s ∧ uf = uc ∧ f 116 = vb uf ∧ f 0 = w0 ∧ f 1 = w1 ∧ f 2 = vi (a2) ∧ f 12 = g5 ∧ f 13 = gd ∧ f 14 = vi (gh) ∧ f 15 = u6 ∧ Bld s s0.w.heap.size 23 gd gg) ?_ ?_
            ·have hr := ud
             refine W_region (mv gs (mv gq ?_))
             obtain ⟨ug, uh, hr⟩ := bind_some hr
             refine ix Tryz.underlying32 ty4.inf (rv w1) (h1.mono (j9.trans (jr.trans (kh.trans (kx.le.trans (gn.trans (u1.le.trans u9.le))))))) (rv (vi gh)) uh (fun ui uj => L_load_bool ty4 (rv ui) uj (by decide) (mv (rv (vb ug)) ?_))
             rcases tf (ug) with uk | uk
             ·have hr := ite_t uk hr; refine gt 108 (rv (vb ug)) uk (mv (rv u6) (gt 108 (rv (vb ug)) uk (mv gr (gt 108 (rv (vb ug)) uk (mv gq (gt 108 (rv (vb ug)) uk ?_)))))); obtain ⟨ul, um, hr⟩ := bind_some hr; refine ix Tryz.underlying22 ty23.inf (rv w0) (h0.mono (j9.trans (jr.trans (kh.trans (kx.le.trans (gn.trans (u1.le.trans u9.le))))))) (rv (vi gh)) um (fun un uo => gt 108 (rv (vb ug)) uk (ld ty23 (rv un) uo (fun uq ur => gt 108 (rv (vb ug)) uk ?_))); obtain ⟨us, ut, hr⟩ := bind_some hr; refine L_calls cal59 (args2 (rv u6) (rv uq)) (ref14_same_ok N _ _ _ ua _ _ ur us ut) (by decide) (fun uu uv uw ux => ?_); have uy := Tch.ext ub uw; obtain rfl := ux.bool; exact gt 108 (rv (vb ug)) uk (L_not (rv (vb us)) (by decide) (pt (rv (vb ug)) uk (rv (vb (!us))) (nn ⟨uv, (!us), rfl, uy, uw.le, Option.some.inj hr, rfl, gr, gs, gu, gv, go, gq, rfl, (((gp).ext u1).ext u9).ext uw⟩)))
             ·have hr := ite_f uk hr; exact gf 108 (rv (vb ug)) uk (gf 108 (rv (vb ug)) uk (gf 108 (rv (vb ug)) uk (gf 108 (rv (vb ug)) uk (gf 108 (rv (vb ug)) uk (gf 108 (rv (vb ug)) uk (gf 108 (rv (vb ug)) uk (pf (rv (vb ug)) uk (rv (vb false)) (nn ⟨u7, false, rfl, ub, (Le.refl _), Option.some.inj hr, rfl, gr, gs, gu, gv, go, gq, rfl, ((gp).ext u1).ext u9⟩))))))))
            ·rintro ug uh ⟨ui, uf, rfl, uj, uk, ud, ul, um, un, uo, uq, ur, us, ut, uu⟩
             subst ud
             have hr := ue
             try dsimp only at hr
             refine W_cond _ ul (fun uv => ?_) (fun uv => ?_)
             ·have hr := ite_t uv hr; refine sr (asg (rv (Value.slice none 0 0)) (asg (rv (vi 20)) (nn (W_ret (then_r (block_r (then_r (then_r (block_r ?_))))))))); obtain rfl := Option.some.inj hr; have hr := ga; (try dsimp only at hr); refine then_r (then_r ?_); obtain rfl := Option.some.inj hr; exact done2 (Or.inl rfl) Tryz.results18 rfl rfl ⟨_, _, rfl, rfl, uj, _, _, rfl, Vnil, Vint⟩
             ·have hr := ite_f uv hr; refine W_skip (then_n (W_region (mv ur (mv ut (L_buildSlice (xs := ([u4] : List (List U8))) Tryz.underlying22 tyz23 (Parts_cons rfl (rv u6) Parts_nil) (Vs.cons (ua.mono uk) Vs.nil) rfl (by decide) (by decide) (fun uw ux uy uz t0 => ?_)))))); have t1 := Tch.ext uj uy; obtain ⟨t2, hr⟩ := chk_some hr; refine L_append (xs := gg) (B := s0.w.heap.size) Tryz.underlying22 tyz23 (rv gd) (rv ux) ((uu).ext uy) (t1.size) t0 t2.1 t2.2 (by decide) (fun t3 t4 t5 => ?_); have t6 := t5.tchM ((uu).ext uy) t1 (Nat.le_refl _); refine asg (rv t3) (L_nil (block_n (then_n (W_region (mv us ?_))))); obtain ⟨t7, hr⟩ := chk_some hr; exact ad (rv (vi gh)) (rv (vi 1)) t7 (asg (rv (vi (gh + 1))) (nn ⟨gi, Nat.lt_succ_self _, ⟨t4, t3, (gg ++ ([u4] : List (List U8))), (gh + 1), rfl, t6, (gn.trans (u1.le.trans (u9.le.trans (uk.trans (uy.le.trans t5.tch.le))))), hr, rfl, t5.bld, rfl, um, un, uo, uq⟩⟩))
           ·have hr := ite_f gw hr; refine W_exit (then_x (then_x (block_here ?_))); exact then_n ⟨gl, gd, gg, rfl, gm, gn, Option.some.inj hr, go, gp⟩
         ·rintro gd gg ⟨gh, gb, gc, rfl, gi, gj, g9, gk, gl⟩; subst g9; have hr := ga; (try dsimp only at hr); refine then_n (sr (mv gk ?_)); have gm := (gl).toV; refine asg (rv gb) (asg (rv (vi 0)) (nn (W_ret ?_))); obtain rfl := Option.some.inj hr; exact done2 (Or.inl rfl) Tryz.results18 rfl rfl ⟨_, _, rfl, rfl, gi, _, _, rfl, gm, Vint⟩

theorem check_Unite_ok (N : Nat) (s0 : St) (w0 : Value) (a0 : List (List U8)) (h0 : V s0 w0 a0) (w1 : Value) (a1 : List Bool) (h1 : V s0 w1 a1) (a2 : Int) (r : (List U8) × Int) (hr : check_Unite N a0 a1 a2 = some r) :
    Calls Tryz.prog 19 #[w0, w1, .int .i64 a2] s0.w (Ret s0 fun v s => ∃ a b, v = .tuple #[a, b] ∧ V s a r.1 ∧ V s b r.2) := by
 unfold check_Unite at hr
 have j0 := Ext.refl s0
 refine Calls_of (n := 77) (args := [w0, w1, .int .i64 a2]) Tryz.func19 rfl rfl (by simp) (sr (asg (rv (Value.slice none 0 0)) (asg (rv (vi 0)) (nn (sr (mv (rv w0) (mv (rv w1) (mv (rv (vi a2)) ?_))))))))
 obtain ⟨j1, j2, hr⟩ := bind_some hr
 refine L_calls cal17 (args3 (rv w0) (rv w1) (rv (vi a2))) (check_Repair_ok N _ _ _ h0 _ _ h1 a2 j1 j2) (by decide) (fun j3 j4 j5 j6 => ?_)
 have j7 := Tch.ext j0 j5
 obtain ⟨j8, j9, rfl, ja, jb⟩ := j6
 obtain rfl := jb.int
 refine mv (rv (Value.tuple #[j8, vi (j1.2)])) (xt (rv (Value.tuple #[j8, vi (j1.2)])) (k := 0) rfl (xt (rv (Value.tuple #[j8, vi (j1.2)])) (k := 1) rfl (asg (rv j8) (asg (rv (vi (j1.2))) (nn (W_seq (sr (mv (rv (vi (j1.2))) (ne (rv (vi (j1.2))) (rv (vi 0)) (nn ?_))))))))))
 refine W_cond _ (rv (vb (!decide (j1.2 = 0)))) (fun jc => ?_) (fun jc => ?_)
 ·have hr := ite_t jc hr; refine sr (mv (rv (vi (j1.2))) (asg (rv (Value.slice none 0 0)) (asg (rv (vi (j1.2))) (nn (W_ret (then_r ?_)))))); obtain rfl := Option.some.inj hr; exact done2 (Or.inl rfl) Tryz.results19 rfl rfl ⟨_, _, rfl, rfl, j7, _, _, rfl, Vnil, Vint⟩
 ·have hr := ite_f jc hr
  refine W_skip (then_n (sr (mv (rv j8) (mv (rv (vi a2)) ?_))))
  obtain ⟨jd, je, hr⟩ := bind_some hr
  refine L_slice_h Tryz.underlying22 ty23.inf (rv j8) ja (rv (vi a2)) je (by decide) (fun jf jg => ?_)
  obtain ⟨jh, ji, hr⟩ := bind_some hr
  refine L_calls cal60 (args1 (rv jf)) (slices_Concat_Lbyte_byte_ok N _ _ _ jg jh ji) (by decide) (fun jj jk jl jm => ?_)
  have jn := Tch.ext j7 jl
  refine asg (rv jj) (nn (W_seq (sr (mv (rv jj) (ln Tryz.underlying23 (rv jj) jm (ls (rv (vi ((jh.length : Int)))) (rv (vi 4)) (nn ?_)))))))
  refine W_cond _ (rv (vb (decide ((jh.length : Int) < 4)))) (fun jo => ?_) (fun jo => ?_)
  ·have hr := ite_t jo hr; refine sr (asg (rv (Value.slice none 0 0)) (asg (rv (vi 7)) (nn (W_ret (then_r ?_))))); obtain rfl := Option.some.inj hr; exact done2 (Or.inl rfl) Tryz.results19 rfl rfl ⟨_, _, rfl, rfl, jn, _, _, rfl, Vnil, Vint⟩
  ·have hr := ite_f jo hr
   refine W_skip (then_n (W_seq ?_))
   obtain ⟨jp, jq, hr⟩ := bind_some hr
   obtain ⟨jr, hr⟩ := chk_some hr
   obtain ⟨js, hr⟩ := chk_some hr
   obtain ⟨jt, ju, hr⟩ := bind_some hr
   obtain ⟨jv, hr⟩ := chk_some hr
   obtain ⟨jw, hr⟩ := chk_some hr
   obtain ⟨jx, jy, hr⟩ := bind_some hr
   obtain ⟨jz, hr⟩ := chk_some hr
   obtain ⟨k0, hr⟩ := chk_some hr
   obtain ⟨k1, k2, hr⟩ := bind_some hr
   obtain ⟨k3, hr⟩ := chk_some hr
   refine W_draws mixed (by kernel_rfl) [PV.data (jh : List U8), PV.ptr (jp : U8), PV.eq (Value.int .u8 (jp).n), PV.eq (vi (jp.n)), PV.eq (vi (shlK .i64 jp.n (⟨24⟩ : U64).n)), PV.data (jh : List U8), PV.ptr (jt : U8), PV.eq (Value.int .u8 (jt).n), PV.eq (vi (jt.n)), PV.eq (vi (shlK .i64 jt.n (⟨16⟩ : U64).n)), PV.eq (vi (orK .i64 (shlK .i64 jp.n (⟨24⟩ : U64).n) (shlK .i64 jt.n (⟨16⟩ : U64).n))), PV.data (jh : List U8), PV.ptr (jx : U8), PV.eq (Value.int .u8 (jx).n), PV.eq (vi (jx.n)), PV.eq (vi (shlK .i64 jx.n (⟨8⟩ : U64).n)), PV.eq (vi (orK .i64 (orK .i64 (shlK .i64 jp.n (⟨24⟩ : U64).n) (shlK .i64 jt.n (⟨16⟩ : U64).n)) (shlK .i64 jx.n (⟨8⟩ : U64).n))), PV.data (jh : List U8), PV.ptr (k1 : U8), PV.eq (Value.int .u8 (k1).n), PV.eq (vi (k1.n)), PV.eq (vi (orK .i64 (orK .i64 (orK .i64 (shlK .i64 jp.n (⟨24⟩ : U64).n) (shlK .i64 jt.n (⟨16⟩ : U64).n)) (shlK .i64 jx.n (⟨8⟩ : U64).n)) k1.n)), PV.eq (vi (orK .i64 (orK .i64 (orK .i64 (shlK .i64 jp.n (⟨24⟩ : U64).n) (shlK .i64 jt.n (⟨16⟩ : U64).n)) (shlK .i64 jx.n (⟨8⟩ : U64).n)) k1.n))] (Steps_cons ?_ (Steps_cons ?_ (Steps_cons ?_ (Steps_cons ?_ (Steps_cons ?_ (Steps_cons ?_ (Steps_cons ?_ (Steps_cons ?_ (Steps_cons ?_ (Steps_cons ?_ (Steps_cons ?_ (Steps_cons ?_ (Steps_cons ?_ (Steps_cons ?_ (Steps_cons ?_ (Steps_cons ?_ (Steps_cons ?_ (Steps_cons ?_ (Steps_cons ?_ (Steps_cons ?_ (Steps_cons ?_ (Steps_cons ?_ (Steps_cons ?_ Steps_nil))))))))))))))))))))))) ?_
   ·intro k4 k5 k6 k7 k8 Q k9; have ka : k4 10 = jj := (k8 10 (by kernel_rfl)).trans rfl; exact mv ka (fin k9 (jm.mono k6.le))
   ·intro k4 k5 k6 k7 k8 Q k9; have ka : V _ (k4 29) (jh : List U8) := k7 0 29 (by kernel_rfl) (by kernel_rfl); obtain ⟨kb, kc, kd⟩ : ∃ v, _ = v ∧ V _ v _ := ⟨_, rfl, ka⟩; exact ix Tryz.underlying23 ty5.inf kc kd (rv (vi 0)) jq (fun ke kf => fin k9 kf)
   ·intro k4 k5 k6 k7 k8 Q k9; have ka : Ptr _ (k4 30) (jp : U8) := k7 1 30 (by kernel_rfl) (by kernel_rfl); obtain ⟨kb, kc, kd⟩ : ∃ v, _ = v ∧ Ptr _ v _ := ⟨_, rfl, ka⟩; exact L_load_u8 ty5 kc kd (by decide) (fin k9 rfl)
   ·intro k4 k5 k6 k7 k8 Q k9; have ka : k4 31 = Value.int .u8 (jp).n := k7 2 31 (by kernel_rfl) (by kernel_rfl); exact L_convert_i64 Tryz.underlying5 Tryz.underlying3 ka jr (by decide) (fin k9 rfl)
   ·intro k4 k5 k6 k7 k8 Q k9; have ka : k4 32 = vi (jp.n) := k7 3 32 (by kernel_rfl) (by kernel_rfl); exact L_shlK ka (rv (Value.int .u64 ((⟨24⟩ : U64)).n)) js (by decide) (fin k9 rfl)
   ·intro k4 k5 k6 k7 k8 Q k9; have ka : k4 10 = jj := (k8 10 (by kernel_rfl)).trans rfl; exact mv ka (fin k9 (jm.mono k6.le))
   ·intro k4 k5 k6 k7 k8 Q k9; have ka : V _ (k4 34) (jh : List U8) := k7 5 34 (by kernel_rfl) (by kernel_rfl); obtain ⟨kb, kc, kd⟩ : ∃ v, _ = v ∧ V _ v _ := ⟨_, rfl, ka⟩; exact ix Tryz.underlying23 ty5.inf kc kd (rv (vi 1)) ju (fun ke kf => fin k9 kf)
   ·intro k4 k5 k6 k7 k8 Q k9; have ka : Ptr _ (k4 35) (jt : U8) := k7 6 35 (by kernel_rfl) (by kernel_rfl); obtain ⟨kb, kc, kd⟩ : ∃ v, _ = v ∧ Ptr _ v _ := ⟨_, rfl, ka⟩; exact L_load_u8 ty5 kc kd (by decide) (fin k9 rfl)
   ·intro k4 k5 k6 k7 k8 Q k9; have ka : k4 36 = Value.int .u8 (jt).n := k7 7 36 (by kernel_rfl) (by kernel_rfl); exact L_convert_i64 Tryz.underlying5 Tryz.underlying3 ka jv (by decide) (fin k9 rfl)
   ·intro k4 k5 k6 k7 k8 Q k9; have ka : k4 37 = vi (jt.n) := k7 8 37 (by kernel_rfl) (by kernel_rfl); exact L_shlK ka (rv (Value.int .u64 ((⟨16⟩ : U64)).n)) jw (by decide) (fin k9 rfl)
   ·intro k4 k5 k6 k7 k8 Q k9; have ka : k4 33 = vi (shlK .i64 jp.n (⟨24⟩ : U64).n) := k7 4 33 (by kernel_rfl) (by kernel_rfl); have kb : k4 38 = vi (shlK .i64 jt.n (⟨16⟩ : U64).n) := k7 9 38 (by kernel_rfl) (by kernel_rfl); exact L_orK ka kb (by decide) (fin k9 rfl)
   ·intro k4 k5 k6 k7 k8 Q k9; have ka : k4 10 = jj := (k8 10 (by kernel_rfl)).trans rfl; exact mv ka (fin k9 (jm.mono k6.le))
   ·intro k4 k5 k6 k7 k8 Q k9; have ka : V _ (k4 40) (jh : List U8) := k7 11 40 (by kernel_rfl) (by kernel_rfl); obtain ⟨kb, kc, kd⟩ : ∃ v, _ = v ∧ V _ v _ := ⟨_, rfl, ka⟩; exact ix Tryz.underlying23 ty5.inf kc kd (rv (vi 2)) jy (fun ke kf => fin k9 kf)
   ·intro k4 k5 k6 k7 k8 Q k9; have ka : Ptr _ (k4 41) (jx : U8) := k7 12 41 (by kernel_rfl) (by kernel_rfl); obtain ⟨kb, kc, kd⟩ : ∃ v, _ = v ∧ Ptr _ v _ := ⟨_, rfl, ka⟩; exact L_load_u8 ty5 kc kd (by decide) (fin k9 rfl)
   ·intro k4 k5 k6 k7 k8 Q k9; have ka : k4 42 = Value.int .u8 (jx).n := k7 13 42 (by kernel_rfl) (by kernel_rfl); exact L_convert_i64 Tryz.underlying5 Tryz.underlying3 ka jz (by decide) (fin k9 rfl)
   ·intro k4 k5 k6 k7 k8 Q k9; have ka : k4 43 = vi (jx.n) := k7 14 43 (by kernel_rfl) (by kernel_rfl); exact L_shlK ka (rv (Value.int .u64 ((⟨8⟩ : U64)).n)) k0 (by decide) (fin k9 rfl)
   ·intro k4 k5 k6 k7 k8 Q k9; have ka : k4 39 = vi (orK .i64 (shlK .i64 jp.n (⟨24⟩ : U64).n) (shlK .i64 jt.n (⟨16⟩ : U64).n)) := k7 10 39 (by kernel_rfl) (by kernel_rfl); have kb : k4 44 = vi (shlK .i64 jx.n (⟨8⟩ : U64).n) := k7 15 44 (by kernel_rfl) (by kernel_rfl); exact L_orK ka kb (by decide) (fin k9 rfl)
   ·intro k4 k5 k6 k7 k8 Q k9; have ka : k4 10 = jj := (k8 10 (by kernel_rfl)).trans rfl; exact mv ka (fin k9 (jm.mono k6.le))
   ·intro k4 k5 k6 k7 k8 Q k9; have ka : V _ (k4 46) (jh : List U8) := k7 17 46 (by kernel_rfl) (by kernel_rfl); obtain ⟨kb, kc, kd⟩ : ∃ v, _ = v ∧ V _ v _ := ⟨_, rfl, ka⟩; exact ix Tryz.underlying23 ty5.inf kc kd (rv (vi 3)) k2 (fun ke kf => fin k9 kf)
   ·intro k4 k5 k6 k7 k8 Q k9; have ka : Ptr _ (k4 47) (k1 : U8) := k7 18 47 (by kernel_rfl) (by kernel_rfl); obtain ⟨kb, kc, kd⟩ : ∃ v, _ = v ∧ Ptr _ v _ := ⟨_, rfl, ka⟩; exact L_load_u8 ty5 kc kd (by decide) (fin k9 rfl)
   ·intro k4 k5 k6 k7 k8 Q k9; have ka : k4 48 = Value.int .u8 (k1).n := k7 19 48 (by kernel_rfl) (by kernel_rfl); exact L_convert_i64 Tryz.underlying5 Tryz.underlying3 ka k3 (by decide) (fin k9 rfl)
   ·intro k4 k5 k6 k7 k8 Q k9; have ka : k4 45 = vi (orK .i64 (orK .i64 (shlK .i64 jp.n (⟨24⟩ : U64).n) (shlK .i64 jt.n (⟨16⟩ : U64).n)) (shlK .i64 jx.n (⟨8⟩ : U64).n)) := k7 16 45 (by kernel_rfl) (by kernel_rfl); have kb : k4 49 = vi (k1.n) := k7 20 49 (by kernel_rfl) (by kernel_rfl); exact L_orK ka kb (by decide) (fin k9 rfl)
   ·intro k4 k5 k6 k7 k8 Q k9; have ka : k4 50 = vi (orK .i64 (orK .i64 (orK .i64 (shlK .i64 jp.n (⟨24⟩ : U64).n) (shlK .i64 jt.n (⟨16⟩ : U64).n)) (shlK .i64 jx.n (⟨8⟩ : U64).n)) k1.n) := k7 21 50 (by kernel_rfl) (by kernel_rfl); exact asg ka (fin k9 rfl)
   ·intro k4 k5 k6 k7 k8
    have k9 := Tch.ext jn k6
    have ka : k4 2 = vi (a2) := (k8 2 (by kernel_rfl)).trans rfl
    have kb : k4 10 = jj := (k8 10 (by kernel_rfl)).trans rfl
    have kc : k4 11 = vi (orK .i64 (orK .i64 (orK .i64 (shlK .i64 jp.n (⟨24⟩ : U64).n) (shlK .i64 jt.n (⟨16⟩ : U64).n)) (shlK .i64 jx.n (⟨8⟩ : U64).n)) k1.n) := k7 22 11 (by kernel_rfl)
    refine then_n (W_seq ?_)
    obtain ⟨kd, ke, kf⟩ := bind_some hr
    refine W_seq_cut (fun f w => ∃ (s : St) (kg : Bool), s.w = w ∧ Ext s0 s ∧ Le k5 s ∧ kg = kd ∧ f 71 = vb kg ∧ f 10 = jj ∧ f 11 = vi (orK .i64 (orK .i64 (orK .i64 (shlK .i64 jp.n (⟨24⟩ : U64).n) (shlK .i64 jt.n (⟨16⟩ : U64).n)) (shlK .i64 jx.n (⟨8⟩ : U64).n)) k1.n)) ?_ ?_
    ·have hr := ke
     refine W_region (mv kc (mv kb (ln Tryz.underlying23 (rv jj) (jm.mono k6.le) ?_)))
     obtain ⟨kh, hr⟩ := chk_some hr
     refine L_sub (rv (vi ((jh.length : Int)))) (rv (vi 4)) kh (by decide) (L_gtr (rfl : _ = vi (orK .i64 (orK .i64 (orK .i64 (shlK .i64 jp.n (⟨24⟩ : U64).n) (shlK .i64 jt.n (⟨16⟩ : U64).n)) (shlK .i64 jx.n (⟨8⟩ : U64).n)) k1.n)) (rv (vi ((jh.length : Int) - 4))) (by decide) (mv (rfl : _ = vb (decide (((jh.length : Int) - 4) < (orK .i64 (orK .i64 (orK .i64 (shlK .i64 jp.n (⟨24⟩ : U64).n) (shlK .i64 jt.n (⟨16⟩ : U64).n)) (shlK .i64 jx.n (⟨8⟩ : U64).n)) k1.n)))) ?_))
     rcases tf (decide (((jh.length : Int) - 4) < (orK .i64 (orK .i64 (orK .i64 (shlK .i64 jp.n (⟨24⟩ : U64).n) (shlK .i64 jt.n (⟨16⟩ : U64).n)) (shlK .i64 jx.n (⟨8⟩ : U64).n)) k1.n))) with ki | ki
     ·have hr := ite_t ki hr; refine gf 56 (rfl : _ = vb (decide (((jh.length : Int) - 4) < (orK .i64 (orK .i64 (orK .i64 (shlK .i64 jp.n (⟨24⟩ : U64).n) (shlK .i64 jt.n (⟨16⟩ : U64).n)) (shlK .i64 jx.n (⟨8⟩ : U64).n)) k1.n)))) ki (gf 56 (rfl : _ = vb (decide (((jh.length : Int) - 4) < (orK .i64 (orK .i64 (orK .i64 (shlK .i64 jp.n (⟨24⟩ : U64).n) (shlK .i64 jt.n (⟨16⟩ : U64).n)) (shlK .i64 jx.n (⟨8⟩ : U64).n)) k1.n)))) ki (gf 56 (rfl : _ = vb (decide (((jh.length : Int) - 4) < (orK .i64 (orK .i64 (orK .i64 (shlK .i64 jp.n (⟨24⟩ : U64).n) (shlK .i64 jt.n (⟨16⟩ : U64).n)) (shlK .i64 jx.n (⟨8⟩ : U64).n)) k1.n)))) ki (gf 56 (rfl : _ = vb (decide (((jh.length : Int) - 4) < (orK .i64 (orK .i64 (orK .i64 (shlK .i64 jp.n (⟨24⟩ : U64).n) (shlK .i64 jt.n (⟨16⟩ : U64).n)) (shlK .i64 jx.n (⟨8⟩ : U64).n)) k1.n)))) ki (gf 56 (rfl : _ = vb (decide (((jh.length : Int) - 4) < (orK .i64 (orK .i64 (orK .i64 (shlK .i64 jp.n (⟨24⟩ : U64).n) (shlK .i64 jt.n (⟨16⟩ : U64).n)) (shlK .i64 jx.n (⟨8⟩ : U64).n)) k1.n)))) ki (gf 56 (rfl : _ = vb (decide (((jh.length : Int) - 4) < (orK .i64 (orK .i64 (orK .i64 (shlK .i64 jp.n (⟨24⟩ : U64).n) (shlK .i64 jt.n (⟨16⟩ : U64).n)) (shlK .i64 jx.n (⟨8⟩ : U64).n)) k1.n)))) ki (gf 56 (rfl : _ = vb (decide (((jh.length : Int) - 4) < (orK .i64 (orK .i64 (orK .i64 (shlK .i64 jp.n (⟨24⟩ : U64).n) (shlK .i64 jt.n (⟨16⟩ : U64).n)) (shlK .i64 jx.n (⟨8⟩ : U64).n)) k1.n)))) ki (pt (rfl : _ = vb (decide (((jh.length : Int) - 4) < (orK .i64 (orK .i64 (orK .i64 (shlK .i64 jp.n (⟨24⟩ : U64).n) (shlK .i64 jt.n (⟨16⟩ : U64).n)) (shlK .i64 jx.n (⟨8⟩ : U64).n)) k1.n)))) ki (rv (vb true)) (mv (rv (vb true)) (gf 65 (rv (vb true)) rfl (gf 65 (rv (vb true)) rfl (gf 65 (rv (vb true)) rfl (gf 65 (rv (vb true)) rfl (gf 65 (rv (vb true)) rfl ?_))))))))))))); exact pt (rv (vb true)) rfl (rv (vb true)) (nn ⟨k5, true, rfl, k9, (Le.refl _), Option.some.inj hr, rfl, kb, kc⟩)
     ·have hr := ite_f ki hr
      refine gt 56 (rfl : _ = vb (decide (((jh.length : Int) - 4) < (orK .i64 (orK .i64 (orK .i64 (shlK .i64 jp.n (⟨24⟩ : U64).n) (shlK .i64 jt.n (⟨16⟩ : U64).n)) (shlK .i64 jx.n (⟨8⟩ : U64).n)) k1.n)))) ki (mv kb (gt 56 (rfl : _ = vb (decide (((jh.length : Int) - 4) < (orK .i64 (orK .i64 (orK .i64 (shlK .i64 jp.n (⟨24⟩ : U64).n) (shlK .i64 jt.n (⟨16⟩ : U64).n)) (shlK .i64 jx.n (⟨8⟩ : U64).n)) k1.n)))) ki (ln Tryz.underlying23 (rv jj) (jm.mono k6.le) (gt 56 (rfl : _ = vb (decide (((jh.length : Int) - 4) < (orK .i64 (orK .i64 (orK .i64 (shlK .i64 jp.n (⟨24⟩ : U64).n) (shlK .i64 jt.n (⟨16⟩ : U64).n)) (shlK .i64 jx.n (⟨8⟩ : U64).n)) k1.n)))) ki ?_))))
      obtain ⟨kj, hr⟩ := chk_some hr
      refine L_sub (rv (vi ((jh.length : Int)))) (rv (vi 4)) kj (by decide) (gt 56 (rfl : _ = vb (decide (((jh.length : Int) - 4) < (orK .i64 (orK .i64 (orK .i64 (shlK .i64 jp.n (⟨24⟩ : U64).n) (shlK .i64 jt.n (⟨16⟩ : U64).n)) (shlK .i64 jx.n (⟨8⟩ : U64).n)) k1.n)))) ki (mv kc (gt 56 (rfl : _ = vb (decide (((jh.length : Int) - 4) < (orK .i64 (orK .i64 (orK .i64 (shlK .i64 jp.n (⟨24⟩ : U64).n) (shlK .i64 jt.n (⟨16⟩ : U64).n)) (shlK .i64 jx.n (⟨8⟩ : U64).n)) k1.n)))) ki ?_)))
      obtain ⟨kk, hr⟩ := chk_some hr
      refine L_sub (rv (vi ((jh.length : Int) - 4))) (rfl : _ = vi (orK .i64 (orK .i64 (orK .i64 (shlK .i64 jp.n (⟨24⟩ : U64).n) (shlK .i64 jt.n (⟨16⟩ : U64).n)) (shlK .i64 jx.n (⟨8⟩ : U64).n)) k1.n)) kk (by decide) (gt 56 (rfl : _ = vb (decide (((jh.length : Int) - 4) < (orK .i64 (orK .i64 (orK .i64 (shlK .i64 jp.n (⟨24⟩ : U64).n) (shlK .i64 jt.n (⟨16⟩ : U64).n)) (shlK .i64 jx.n (⟨8⟩ : U64).n)) k1.n)))) ki (mv ka (gt 56 (rfl : _ = vb (decide (((jh.length : Int) - 4) < (orK .i64 (orK .i64 (orK .i64 (shlK .i64 jp.n (⟨24⟩ : U64).n) (shlK .i64 jt.n (⟨16⟩ : U64).n)) (shlK .i64 jx.n (⟨8⟩ : U64).n)) k1.n)))) ki (L_geq (rfl : _ = vi ((jh.length : Int) - 4 - (orK .i64 (orK .i64 (orK .i64 (shlK .i64 jp.n (⟨24⟩ : U64).n) (shlK .i64 jt.n (⟨16⟩ : U64).n)) (shlK .i64 jx.n (⟨8⟩ : U64).n)) k1.n))) (rv (vi a2)) (by decide) (pf (rfl : _ = vb (decide (((jh.length : Int) - 4) < (orK .i64 (orK .i64 (orK .i64 (shlK .i64 jp.n (⟨24⟩ : U64).n) (shlK .i64 jt.n (⟨16⟩ : U64).n)) (shlK .i64 jx.n (⟨8⟩ : U64).n)) k1.n)))) ki (rfl : _ = vb (decide (a2 ≤ ((jh.length : Int) - 4 - (orK .i64 (orK .i64 (orK .i64 (shlK .i64 jp.n (⟨24⟩ : U64).n) (shlK .i64 jt.n (⟨16⟩ : U64).n)) (shlK .i64 jx.n (⟨8⟩ : U64).n)) k1.n))))) (mv (rfl : _ = vb (decide (a2 ≤ ((jh.length : Int) - 4 - (orK .i64 (orK .i64 (orK .i64 (shlK .i64 jp.n (⟨24⟩ : U64).n) (shlK .i64 jt.n (⟨16⟩ : U64).n)) (shlK .i64 jx.n (⟨8⟩ : U64).n)) k1.n))))) ?_))))))
      rcases tf (decide (a2 ≤ ((jh.length : Int) - 4 - (orK .i64 (orK .i64 (orK .i64 (shlK .i64 jp.n (⟨24⟩ : U64).n) (shlK .i64 jt.n (⟨16⟩ : U64).n)) (shlK .i64 jx.n (⟨8⟩ : U64).n)) k1.n)))) with kl | kl
      ·have hr := ite_t kl hr; exact gf 65 (rfl : _ = vb (decide (a2 ≤ ((jh.length : Int) - 4 - (orK .i64 (orK .i64 (orK .i64 (shlK .i64 jp.n (⟨24⟩ : U64).n) (shlK .i64 jt.n (⟨16⟩ : U64).n)) (shlK .i64 jx.n (⟨8⟩ : U64).n)) k1.n))))) kl (gf 65 (rfl : _ = vb (decide (a2 ≤ ((jh.length : Int) - 4 - (orK .i64 (orK .i64 (orK .i64 (shlK .i64 jp.n (⟨24⟩ : U64).n) (shlK .i64 jt.n (⟨16⟩ : U64).n)) (shlK .i64 jx.n (⟨8⟩ : U64).n)) k1.n))))) kl (gf 65 (rfl : _ = vb (decide (a2 ≤ ((jh.length : Int) - 4 - (orK .i64 (orK .i64 (orK .i64 (shlK .i64 jp.n (⟨24⟩ : U64).n) (shlK .i64 jt.n (⟨16⟩ : U64).n)) (shlK .i64 jx.n (⟨8⟩ : U64).n)) k1.n))))) kl (gf 65 (rfl : _ = vb (decide (a2 ≤ ((jh.length : Int) - 4 - (orK .i64 (orK .i64 (orK .i64 (shlK .i64 jp.n (⟨24⟩ : U64).n) (shlK .i64 jt.n (⟨16⟩ : U64).n)) (shlK .i64 jx.n (⟨8⟩ : U64).n)) k1.n))))) kl (gf 65 (rfl : _ = vb (decide (a2 ≤ ((jh.length : Int) - 4 - (orK .i64 (orK .i64 (orK .i64 (shlK .i64 jp.n (⟨24⟩ : U64).n) (shlK .i64 jt.n (⟨16⟩ : U64).n)) (shlK .i64 jx.n (⟨8⟩ : U64).n)) k1.n))))) kl (pt (rfl : _ = vb (decide (a2 ≤ ((jh.length : Int) - 4 - (orK .i64 (orK .i64 (orK .i64 (shlK .i64 jp.n (⟨24⟩ : U64).n) (shlK .i64 jt.n (⟨16⟩ : U64).n)) (shlK .i64 jx.n (⟨8⟩ : U64).n)) k1.n))))) kl (rv (vb true)) (nn ⟨k5, true, rfl, k9, (Le.refl _), Option.some.inj hr, rfl, kb, kc⟩))))))
      ·have hr := ite_f kl hr; refine gt 65 (rfl : _ = vb (decide (a2 ≤ ((jh.length : Int) - 4 - (orK .i64 (orK .i64 (orK .i64 (shlK .i64 jp.n (⟨24⟩ : U64).n) (shlK .i64 jt.n (⟨16⟩ : U64).n)) (shlK .i64 jx.n (⟨8⟩ : U64).n)) k1.n))))) kl (mv kb (gt 65 (rfl : _ = vb (decide (a2 ≤ ((jh.length : Int) - 4 - (orK .i64 (orK .i64 (orK .i64 (shlK .i64 jp.n (⟨24⟩ : U64).n) (shlK .i64 jt.n (⟨16⟩ : U64).n)) (shlK .i64 jx.n (⟨8⟩ : U64).n)) k1.n))))) kl (mv kc (gt 65 (rfl : _ = vb (decide (a2 ≤ ((jh.length : Int) - 4 - (orK .i64 (orK .i64 (orK .i64 (shlK .i64 jp.n (⟨24⟩ : U64).n) (shlK .i64 jt.n (⟨16⟩ : U64).n)) (shlK .i64 jx.n (⟨8⟩ : U64).n)) k1.n))))) kl ?_)))); obtain ⟨km, hr⟩ := chk_some hr; refine ad (rv (vi 4)) (rfl : _ = vi (orK .i64 (orK .i64 (orK .i64 (shlK .i64 jp.n (⟨24⟩ : U64).n) (shlK .i64 jt.n (⟨16⟩ : U64).n)) (shlK .i64 jx.n (⟨8⟩ : U64).n)) k1.n)) km (gt 65 (rfl : _ = vb (decide (a2 ≤ ((jh.length : Int) - 4 - (orK .i64 (orK .i64 (orK .i64 (shlK .i64 jp.n (⟨24⟩ : U64).n) (shlK .i64 jt.n (⟨16⟩ : U64).n)) (shlK .i64 jx.n (⟨8⟩ : U64).n)) k1.n))))) kl ?_); obtain ⟨kn, ko, hr⟩ := bind_some hr; refine L_slice_l Tryz.underlying23 ty5.inf (rv jj) (jm.mono k6.le) (rfl : _ = vi (4 + (orK .i64 (orK .i64 (orK .i64 (shlK .i64 jp.n (⟨24⟩ : U64).n) (shlK .i64 jt.n (⟨16⟩ : U64).n)) (shlK .i64 jx.n (⟨8⟩ : U64).n)) k1.n))) ko (by decide) (fun kp kq => gt 65 (rfl : _ = vb (decide (a2 ≤ ((jh.length : Int) - 4 - (orK .i64 (orK .i64 (orK .i64 (shlK .i64 jp.n (⟨24⟩ : U64).n) (shlK .i64 jt.n (⟨16⟩ : U64).n)) (shlK .i64 jx.n (⟨8⟩ : U64).n)) k1.n))))) kl ?_); obtain ⟨kr, ks, hr⟩ := bind_some hr; refine L_calls cal61 (args2 (rv kp) (rv (Value.func (.func 62) #[] #[]))) (slices_ContainsFunc_Lbyte_byte_ok N _ _ _ kq _ (fun x => check_Unite_1 N x ) (Fn1.mk0 cal62 fun t vx x r hl hv hr => by obtain rfl := hv.u8; exact check_Unite_1_ok N t x  r hr) kr ks) (by decide) (fun kt ku kv kw => ?_); have kx := Tch.ext k9 kv; obtain rfl := kw.bool; exact pf (rfl : _ = vb (decide (a2 ≤ ((jh.length : Int) - 4 - (orK .i64 (orK .i64 (orK .i64 (shlK .i64 jp.n (⟨24⟩ : U64).n) (shlK .i64 jt.n (⟨16⟩ : U64).n)) (shlK .i64 jx.n (⟨8⟩ : U64).n)) k1.n))))) kl (rv (vb kr)) (nn ⟨ku, kr, rfl, kx, kv.le, Option.some.inj hr, rfl, kb, kc⟩)
    ·rintro kh ki ⟨kj, kg, rfl, kk, kl, ke, km, kn, ko⟩
     subst ke
     have hr := kf
     try dsimp only at hr
     refine W_cond _ km (fun kp => ?_) (fun kp => ?_)
     ·have hr := ite_t kp hr; refine sr (asg (rv (Value.slice none 0 0)) (asg (rv (vi 7)) (nn (W_ret (then_r ?_))))); obtain rfl := Option.some.inj hr; exact done2 (Or.inl rfl) Tryz.results19 rfl rfl ⟨_, _, rfl, rfl, kk, _, _, rfl, Vnil, Vint⟩
     ·have hr := ite_f kp hr; refine W_skip (then_n (sr (mv kn (mv ko ?_)))); obtain ⟨kq, hr⟩ := chk_some hr; refine ad (rv (vi 4)) (rfl : _ = vi (orK .i64 (orK .i64 (orK .i64 (shlK .i64 jp.n (⟨24⟩ : U64).n) (shlK .i64 jt.n (⟨16⟩ : U64).n)) (shlK .i64 jx.n (⟨8⟩ : U64).n)) k1.n)) kq ?_; obtain ⟨kr, ks, hr⟩ := bind_some hr; refine L_slice_lh Tryz.underlying23 ty5.inf (rv jj) (jm.mono (k6.le.trans kl)) (rv (vi 4)) (rfl : _ = vi (4 + (orK .i64 (orK .i64 (orK .i64 (shlK .i64 jp.n (⟨24⟩ : U64).n) (shlK .i64 jt.n (⟨16⟩ : U64).n)) (shlK .i64 jx.n (⟨8⟩ : U64).n)) k1.n))) ks (by decide) (fun kt ku => ?_); obtain ⟨kv, kw, hr⟩ := bind_some hr; refine L_calls cal55 (args1 (rv kt)) (slices_Clone_Lbyte_byte_ok N _ _ _ ku kv kw) (by decide) (fun kx ky kz g0 => ?_); have g1 := Tch.ext kk kz; refine asg (rv kx) (asg (rv (vi 0)) (nn (W_ret ?_))); obtain rfl := Option.some.inj hr; exact done2 (Or.inl rfl) Tryz.results19 rfl rfl ⟨_, _, rfl, rfl, g1, _, _, rfl, g0, Vint⟩

theorem ref14_Unite_ok (N : Nat) (s0 : St) (w0 : Value) (a0 : List (List U8)) (h0 : V s0 w0 a0) (w1 : Value) (a1 : List Bool) (h1 : V s0 w1 a1) (a2 : Int) (r : (List U8) × Int) (hr : ref14_Unite N a0 a1 a2 = some r) :
    Calls Tryz.prog 20 #[w0, w1, .int .i64 a2] s0.w (Ret s0 fun v s => ∃ a b, v = .tuple #[a, b] ∧ V s a r.1 ∧ V s b r.2) := by
 unfold ref14_Unite at hr
 have j0 := Ext.refl s0
 refine Calls_of (n := 96) (args := [w0, w1, .int .i64 a2]) Tryz.func20 rfl rfl (by simp) (sr (asg (rv (Value.slice none 0 0)) (asg (rv (vi 0)) (nn (sr (mv (rv w0) (mv (rv w1) (mv (rv (vi a2)) ?_))))))))
 obtain ⟨j1, j2, hr⟩ := bind_some hr
 refine L_calls cal18 (args3 (rv w0) (rv w1) (rv (vi a2))) (ref14_Repair_ok N _ _ _ h0 _ _ h1 a2 j1 j2) (by decide) (fun j3 j4 j5 j6 => ?_)
 have j7 := Tch.ext j0 j5
 obtain ⟨j8, j9, rfl, ja, jb⟩ := j6
 obtain rfl := jb.int
 refine mv (rv (Value.tuple #[j8, vi (j1.2)])) (xt (rv (Value.tuple #[j8, vi (j1.2)])) (k := 0) rfl (xt (rv (Value.tuple #[j8, vi (j1.2)])) (k := 1) rfl (asg (rv j8) (asg (rv (vi (j1.2))) (nn (W_seq (sr (mv (rv (vi (j1.2))) (ne (rv (vi (j1.2))) (rv (vi 0)) (nn ?_))))))))))
 refine W_cond _ (rv (vb (!decide (j1.2 = 0)))) (fun jc => ?_) (fun jc => ?_)
 ·have hr := ite_t jc hr; refine sr (mv (rv (vi (j1.2))) (asg (rv (Value.slice none 0 0)) (asg (rv (vi (j1.2))) (nn (W_ret (then_r ?_)))))); obtain rfl := Option.some.inj hr; exact done2 (Or.inl rfl) Tryz.results20 rfl rfl ⟨_, _, rfl, rfl, j7, _, _, rfl, Vnil, Vint⟩
 ·have hr := ite_f jc hr
  refine W_skip (then_n (sr (asg (rv (Value.slice none 0 0)) (nn (W_seq (sr (asg (rv (vi 0)) (nn ?_))))))))
  obtain ⟨jd, je, jf⟩ := bind_some hr
  refine W_cut (fun f w => ∃ (s : St) (jg : Value) (jh : List U8), s.w = w ∧ Ext s0 s ∧ Le j4 s ∧ jh = jd ∧ f 10 = jg ∧ Bld s s0.w.heap.size 5 jg jh ∧ f 2 = vi (a2) ∧ f 8 = j8) ?_ ?_
  ·refine W_block (W_loop (fun m f w => ∃ (s : St) (ji : Value) (jj : List U8) (jk : Int), s.w = w ∧ Ext s0 s ∧ Le j4 s ∧ ref14_Unite_l1 N a2 j1 m jj jk = some jd ∧ f 10 = ji ∧ Bld s s0.w.heap.size 5 ji jj ∧ f 11 = vi jk ∧ f 2 = vi (a2) ∧ f 8 = j8) N ⟨j4, (Value.slice none 0 0), ([]), 0, rfl, j7, (Le.refl _), je, rfl, Bld.nil, rfl, rfl, rfl⟩ ?_)
   rintro jl jm jn ⟨jo, ji, jj, jk, rfl, jp, jq, hr, jr, js, jt, ju, jv⟩
   cases jl with
   | zero => exact absurd hr (by simp [ref14_Unite_l1])
   | succ jl =>
    rw [ref14_Unite_l1.eq_2] at hr
    refine W_seq (sr (mv jt (mv ju (ls (rv (vi jk)) (rv (vi a2)) (nn ?_)))))
    refine W_cond _ (rv (vb (decide (jk < a2)))) (fun jw => ?_) (fun jw => ?_)
    ·have hr := ite_t jw hr; refine W_skip (then_n (W_seq (W_block (W_region (mv jr (mv jv (mv jt ?_))))))); obtain ⟨jx, jy, hr⟩ := bind_some hr; refine ix Tryz.underlying22 ty23.inf (rv j8) (ja.mono jq) (rv (vi jk)) jy (fun jz k0 => ld ty23 (rv jz) k0 (fun k1 k2 => ?_)); obtain ⟨k3, hr⟩ := chk_some hr; refine L_append (xs := jj) (B := s0.w.heap.size) Tryz.underlying23 tyz5 (rv ji) (rv k1) (js) (jp.size) k2 k3.1 k3.2 (by decide) (fun k4 k5 k6 => ?_); have k7 := k6.tchM (js) jp (Nat.le_refl _); refine asg (rv k4) (L_nil (block_n (then_n (W_region (mv jt ?_))))); obtain ⟨k8, hr⟩ := chk_some hr; exact ad (rv (vi jk)) (rv (vi 1)) k8 (asg (rv (vi (jk + 1))) (nn ⟨jl, Nat.lt_succ_self _, ⟨k5, k4, (jj ++ jx), (jk + 1), rfl, k7, (jq.trans k6.tch.le), hr, rfl, k6.bld, rfl, ju, jv⟩⟩))
    ·have hr := ite_f jw hr; refine W_exit (then_x (then_x (block_here ?_))); exact then_n ⟨jo, ji, jj, rfl, jp, jq, Option.some.inj hr, jr, js, ju, jv⟩
  ·rintro ji jj ⟨jk, jg, jh, rfl, jl, jm, je, jn, jo, jp, jq⟩
   subst je
   have hr := jf
   try dsimp only at hr
   refine then_n (W_seq (sr (mv jn ?_)))
   have jr := (jo).toV
   refine ln Tryz.underlying23 (rv jg) jr (ls (rv (vi ((jh.length : Int)))) (rv (vi 4)) (nn ?_))
   refine W_cond _ (rv (vb (decide ((jh.length : Int) < 4)))) (fun js => ?_) (fun js => ?_)
   ·have hr := ite_t js hr; refine sr (asg (rv (Value.slice none 0 0)) (asg (rv (vi 7)) (nn (W_ret (then_r ?_))))); obtain rfl := Option.some.inj hr; exact done2 (Or.inl rfl) Tryz.results20 rfl rfl ⟨_, _, rfl, rfl, jl, _, _, rfl, Vnil, Vint⟩
   ·have hr := ite_f js hr
    refine W_skip (then_n (W_seq ?_))
    obtain ⟨jt, ju, hr⟩ := bind_some hr
    obtain ⟨jv, hr⟩ := chk_some hr
    obtain ⟨jw, hr⟩ := chk_some hr
    obtain ⟨jx, jy, hr⟩ := bind_some hr
    obtain ⟨jz, hr⟩ := chk_some hr
    obtain ⟨k0, hr⟩ := chk_some hr
    obtain ⟨k1, hr⟩ := chk_some hr
    obtain ⟨k2, k3, hr⟩ := bind_some hr
    obtain ⟨k4, hr⟩ := chk_some hr
    obtain ⟨k5, hr⟩ := chk_some hr
    obtain ⟨k6, hr⟩ := chk_some hr
    obtain ⟨k7, k8, hr⟩ := bind_some hr
    obtain ⟨k9, hr⟩ := chk_some hr
    obtain ⟨ka, hr⟩ := chk_some hr
    refine W_draws mixed (by kernel_rfl) [PV.data (jh : List U8), PV.ptr (jt : U8), PV.eq (Value.int .u8 (jt).n), PV.eq (vi (jt.n)), PV.eq (vi (jt.n * 16777216)), PV.data (jh : List U8), PV.ptr (jx : U8), PV.eq (Value.int .u8 (jx).n), PV.eq (vi (jx.n)), PV.eq (vi (jx.n * 65536)), PV.eq (vi (jt.n * 16777216 + (jx.n * 65536))), PV.data (jh : List U8), PV.ptr (k2 : U8), PV.eq (Value.int .u8 (k2).n), PV.eq (vi (k2.n)), PV.eq (vi (k2.n * 256)), PV.eq (vi (jt.n * 16777216 + (jx.n * 65536) + (k2.n * 256))), PV.data (jh : List U8), PV.ptr (k7 : U8), PV.eq (Value.int .u8 (k7).n), PV.eq (vi (k7.n)), PV.eq (vi (jt.n * 16777216 + (jx.n * 65536) + (k2.n * 256) + k7.n)), PV.eq (vi (jt.n * 16777216 + (jx.n * 65536) + (k2.n * 256) + k7.n))] (Steps_cons ?_ (Steps_cons ?_ (Steps_cons ?_ (Steps_cons ?_ (Steps_cons ?_ (Steps_cons ?_ (Steps_cons ?_ (Steps_cons ?_ (Steps_cons ?_ (Steps_cons ?_ (Steps_cons ?_ (Steps_cons ?_ (Steps_cons ?_ (Steps_cons ?_ (Steps_cons ?_ (Steps_cons ?_ (Steps_cons ?_ (Steps_cons ?_ (Steps_cons ?_ (Steps_cons ?_ (Steps_cons ?_ (Steps_cons ?_ (Steps_cons ?_ Steps_nil))))))))))))))))))))))) ?_
    ·intro kb kc kd ke kf Q kg; have kh : kb 10 = jg := (kf 10 (by kernel_rfl)).trans jn; refine mv kh ?_; have ki := ((jo).ext kd).toV; exact fin kg ki
    ·intro kb kc kd ke kf Q kg; have kh : V _ (kb 41) (jh : List U8) := ke 0 41 (by kernel_rfl) (by kernel_rfl); obtain ⟨ki, kj, kk⟩ : ∃ v, _ = v ∧ V _ v _ := ⟨_, rfl, kh⟩; exact ix Tryz.underlying23 ty5.inf kj kk (rv (vi 0)) ju (fun kl km => fin kg km)
    ·intro kb kc kd ke kf Q kg; have kh : Ptr _ (kb 42) (jt : U8) := ke 1 42 (by kernel_rfl) (by kernel_rfl); obtain ⟨ki, kj, kk⟩ : ∃ v, _ = v ∧ Ptr _ v _ := ⟨_, rfl, kh⟩; exact L_load_u8 ty5 kj kk (by decide) (fin kg rfl)
    ·intro kb kc kd ke kf Q kg; have kh : kb 43 = Value.int .u8 (jt).n := ke 2 43 (by kernel_rfl) (by kernel_rfl); exact L_convert_i64 Tryz.underlying5 Tryz.underlying3 kh jv (by decide) (fin kg rfl)
    ·intro kb kc kd ke kf Q kg; have kh : kb 44 = vi (jt.n) := ke 3 44 (by kernel_rfl) (by kernel_rfl); exact L_mul kh (rv (vi 16777216)) jw (by decide) (fin kg rfl)
    ·intro kb kc kd ke kf Q kg; have kh : kb 10 = jg := (kf 10 (by kernel_rfl)).trans jn; refine mv kh ?_; have ki := ((jo).ext kd).toV; exact fin kg ki
    ·intro kb kc kd ke kf Q kg; have kh : V _ (kb 46) (jh : List U8) := ke 5 46 (by kernel_rfl) (by kernel_rfl); obtain ⟨ki, kj, kk⟩ : ∃ v, _ = v ∧ V _ v _ := ⟨_, rfl, kh⟩; exact ix Tryz.underlying23 ty5.inf kj kk (rv (vi 1)) jy (fun kl km => fin kg km)
    ·intro kb kc kd ke kf Q kg; have kh : Ptr _ (kb 47) (jx : U8) := ke 6 47 (by kernel_rfl) (by kernel_rfl); obtain ⟨ki, kj, kk⟩ : ∃ v, _ = v ∧ Ptr _ v _ := ⟨_, rfl, kh⟩; exact L_load_u8 ty5 kj kk (by decide) (fin kg rfl)
    ·intro kb kc kd ke kf Q kg; have kh : kb 48 = Value.int .u8 (jx).n := ke 7 48 (by kernel_rfl) (by kernel_rfl); exact L_convert_i64 Tryz.underlying5 Tryz.underlying3 kh jz (by decide) (fin kg rfl)
    ·intro kb kc kd ke kf Q kg; have kh : kb 49 = vi (jx.n) := ke 8 49 (by kernel_rfl) (by kernel_rfl); exact L_mul kh (rv (vi 65536)) k0 (by decide) (fin kg rfl)
    ·intro kb kc kd ke kf Q kg; have kh : kb 45 = vi (jt.n * 16777216) := ke 4 45 (by kernel_rfl) (by kernel_rfl); have ki : kb 50 = vi (jx.n * 65536) := ke 9 50 (by kernel_rfl) (by kernel_rfl); exact ad kh ki k1 (fin kg rfl)
    ·intro kb kc kd ke kf Q kg; have kh : kb 10 = jg := (kf 10 (by kernel_rfl)).trans jn; refine mv kh ?_; have ki := ((jo).ext kd).toV; exact fin kg ki
    ·intro kb kc kd ke kf Q kg; have kh : V _ (kb 52) (jh : List U8) := ke 11 52 (by kernel_rfl) (by kernel_rfl); obtain ⟨ki, kj, kk⟩ : ∃ v, _ = v ∧ V _ v _ := ⟨_, rfl, kh⟩; exact ix Tryz.underlying23 ty5.inf kj kk (rv (vi 2)) k3 (fun kl km => fin kg km)
    ·intro kb kc kd ke kf Q kg; have kh : Ptr _ (kb 53) (k2 : U8) := ke 12 53 (by kernel_rfl) (by kernel_rfl); obtain ⟨ki, kj, kk⟩ : ∃ v, _ = v ∧ Ptr _ v _ := ⟨_, rfl, kh⟩; exact L_load_u8 ty5 kj kk (by decide) (fin kg rfl)
    ·intro kb kc kd ke kf Q kg; have kh : kb 54 = Value.int .u8 (k2).n := ke 13 54 (by kernel_rfl) (by kernel_rfl); exact L_convert_i64 Tryz.underlying5 Tryz.underlying3 kh k4 (by decide) (fin kg rfl)
    ·intro kb kc kd ke kf Q kg; have kh : kb 55 = vi (k2.n) := ke 14 55 (by kernel_rfl) (by kernel_rfl); exact L_mul kh (rv (vi 256)) k5 (by decide) (fin kg rfl)
    ·intro kb kc kd ke kf Q kg; have kh : kb 51 = vi (jt.n * 16777216 + (jx.n * 65536)) := ke 10 51 (by kernel_rfl) (by kernel_rfl); have ki : kb 56 = vi (k2.n * 256) := ke 15 56 (by kernel_rfl) (by kernel_rfl); exact ad kh ki k6 (fin kg rfl)
    ·intro kb kc kd ke kf Q kg; have kh : kb 10 = jg := (kf 10 (by kernel_rfl)).trans jn; refine mv kh ?_; have ki := ((jo).ext kd).toV; exact fin kg ki
    ·intro kb kc kd ke kf Q kg; have kh : V _ (kb 58) (jh : List U8) := ke 17 58 (by kernel_rfl) (by kernel_rfl); obtain ⟨ki, kj, kk⟩ : ∃ v, _ = v ∧ V _ v _ := ⟨_, rfl, kh⟩; exact ix Tryz.underlying23 ty5.inf kj kk (rv (vi 3)) k8 (fun kl km => fin kg km)
    ·intro kb kc kd ke kf Q kg; have kh : Ptr _ (kb 59) (k7 : U8) := ke 18 59 (by kernel_rfl) (by kernel_rfl); obtain ⟨ki, kj, kk⟩ : ∃ v, _ = v ∧ Ptr _ v _ := ⟨_, rfl, kh⟩; exact L_load_u8 ty5 kj kk (by decide) (fin kg rfl)
    ·intro kb kc kd ke kf Q kg; have kh : kb 60 = Value.int .u8 (k7).n := ke 19 60 (by kernel_rfl) (by kernel_rfl); exact L_convert_i64 Tryz.underlying5 Tryz.underlying3 kh k9 (by decide) (fin kg rfl)
    ·intro kb kc kd ke kf Q kg; have kh : kb 57 = vi (jt.n * 16777216 + (jx.n * 65536) + (k2.n * 256)) := ke 16 57 (by kernel_rfl) (by kernel_rfl); have ki : kb 61 = vi (k7.n) := ke 20 61 (by kernel_rfl) (by kernel_rfl); exact ad kh ki ka (fin kg rfl)
    ·intro kb kc kd ke kf Q kg; have kh : kb 62 = vi (jt.n * 16777216 + (jx.n * 65536) + (k2.n * 256) + k7.n) := ke 21 62 (by kernel_rfl) (by kernel_rfl); exact asg kh (fin kg rfl)
    ·intro kb kc kd ke kf
     have kg := Tch.ext jl kd
     have kh : kb 2 = vi (a2) := (kf 2 (by kernel_rfl)).trans jp
     have ki : kb 8 = j8 := (kf 8 (by kernel_rfl)).trans jq
     have kj : kb 10 = jg := (kf 10 (by kernel_rfl)).trans jn
     have kk : kb 12 = vi (jt.n * 16777216 + (jx.n * 65536) + (k2.n * 256) + k7.n) := ke 22 12 (by kernel_rfl)
     refine then_n (W_seq (sr (mv kk (mv kj ?_))))
     have kl := ((jo).ext kd).toV
     refine ln Tryz.underlying23 (rv jg) kl ?_
     obtain ⟨km, hr⟩ := chk_some hr
     refine L_sub (rv (vi ((jh.length : Int)))) (rv (vi 4)) km (by decide) (L_gtr (rv (vi (jt.n * 16777216 + (jx.n * 65536) + (k2.n * 256) + k7.n))) (rv (vi ((jh.length : Int) - 4))) (by decide) (nn ?_))
     refine W_cond _ (rv (vb (decide (((jh.length : Int) - 4) < (jt.n * 16777216 + (jx.n * 65536) + (k2.n * 256) + k7.n))))) (fun kn => ?_) (fun kn => ?_)
     ·have hr := ite_t kn hr; refine sr (asg (rv (Value.slice none 0 0)) (asg (rv (vi 7)) (nn (W_ret (then_r ?_))))); obtain rfl := Option.some.inj hr; exact done2 (Or.inl rfl) Tryz.results20 rfl rfl ⟨_, _, rfl, rfl, kg, _, _, rfl, Vnil, Vint⟩
     ·have hr := ite_f kn hr
      refine W_skip (then_n (sr (L_buildSlice (xs := ([] : List U8)) Tryz.underlying23 tyz5 Parts_nil Vs.nil rfl (by decide) (by decide) (fun ko kp kq kr ks => ?_))))
      have kt := Tch.ext kg kq
      refine mv kj ?_
      have ku := (((jo).ext kd).ext kq).toV
      refine mv kk ?_
      obtain ⟨kv, hr⟩ := chk_some hr
      refine ad (rv (vi 4)) (rv (vi (jt.n * 16777216 + (jx.n * 65536) + (k2.n * 256) + k7.n))) kv ?_
      obtain ⟨kw, kx, hr⟩ := bind_some hr
      refine L_slice_lh Tryz.underlying23 ty5.inf (rv jg) ku (rv (vi 4)) (rv (vi (4 + (jt.n * 16777216 + (jx.n * 65536) + (k2.n * 256) + k7.n)))) kx (by decide) (fun ky kz => ?_)
      obtain ⟨g0, hr⟩ := chk_some hr
      refine L_append (xs := ([] : List U8)) (B := s0.w.heap.size) Tryz.underlying23 tyz5 (rv kp) (rv ky) ((kr.base kg.size)) (kt.size) kz g0.1 g0.2 (by decide) (fun g1 g2 g3 => ?_)
      have g4 := g3.tchM ((kr.base kg.size)) kt (Nat.le_refl _)
      refine asg (rv g1) (nn (sr (mv (rv g1) ?_)))
      have g5 := (g3.bld).toV
      refine mv kh ?_
      obtain ⟨g6, g7, hr⟩ := bind_some hr
      refine L_calls cal16 (args3 (rv g1) (rv (vi a2)) (rv (vi 0))) (ref14_Divide_ok N _ _ _ g5 a2 0 g6 g7) (by decide) (fun g8 g9 ga gb => ?_)
      have gc := Tch.ext g4 ga
      obtain ⟨gd, gg, rfl, gh, gi⟩ := gb
      obtain rfl := gi.int
      refine mv (rv (Value.tuple #[gd, vi (g6.2)])) (xt (rv (Value.tuple #[gd, vi (g6.2)])) (k := 0) rfl (xt (rv (Value.tuple #[gd, vi (g6.2)])) (k := 1) rfl (asg (rv gd) (asg (rv (vi (g6.2))) (nn (W_seq (sr (asg (rv (vi 0)) (nn ?_)))))))))
      obtain ⟨gj, gk, gl⟩ := bind_some hr
      refine W_cut (fun f w => ∃ (s : St), s.w = w ∧ Ext s0 s ∧ Le g9 s ∧ Sum.inl () = gj ∧ f 13 = g1 ∧ Bld s s0.w.heap.size 5 g1 (([] : List U8) ++ kw)) ?_ ?_
      ·refine W_block (W_loop (fun m f w => ∃ (s : St) (gm : Int), s.w = w ∧ Ext s0 s ∧ Le g9 s ∧ ref14_Unite_l2 N a2 j1 g6 m gm = some gj ∧ f 16 = vi gm ∧ f 2 = vi (a2) ∧ f 8 = j8 ∧ f 13 = g1 ∧ f 14 = gd ∧ Bld s s0.w.heap.size 5 g1 (([] : List U8) ++ kw)) N ⟨g9, 0, rfl, gc, (Le.refl _), gk, rfl, kh, ki, rfl, rfl, (g3.bld).ext ga⟩ ?_)
       rintro gn go gp ⟨gq, gm, rfl, gr, gs, hr, gu, gv, gw, gx, gy, gz⟩
       cases gn with
       | zero => exact absurd hr (by simp [ref14_Unite_l2])
       | succ gn =>
        rw [ref14_Unite_l2.eq_2] at hr
        refine W_seq (sr (mv gu (mv gv (ls (rv (vi gm)) (rv (vi a2)) (nn ?_)))))
        refine W_cond _ (rv (vb (decide (gm < a2)))) (fun u0 => ?_) (fun u0 => ?_)
        ·have hr := ite_t u0 hr
         refine W_skip (then_n (W_seq (W_block (W_seq ?_))))
         obtain ⟨u1, u2, hr⟩ := bind_some hr
         obtain ⟨u3, u4, hr⟩ := bind_some hr
         obtain ⟨u5, u6, hr⟩ := bind_some hr
         refine W_draws mixed (by kernel_rfl) [PV.data (g6.1 : List (List U8)), PV.eq (vi gm), PV.ptr (u1 : List U8), PV.data (u1 : List U8), PV.data (j1.1 : List (List U8)), PV.eq (vi gm), PV.ptr (u3 : List U8), PV.data (u3 : List U8), PV.eq (vb u5), PV.eq (vb (!u5))] (Steps_cons ?_ (Steps_cons ?_ (Steps_cons ?_ (Steps_cons ?_ (Steps_cons ?_ (Steps_cons ?_ (Steps_cons ?_ (Steps_cons ?_ (Steps_cons ?_ (Steps_cons ?_ Steps_nil)))))))))) ?_
         ·intro u7 u9 ua ub uc Q ud; have ue : u7 14 = gd := (uc 14 (by kernel_rfl)).trans gy; exact mv ue (fin ud (gh.mono (gs.trans ua.le)))
         ·intro u7 u9 ua ub uc Q ud; have ue : u7 16 = vi (gm) := (uc 16 (by kernel_rfl)).trans gu; exact mv ue (fin ud rfl)
         ·intro u7 u9 ua ub uc Q ud; have ue : V _ (u7 85) (g6.1 : List (List U8)) := ub 0 85 (by kernel_rfl) (by kernel_rfl); obtain ⟨uf, ug, uh⟩ : ∃ v, _ = v ∧ V _ v _ := ⟨_, rfl, ue⟩; have ui : u7 86 = vi (gm) := ub 1 86 (by kernel_rfl) (by kernel_rfl); exact ix Tryz.underlying22 ty23.inf ug uh ui u2 (fun uj uk => fin ud uk)
         ·intro u7 u9 ua ub uc Q ud; have ue : Ptr _ (u7 87) (u1 : List U8) := ub 2 87 (by kernel_rfl) (by kernel_rfl); obtain ⟨uf, ug, uh⟩ : ∃ v, _ = v ∧ Ptr _ v _ := ⟨_, rfl, ue⟩; exact ld ty23 ug uh (fun ui uj => fin ud uj)
         ·intro u7 u9 ua ub uc Q ud; have ue : u7 8 = j8 := (uc 8 (by kernel_rfl)).trans gw; exact mv ue (fin ud (ja.mono (jm.trans (kd.le.trans (kq.le.trans (g3.tch.le.trans (ga.le.trans (gs.trans ua.le))))))))
         ·intro u7 u9 ua ub uc Q ud; have ue : u7 16 = vi (gm) := (uc 16 (by kernel_rfl)).trans gu; exact mv ue (fin ud rfl)
         ·intro u7 u9 ua ub uc Q ud; have ue : V _ (u7 89) (j1.1 : List (List U8)) := ub 4 89 (by kernel_rfl) (by kernel_rfl); obtain ⟨uf, ug, uh⟩ : ∃ v, _ = v ∧ V _ v _ := ⟨_, rfl, ue⟩; have ui : u7 90 = vi (gm) := ub 5 90 (by kernel_rfl) (by kernel_rfl); exact ix Tryz.underlying22 ty23.inf ug uh ui u4 (fun uj uk => fin ud uk)
         ·intro u7 u9 ua ub uc Q ud; have ue : Ptr _ (u7 91) (u3 : List U8) := ub 6 91 (by kernel_rfl) (by kernel_rfl); obtain ⟨uf, ug, uh⟩ : ∃ v, _ = v ∧ Ptr _ v _ := ⟨_, rfl, ue⟩; exact ld ty23 ug uh (fun ui uj => fin ud uj)
         ·intro u7 u9 ua ub uc Q ud; have ue : V _ (u7 88) (u1 : List U8) := ub 3 88 (by kernel_rfl) (by kernel_rfl); obtain ⟨uf, ug, uh⟩ : ∃ v, _ = v ∧ V _ v _ := ⟨_, rfl, ue⟩; have ui : V _ (u7 92) (u3 : List U8) := ub 7 92 (by kernel_rfl) (by kernel_rfl); obtain ⟨uj, uk, ul⟩ : ∃ v, _ = v ∧ V _ v _ := ⟨_, rfl, ui⟩; refine L_calls cal59 (args2 ug uk) (ref14_same_ok N _ _ _ uh _ _ ul u5 u6) (by decide) (fun um un uo uq => ?_); have ur := Tch.ext (Ext.refl u9) uo; obtain rfl := uq.bool; exact L_nil (ud _ _ ur rfl)
         ·intro u7 u9 ua ub uc Q ud; have ue : u7 93 = vb (u5) := ub 8 93 (by kernel_rfl) (by kernel_rfl); exact L_not ue (by decide) (fin ud rfl)
         ·intro u7 u9 ua ub uc
          have ud := Tch.ext gr ua
          have ue : u7 2 = vi (a2) := (uc 2 (by kernel_rfl)).trans gv
          have uf : u7 8 = j8 := (uc 8 (by kernel_rfl)).trans gw
          have ug : u7 13 = g1 := (uc 13 (by kernel_rfl)).trans gx
          have uh : u7 14 = gd := (uc 14 (by kernel_rfl)).trans gy
          have ui : u7 16 = vi (gm) := (uc 16 (by kernel_rfl)).trans gu
          have uj : u7 94 = vb (!u5) := ub 9 94 (by kernel_rfl)
          refine then_n ?_
          refine W_cond _ uj (fun uk => ?_) (fun uk => ?_)
          ·have hr := ite_t uk hr; refine sr (asg (rv (Value.slice none 0 0)) (asg (rv (vi 7)) (nn (W_ret (block_r (then_r (then_r (block_r ?_)))))))); obtain rfl := Option.some.inj hr; have hr := gl; (try dsimp only at hr); refine then_r (then_r ?_); obtain rfl := Option.some.inj hr; exact done2 (Or.inl rfl) Tryz.results20 rfl rfl ⟨_, _, rfl, rfl, ud, _, _, rfl, Vnil, Vint⟩
          ·have hr := ite_f uk hr; refine W_skip (block_n (then_n (W_region (mv ui ?_)))); obtain ⟨ul, hr⟩ := chk_some hr; exact ad (rv (vi gm)) (rv (vi 1)) ul (asg (rv (vi (gm + 1))) (nn ⟨gn, Nat.lt_succ_self _, ⟨u9, (gm + 1), rfl, ud, (gs.trans ua.le), hr, rfl, ue, uf, ug, uh, (gz).ext ua⟩⟩))
        ·have hr := ite_f u0 hr; refine W_exit (then_x (then_x (block_here ?_))); exact then_n ⟨gq, rfl, gr, gs, Option.some.inj hr, gx, gz⟩
      ·rintro gm gn ⟨go, rfl, gp, gq, gk, gr, gs⟩; subst gk; have hr := gl; (try dsimp only at hr); refine then_n (sr (mv gr ?_)); have gu := (gs).toV; refine asg (rv g1) (asg (rv (vi 0)) (nn (W_ret ?_))); obtain rfl := Option.some.inj hr; exact done2 (Or.inl rfl) Tryz.results20 rfl rfl ⟨_, _, rfl, rfl, gp, _, _, rfl, gu, Vint⟩

theorem law14_CheckRepairs_ok (N : Nat) (s0 : St) (w0 : Value) (a0 : List (List U8)) (h0 : V s0 w0 a0) (w1 : Value) (a1 : List Bool) (h1 : V s0 w1 a1) (a2 : Int) (r : Bool) (hr : law14_CheckRepairs N a0 a1 a2 = some r) :
    Calls Tryz.prog 4 #[w0, w1, .int .i64 a2] s0.w (Ret s0 fun v s => V s v r) := by
 unfold law14_CheckRepairs at hr
 have j0 := Ext.refl s0
 refine Calls_of (n := 72) (args := [w0, w1, .int .i64 a2]) Tryz.func4 rfl rfl (by simp) (sr (asg (rv (vb false)) (nn (W_seq ?_))))
 obtain ⟨j1, j2, j3⟩ := bind_some hr
 refine W_seq_cut (fun f w => ∃ (s : St) (j4 : Bool), s.w = w ∧ Ext s0 s ∧ Le s0 s ∧ j4 = j1 ∧ f 20 = vb j4 ∧ f 0 = w0 ∧ f 1 = w1 ∧ f 2 = vi (a2)) ?_ ?_
 ·have hr := j2
  refine W_region (mv (rv w0) ?_)
  obtain ⟨j5, j6, hr⟩ := bind_some hr
  refine L_calls cal10 (args1 (rv w0)) (law14_few_ok N _ _ _ h0 j5 j6) (by decide) (fun j7 j8 j9 ja => ?_)
  have jb := Tch.ext j0 j9
  obtain rfl := ja.bool
  refine L_not (rv (vb j5)) (by decide) (mv (rv (vb (!j5))) ?_)
  rcases tf (!j5) with jc | jc
  ·have hr := ite_t jc hr; exact gf 16 (rv (vb (!j5))) jc (gf 16 (rv (vb (!j5))) jc (gf 16 (rv (vb (!j5))) jc (pt (rv (vb (!j5))) jc (rv (vb true)) (nn ⟨j8, true, rfl, jb, j9.le, Option.some.inj hr, rfl, rfl, rfl, rfl⟩))))
  ·have hr := ite_f jc hr; exact gt 16 (rv (vb (!j5))) jc (mv (rv w1) (gt 16 (rv (vb (!j5))) jc (ln Tryz.underlying32 (rv w1) (h1.mono j9.le) (gt 16 (rv (vb (!j5))) jc (L_gtr (rv (vi ((a1.length : Int)))) (rv (vi 50)) (by decide) (pf (rv (vb (!j5))) jc (rv (vb (decide (50 < (a1.length : Int))))) (nn ⟨j8, (decide (50 < (a1.length : Int))), rfl, jb, j9.le, Option.some.inj hr, rfl, rfl, rfl, rfl⟩)))))))
 ·rintro j5 j6 ⟨j7, j4, rfl, j8, j9, j2, ja, jb, jc, jd⟩
  subst j2
  have hr := j3
  try dsimp only at hr
  refine W_cond _ ja (fun je => ?_) (fun je => ?_)
  ·have hr := ite_t je hr; refine sr ?_; obtain ⟨jf, jg, hr⟩ := bind_some hr; refine L_calls cal11 (args0) (law14_works_ok N _  jf jg) (by decide) (fun jh ji jj jk => ?_); have jl := Tch.ext j8 jj; obtain rfl := jk.bool; refine asg (rv (vb jf)) (nn (W_ret (then_r ?_))); obtain rfl := Option.some.inj hr; exact done1 (Or.inl rfl) Tryz.results4 rfl ⟨_, _, rfl, rfl, jl, Vbool⟩
  ·have hr := ite_f je hr
   refine W_skip (then_n (sr (mv jb (mv jc (mv jd ?_)))))
   obtain ⟨jf, jg, hr⟩ := bind_some hr
   refine L_calls cal17 (args3 (rv w0) (rv w1) (rv (vi a2))) (check_Repair_ok N _ _ _ (h0.mono j9) _ _ (h1.mono j9) a2 jf jg) (by decide) (fun jh ji jj jk => ?_)
   have jl := Tch.ext j8 jj
   obtain ⟨jm, jn, rfl, jo, jp⟩ := jk
   obtain rfl := jp.int
   refine mv (rv (Value.tuple #[jm, vi (jf.2)])) (xt (rv (Value.tuple #[jm, vi (jf.2)])) (k := 0) rfl (xt (rv (Value.tuple #[jm, vi (jf.2)])) (k := 1) rfl (asg (rv jm) (asg (rv (vi (jf.2))) (nn (sr (mv jb (mv jc (mv jd ?_)))))))))
   obtain ⟨jq, jr, hr⟩ := bind_some hr
   refine L_calls cal18 (args3 (rv w0) (rv w1) (rv (vi a2))) (ref14_Repair_ok N _ _ _ (h0.mono (j9.trans jj.le)) _ _ (h1.mono (j9.trans jj.le)) a2 jq jr) (by decide) (fun js jt ju jv => ?_)
   have jw := Tch.ext jl ju
   obtain ⟨jx, jy, rfl, jz, k0⟩ := jv
   obtain rfl := k0.int
   refine mv (rv (Value.tuple #[jx, vi (jq.2)])) (xt (rv (Value.tuple #[jx, vi (jq.2)])) (k := 0) rfl (xt (rv (Value.tuple #[jx, vi (jq.2)])) (k := 1) rfl (asg (rv jx) (asg (rv (vi (jq.2))) (nn (W_seq ?_))))))
   obtain ⟨k1, k2, k3⟩ := bind_some hr
   refine W_seq_cut (fun f w => ∃ (s : St) (k4 : Bool), s.w = w ∧ Ext s0 s ∧ Le jt s ∧ k4 = k1 ∧ f 44 = vb k4 ∧ f 0 = w0 ∧ f 1 = w1 ∧ f 2 = vi (a2)) ?_ ?_
   ·have hr := k2
    refine W_region (mv (rv jm) (mv (rv jx) ?_))
    obtain ⟨k5, k6, hr⟩ := bind_some hr
    refine L_calls cal14 (args2 (rv jm) (rv jx)) (law14_equal_ok N _ _ _ (jo.mono ju.le) _ _ jz k5 k6) (by decide) (fun k7 k8 k9 ka => ?_)
    have kb := Tch.ext jw k9
    obtain rfl := ka.bool
    refine L_not (rv (vb k5)) (by decide) (mv (rv (vb (!k5))) ?_)
    rcases tf (!k5) with kc | kc
    ·have hr := ite_t kc hr; exact gf 40 (rv (vb (!k5))) kc (gf 40 (rv (vb (!k5))) kc (gf 40 (rv (vb (!k5))) kc (pt (rv (vb (!k5))) kc (rv (vb true)) (nn ⟨k8, true, rfl, kb, k9.le, Option.some.inj hr, rfl, jb, jc, jd⟩))))
    ·have hr := ite_f kc hr; exact gt 40 (rv (vb (!k5))) kc (mv (rv (vi (jf.2))) (gt 40 (rv (vb (!k5))) kc (mv (rv (vi (jq.2))) (gt 40 (rv (vb (!k5))) kc (ne (rv (vi (jf.2))) (rv (vi (jq.2))) (pf (rv (vb (!k5))) kc (rv (vb (!decide (jf.2 = jq.2)))) (nn ⟨k8, (!decide (jf.2 = jq.2)), rfl, kb, k9.le, Option.some.inj hr, rfl, jb, jc, jd⟩)))))))
   ·rintro k5 k6 ⟨k7, k4, rfl, k8, k9, k2, ka, kb, kc, kd⟩
    subst k2
    have hr := k3
    try dsimp only at hr
    refine W_cond _ ka (fun ke => ?_) (fun ke => ?_)
    ·have hr := ite_t ke hr; refine sr (asg (rv (vb false)) (nn (W_ret (then_r ?_)))); obtain rfl := Option.some.inj hr; exact done1 (Or.inl rfl) Tryz.results4 rfl ⟨_, _, rfl, rfl, k8, Vbool⟩
    ·have hr := ite_f ke hr
     refine W_skip (then_n (sr (mv kb (mv kc (mv kd ?_)))))
     obtain ⟨kf, kg, hr⟩ := bind_some hr
     refine L_calls cal19 (args3 (rv w0) (rv w1) (rv (vi a2))) (check_Unite_ok N _ _ _ (h0.mono (j9.trans (jj.le.trans (ju.le.trans k9)))) _ _ (h1.mono (j9.trans (jj.le.trans (ju.le.trans k9)))) a2 kf kg) (by decide) (fun kh ki kj kk => ?_)
     have kl := Tch.ext k8 kj
     obtain ⟨km, kn, rfl, ko, kp⟩ := kk
     obtain rfl := kp.int
     refine mv (rv (Value.tuple #[km, vi (kf.2)])) (xt (rv (Value.tuple #[km, vi (kf.2)])) (k := 0) rfl (xt (rv (Value.tuple #[km, vi (kf.2)])) (k := 1) rfl (asg (rv km) (asg (rv (vi (kf.2))) (nn (sr (mv kb (mv kc (mv kd ?_)))))))))
     obtain ⟨kq, kr, hr⟩ := bind_some hr
     refine L_calls cal20 (args3 (rv w0) (rv w1) (rv (vi a2))) (ref14_Unite_ok N _ _ _ (h0.mono (j9.trans (jj.le.trans (ju.le.trans (k9.trans kj.le))))) _ _ (h1.mono (j9.trans (jj.le.trans (ju.le.trans (k9.trans kj.le))))) a2 kq kr) (by decide) (fun ks kt ku kv => ?_)
     have kw := Tch.ext kl ku
     obtain ⟨kx, ky, rfl, kz, g0⟩ := kv
     obtain rfl := g0.int
     refine mv (rv (Value.tuple #[kx, vi (kq.2)])) (xt (rv (Value.tuple #[kx, vi (kq.2)])) (k := 0) rfl (xt (rv (Value.tuple #[kx, vi (kq.2)])) (k := 1) rfl (asg (rv kx) (asg (rv (vi (kq.2))) (nn (sr (mv (rv km) (L_b2s Tryz.underlying23 Tryz.underlying5 Tryz.underlying9 (rv km) (ko.mono ku.le) (by decide) (mv (rv kx) (L_b2s Tryz.underlying23 Tryz.underlying5 Tryz.underlying9 (rv kx) kz (by decide) (L_seql (rv (Value.string (txtOf kf.1).v)) (rv (Value.string (txtOf kq.1).v)) (by decide) (mv (rv (vb (decide ((txtOf kf.1) = (txtOf kq.1))))) ?_))))))))))))
     rcases tf (decide ((txtOf kf.1) = (txtOf kq.1))) with g1 | g1
     ·have hr := ite_t g1 hr
      refine gt 64 (rv (vb (decide ((txtOf kf.1) = (txtOf kq.1))))) g1 (mv (rv (vi (kf.2))) (gt 64 (rv (vb (decide ((txtOf kf.1) = (txtOf kq.1))))) g1 (mv (rv (vi (kq.2))) (gt 64 (rv (vb (decide ((txtOf kf.1) = (txtOf kq.1))))) g1 (el (rv (vi (kf.2))) (rv (vi (kq.2))) (pt (rv (vb (decide ((txtOf kf.1) = (txtOf kq.1))))) g1 (rv (vb (decide (kf.2 = kq.2)))) (mv (rv (vb (decide (kf.2 = kq.2)))) ?_)))))))
      rcases tf (decide (kf.2 = kq.2)) with g2 | g2
      ·have hr := ite_t g2 hr; refine gt 69 (rv (vb (decide (kf.2 = kq.2)))) g2 ?_; obtain ⟨g3, g4, hr⟩ := bind_some hr; refine L_calls cal11 (args0) (law14_works_ok N _  g3 g4) (by decide) (fun g5 g6 g7 g8 => ?_); have g9 := Tch.ext kw g7; obtain rfl := g8.bool; refine pt (rv (vb (decide (kf.2 = kq.2)))) g2 (rv (vb g3)) (asg (rv (vb g3)) (nn (W_ret ?_))); obtain rfl := Option.some.inj hr; exact done1 (Or.inl rfl) Tryz.results4 rfl ⟨_, _, rfl, rfl, g9, Vbool⟩
      ·have hr := ite_f g2 hr; refine gf 69 (rv (vb (decide (kf.2 = kq.2)))) g2 (pf (rv (vb (decide (kf.2 = kq.2)))) g2 (rv (vb false)) (asg (rv (vb false)) (nn (W_ret ?_)))); obtain rfl := Option.some.inj hr; exact done1 (Or.inl rfl) Tryz.results4 rfl ⟨_, _, rfl, rfl, kw, Vbool⟩
     ·have hr := ite_f g1 hr; refine gf 64 (rv (vb (decide ((txtOf kf.1) = (txtOf kq.1))))) g1 (gf 64 (rv (vb (decide ((txtOf kf.1) = (txtOf kq.1))))) g1 (gf 64 (rv (vb (decide ((txtOf kf.1) = (txtOf kq.1))))) g1 (pf (rv (vb (decide ((txtOf kf.1) = (txtOf kq.1))))) g1 (rv (vb false)) (mv (rv (vb false)) (gf 69 (rv (vb false)) rfl (pf (rv (vb false)) rfl (rv (vb false)) (asg (rv (vb false)) (nn (W_ret ?_))))))))); obtain rfl := Option.some.inj hr; exact done1 (Or.inl rfl) Tryz.results4 rfl ⟨_, _, rfl, rfl, kw, Vbool⟩

end Go.Arm
