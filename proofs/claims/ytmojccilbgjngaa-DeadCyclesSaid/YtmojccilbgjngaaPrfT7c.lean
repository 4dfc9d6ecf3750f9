/- Each function of the program computes what its plain function says. -/
import Derived.Test.YtmojccilbgjngaaPrfT7b
namespace Go.Arm
open Go Go.RowKit Go.Proofs
set_option maxHeartbeats 1028000 in
theorem law08_works_ok (N : Nat) (s0 : St) (r : Bool) (hr : law08_works N  = some r) :
    Calls Try.prog 10 #[] s0.w (Ret s0 fun v s => V s v r) := by
 unfold law08_works at hr
 have j0 := Ext.refl s0
 refine Calls_of (n := 205) (args := []) Try.func10 rfl rfl (by simp) (sr (asg (rfl : _ = Value.bool (false)) (nn (sr ?_))))
 obtain ⟨j1, j2, hr⟩ := bind_some hr
 refine L_calls cal28 (args2 (rfl : _ = Value.int .i64 (1)) (rfl : _ = Value.int .i64 (0))) (law08_send_ok N _ 1 0 j1 j2) (by decide) (fun j3 j4 j5 j6 => ?_)
 have j7 := Tch.ext j0 j5
 obtain ⟨j8, j9, hr⟩ := bind_some hr
 refine L_calls cal29 (args2 (rfl : _ = Value.int .i64 (1)) (rfl : _ = Value.int .i64 (0))) (law08_recv_ok N _ 1 0 j8 j9) (by decide) (fun ja jb jc jd => ?_)
 have je := Tch.ext j7 jc
 refine L_buildSlice (xs := ([j1, j8] : List Deed)) Try.underlying59 tyz64 (Parts_cons rfl (rfl : _ = j3) (Parts_cons rfl (rfl : _ = ja) Parts_nil)) (Vs.cons (j6.mono jc.le) (Vs.cons jd Vs.nil)) rfl (by decide) (by decide) (fun jf jg jh ji jj => ?_)
 have jk := Tch.ext je jh
 obtain ⟨jl, jm, hr⟩ := bind_some hr
 refine L_calls cal28 (args2 (rfl : _ = Value.int .i64 (0)) (rfl : _ = Value.int .i64 (0))) (law08_send_ok N _ 0 0 jl jm) (by decide) (fun jn jo jp jq => ?_)
 have jr := Tch.ext jk jp
 obtain ⟨js, jt, hr⟩ := bind_some hr
 refine L_calls cal29 (args2 (rfl : _ = Value.int .i64 (0)) (rfl : _ = Value.int .i64 (0))) (law08_recv_ok N _ 0 0 js jt) (by decide) (fun ju jv jw jx => ?_)
 have jy := Tch.ext jr jw
 refine L_buildSlice (xs := ([jl, js] : List Deed)) Try.underlying59 tyz64 (Parts_cons rfl (rfl : _ = jn) (Parts_cons rfl (rfl : _ = ju) Parts_nil)) (Vs.cons (jq.mono jw.le) (Vs.cons jx Vs.nil)) rfl (by decide) (by decide) (fun jz k0 k1 k2 k3 => ?_)
 have k4 := Tch.ext jy k1
 refine L_buildSlice (xs := ([([j1, j8] : List Deed), ([jl, js] : List Deed)] : List (List Deed))) Try.underlying29 tyz59 (Parts_cons rfl (rfl : _ = jg) (Parts_cons rfl (rfl : _ = k0) Parts_nil)) (Vs.cons (jj.mono (jp.le.trans (jw.le.trans k1.le))) (Vs.cons k3 Vs.nil)) rfl (by decide) (by decide) (fun k5 k6 k7 k8 k9 => ?_)
 have ka := Tch.ext k4 k7
 refine asg (rfl : _ = k6) (nn (sr (mv (rfl : _ = k6) ?_)))
 obtain ⟨kb, kc, hr⟩ := bind_some hr
 refine L_calls cal18 (args1 (rfl : _ = k6)) (dead_Decide_ok N _ _ _ k9 kb kc) (by decide) (fun kd ke kf kg => ?_)
 have kh := Tch.ext ka kf
 obtain ⟨ki, kj, rfl, kk, kl⟩ := kg
 obtain rfl := kl.int
 refine mv (rfl : _ = Value.tuple #[ki, Value.int .i64 (kb.2)]) (L_extract (rfl : _ = Value.tuple #[ki, Value.int .i64 (kb.2)]) (k := 0) rfl (by decide) (L_extract (rfl : _ = Value.tuple #[ki, Value.int .i64 (kb.2)]) (k := 1) rfl (by decide) (L_alloc (α := Verdict) (x := ⟨0, 0⟩) zero40 Verdict.zero_rel (by decide) (fun km kn ko kp kq => ?_))))
 have kr := Tch.ext kh ko
 refine L_store ty40 (rfl : _ = Value.pointer (some ⟨kn, 0, none⟩)) (rfl : _ = ki) (kk.mono ko.le) (kq) (fun ks kt ku => ?_)
 have kv := Tch.trans kr kt (fun k hk => Or.inr (by subst hk; exact (Nat.le_trans kh.size kp)))
 refine asg (rfl : _ = Value.int .i64 (kb.2)) (nn (sr (mv (rfl : _ = k6) ?_)))
 obtain ⟨kw, kx, hr⟩ := bind_some hr
 refine L_calls cal25 (args2 (rfl : _ = k6) (rfl : _ = Value.int .i64 (0))) (dead_Cycle_ok N _ _ _ (k9.mono (kf.le.trans (ko.le.trans kt.le))) 0 kw kx) (by decide) (fun ky kz g0 g1 => ?_)
 have g2 := Tch.ext kv g0
 obtain ⟨g3, g4, rfl, g5, g6⟩ := g1
 obtain rfl := g6.int
 refine mv (rfl : _ = Value.tuple #[g3, Value.int .i64 (kw.2)]) (L_extract (rfl : _ = Value.tuple #[g3, Value.int .i64 (kw.2)]) (k := 0) rfl (by decide) (L_extract (rfl : _ = Value.tuple #[g3, Value.int .i64 (kw.2)]) (k := 1) rfl (by decide) (asg (rfl : _ = g3) (asg (rfl : _ = Value.int .i64 (kw.2)) (nn (sr (mv (rfl : _ = k6) ?_)))))))
 obtain ⟨g7, g8, hr⟩ := bind_some hr
 refine L_calls cal30 (args2 (rfl : _ = k6) (rfl : _ = Value.int .i64 (0))) (dead_End_ok N _ _ _ (k9.mono (kf.le.trans (ko.le.trans (kt.le.trans g0.le)))) 0 g7 g8) (by decide) (fun g9 ga gb gc => ?_)
 have gd := Tch.ext g2 gb
 obtain ⟨gg, gh, rfl, gi, gj⟩ := gc
 obtain rfl := gj.int
 refine mv (rfl : _ = Value.tuple #[gg, Value.int .i64 (g7.2)]) (L_extract (rfl : _ = Value.tuple #[gg, Value.int .i64 (g7.2)]) (k := 0) rfl (by decide) (L_extract (rfl : _ = Value.tuple #[gg, Value.int .i64 (g7.2)]) (k := 1) rfl (by decide) (asg (rfl : _ = gg) (asg (rfl : _ = Value.int .i64 (g7.2)) (nn (W_seq ?_))))))
 obtain ⟨gk, gl, gm⟩ := bind_some hr
 refine W_seq_cut (fun f w => ∃ (s : St) (gn : Bool), s.w = w ∧ Ext s0 s ∧ Le ga s ∧ gn = gk ∧ f 65 = Value.bool gn ∧ f 2 = Value.pointer (some ⟨kn, 0, none⟩) ∧ Var s kn 40 kb.1) ?_ ?_
 ·have hr := gl
  refine W_region (L_load_var ty40 (rfl : _ = Value.pointer (some ⟨kn, 0, none⟩)) (((ku).ext g0).ext gb) (by decide) (fun go gp => L_bld40_0_1 (s := ga) (rfl : _ = Value.int .i64 (2)) (rfl : _ = Value.int .i64 (1)) (Vint : V _ _ (2 : Int)) (Vint : V _ _ (1 : Int)) (by decide) (fun gq gr => L_sne40 (rfl : _ = go) gp (rfl : _ = gq) gr (by decide) (mv (rfl : _ = Value.bool (!decide (kb.1 = (⟨2, 1⟩ : Verdict)))) ?_))))
  rcases Bool.eq_false_or_eq_true (!decide (kb.1 = (⟨2, 1⟩ : Verdict))) with gs | gs
  ·have hr := ite_t gs hr; refine gf 42 (rfl : _ = Value.bool (!decide (kb.1 = (⟨2, 1⟩ : Verdict)))) gs (gf 42 (rfl : _ = Value.bool (!decide (kb.1 = (⟨2, 1⟩ : Verdict)))) gs (pt (rfl : _ = Value.bool (!decide (kb.1 = (⟨2, 1⟩ : Verdict)))) gs (rfl : _ = Value.bool (true)) (mv (rfl : _ = Value.bool (true)) (gf 46 (rfl : _ = Value.bool (true)) rfl (gf 46 (rfl : _ = Value.bool (true)) rfl (pt (rfl : _ = Value.bool (true)) rfl (rfl : _ = Value.bool (true)) (mv (rfl : _ = Value.bool (true)) (gf 50 (rfl : _ = Value.bool (true)) rfl (gf 50 (rfl : _ = Value.bool (true)) rfl (pt (rfl : _ = Value.bool (true)) rfl (rfl : _ = Value.bool (true)) (mv (rfl : _ = Value.bool (true)) (gf 54 (rfl : _ = Value.bool (true)) rfl (gf 54 (rfl : _ = Value.bool (true)) rfl ?_))))))))))))); exact gf 54 (rfl : _ = Value.bool (true)) rfl (gf 54 (rfl : _ = Value.bool (true)) rfl (pt (rfl : _ = Value.bool (true)) rfl (rfl : _ = Value.bool (true)) (mv (rfl : _ = Value.bool (true)) (gf 60 (rfl : _ = Value.bool (true)) rfl (gf 60 (rfl : _ = Value.bool (true)) rfl (gf 60 (rfl : _ = Value.bool (true)) rfl (gf 60 (rfl : _ = Value.bool (true)) rfl (pt (rfl : _ = Value.bool (true)) rfl (rfl : _ = Value.bool (true)) (nn ⟨ga, true, rfl, gd, (Le.refl _), Option.some.inj hr, rfl, rfl, ((ku).ext g0).ext gb⟩)))))))))
  ·have hr := ite_f gs hr
   refine gt 42 (rfl : _ = Value.bool (!decide (kb.1 = (⟨2, 1⟩ : Verdict)))) gs (mv (rfl : _ = Value.int .i64 (kb.2)) (gt 42 (rfl : _ = Value.bool (!decide (kb.1 = (⟨2, 1⟩ : Verdict)))) gs (L_neq (rfl : _ = Value.int .i64 (kb.2)) (rfl : _ = Value.int .i64 (0)) (by decide) (pf (rfl : _ = Value.bool (!decide (kb.1 = (⟨2, 1⟩ : Verdict)))) gs (rfl : _ = Value.bool (!decide (kb.2 = 0))) (mv (rfl : _ = Value.bool (!decide (kb.2 = 0))) ?_)))))
   rcases Bool.eq_false_or_eq_true (!decide (kb.2 = 0)) with gu | gu
   ·have hr := ite_t gu hr; refine gf 46 (rfl : _ = Value.bool (!decide (kb.2 = 0))) gu (gf 46 (rfl : _ = Value.bool (!decide (kb.2 = 0))) gu (pt (rfl : _ = Value.bool (!decide (kb.2 = 0))) gu (rfl : _ = Value.bool (true)) (mv (rfl : _ = Value.bool (true)) (gf 50 (rfl : _ = Value.bool (true)) rfl (gf 50 (rfl : _ = Value.bool (true)) rfl (pt (rfl : _ = Value.bool (true)) rfl (rfl : _ = Value.bool (true)) (mv (rfl : _ = Value.bool (true)) (gf 54 (rfl : _ = Value.bool (true)) rfl (gf 54 (rfl : _ = Value.bool (true)) rfl (gf 54 (rfl : _ = Value.bool (true)) rfl (gf 54 (rfl : _ = Value.bool (true)) rfl (pt (rfl : _ = Value.bool (true)) rfl (rfl : _ = Value.bool (true)) (mv (rfl : _ = Value.bool (true)) ?_))))))))))))); exact gf 60 (rfl : _ = Value.bool (true)) rfl (gf 60 (rfl : _ = Value.bool (true)) rfl (gf 60 (rfl : _ = Value.bool (true)) rfl (gf 60 (rfl : _ = Value.bool (true)) rfl (pt (rfl : _ = Value.bool (true)) rfl (rfl : _ = Value.bool (true)) (nn ⟨ga, true, rfl, gd, (Le.refl _), Option.some.inj hr, rfl, rfl, ((ku).ext g0).ext gb⟩)))))
   ·have hr := ite_f gu hr
    refine gt 46 (rfl : _ = Value.bool (!decide (kb.2 = 0))) gu (mv (rfl : _ = Value.int .i64 (kw.2)) (gt 46 (rfl : _ = Value.bool (!decide (kb.2 = 0))) gu (L_neq (rfl : _ = Value.int .i64 (kw.2)) (rfl : _ = Value.int .i64 (0)) (by decide) (pf (rfl : _ = Value.bool (!decide (kb.2 = 0))) gu (rfl : _ = Value.bool (!decide (kw.2 = 0))) (mv (rfl : _ = Value.bool (!decide (kw.2 = 0))) ?_)))))
    rcases Bool.eq_false_or_eq_true (!decide (kw.2 = 0)) with gv | gv
    ·have hr := ite_t gv hr; refine gf 50 (rfl : _ = Value.bool (!decide (kw.2 = 0))) gv (gf 50 (rfl : _ = Value.bool (!decide (kw.2 = 0))) gv (pt (rfl : _ = Value.bool (!decide (kw.2 = 0))) gv (rfl : _ = Value.bool (true)) (mv (rfl : _ = Value.bool (true)) (gf 54 (rfl : _ = Value.bool (true)) rfl (gf 54 (rfl : _ = Value.bool (true)) rfl (gf 54 (rfl : _ = Value.bool (true)) rfl (gf 54 (rfl : _ = Value.bool (true)) rfl (pt (rfl : _ = Value.bool (true)) rfl (rfl : _ = Value.bool (true)) (mv (rfl : _ = Value.bool (true)) (gf 60 (rfl : _ = Value.bool (true)) rfl (gf 60 (rfl : _ = Value.bool (true)) rfl (gf 60 (rfl : _ = Value.bool (true)) rfl (gf 60 (rfl : _ = Value.bool (true)) rfl ?_))))))))))))); exact pt (rfl : _ = Value.bool (true)) rfl (rfl : _ = Value.bool (true)) (nn ⟨ga, true, rfl, gd, (Le.refl _), Option.some.inj hr, rfl, rfl, ((ku).ext g0).ext gb⟩)
    ·have hr := ite_f gv hr
     refine gt 50 (rfl : _ = Value.bool (!decide (kw.2 = 0))) gv (mv (rfl : _ = Value.int .i64 (g7.2)) (gt 50 (rfl : _ = Value.bool (!decide (kw.2 = 0))) gv (L_neq (rfl : _ = Value.int .i64 (g7.2)) (rfl : _ = Value.int .i64 (0)) (by decide) (pf (rfl : _ = Value.bool (!decide (kw.2 = 0))) gv (rfl : _ = Value.bool (!decide (g7.2 = 0))) (mv (rfl : _ = Value.bool (!decide (g7.2 = 0))) ?_)))))
     rcases Bool.eq_false_or_eq_true (!decide (g7.2 = 0)) with gw | gw
     ·have hr := ite_t gw hr; exact gf 54 (rfl : _ = Value.bool (!decide (g7.2 = 0))) gw (gf 54 (rfl : _ = Value.bool (!decide (g7.2 = 0))) gw (gf 54 (rfl : _ = Value.bool (!decide (g7.2 = 0))) gw (gf 54 (rfl : _ = Value.bool (!decide (g7.2 = 0))) gw (pt (rfl : _ = Value.bool (!decide (g7.2 = 0))) gw (rfl : _ = Value.bool (true)) (mv (rfl : _ = Value.bool (true)) (gf 60 (rfl : _ = Value.bool (true)) rfl (gf 60 (rfl : _ = Value.bool (true)) rfl (gf 60 (rfl : _ = Value.bool (true)) rfl (gf 60 (rfl : _ = Value.bool (true)) rfl (pt (rfl : _ = Value.bool (true)) rfl (rfl : _ = Value.bool (true)) (nn ⟨ga, true, rfl, gd, (Le.refl _), Option.some.inj hr, rfl, rfl, ((ku).ext g0).ext gb⟩)))))))))))
     ·have hr := ite_f gw hr
      refine gt 54 (rfl : _ = Value.bool (!decide (g7.2 = 0))) gw (mv (rfl : _ = g3) (gt 54 (rfl : _ = Value.bool (!decide (g7.2 = 0))) gw (L_buildSlice (xs := ([0, 1] : List Int)) Try.underlying23 tyz3 (Parts_cons rfl (rfl : _ = Value.int .i64 (0)) (Parts_cons rfl (rfl : _ = Value.int .i64 (1)) Parts_nil)) (Vs.cons Vint (Vs.cons Vint Vs.nil)) rfl (by decide) (by decide) (fun gx gy gz u0 u1 => ?_))))
      have u2 := Tch.ext gd gz
      refine gt 54 (rfl : _ = Value.bool (!decide (g7.2 = 0))) gw ?_
      obtain ⟨u3, u4, hr⟩ := bind_some hr
      refine L_calls cal14 (args2 (rfl : _ = g3) (rfl : _ = gy)) (ref01_SameInts_ok N _ _ _ (g5.mono (gb.le.trans gz.le)) _ _ u1 u3 u4) (by decide) (fun u5 u6 u7 u9 => ?_)
      have ua := Tch.ext u2 u7
      obtain rfl := u9.bool
      refine gt 54 (rfl : _ = Value.bool (!decide (g7.2 = 0))) gw (L_not (rfl : _ = Value.bool (u3)) (by decide) (pf (rfl : _ = Value.bool (!decide (g7.2 = 0))) gw (rfl : _ = Value.bool (!u3)) (mv (rfl : _ = Value.bool (!u3)) ?_)))
      rcases Bool.eq_false_or_eq_true (!u3) with ub | ub
      ·have hr := ite_t ub hr; exact gf 60 (rfl : _ = Value.bool (!u3)) ub (gf 60 (rfl : _ = Value.bool (!u3)) ub (gf 60 (rfl : _ = Value.bool (!u3)) ub (gf 60 (rfl : _ = Value.bool (!u3)) ub (pt (rfl : _ = Value.bool (!u3)) ub (rfl : _ = Value.bool (true)) (nn ⟨u6, true, rfl, ua, (gz.le.trans u7.le), Option.some.inj hr, rfl, rfl, ((((ku).ext g0).ext gb).ext gz).ext u7⟩)))))
      ·have hr := ite_f ub hr; refine gt 60 (rfl : _ = Value.bool (!u3)) ub (mv (rfl : _ = gg) (gt 60 (rfl : _ = Value.bool (!u3)) ub (L_buildSlice (xs := ([0, 0] : List Int)) Try.underlying23 tyz3 (Parts_cons rfl (rfl : _ = Value.int .i64 (0)) (Parts_cons rfl (rfl : _ = Value.int .i64 (0)) Parts_nil)) (Vs.cons Vint (Vs.cons Vint Vs.nil)) rfl (by decide) (by decide) (fun uc ud ue uf ug => ?_)))); have uh := Tch.ext ua ue; refine gt 60 (rfl : _ = Value.bool (!u3)) ub ?_; obtain ⟨ui, uj, hr⟩ := bind_some hr; refine L_calls cal14 (args2 (rfl : _ = gg) (rfl : _ = ud)) (ref01_SameInts_ok N _ _ _ (gi.mono (gz.le.trans (u7.le.trans ue.le))) _ _ ug ui uj) (by decide) (fun uk ul um un => ?_); have uo := Tch.ext uh um; obtain rfl := un.bool; exact gt 60 (rfl : _ = Value.bool (!u3)) ub (L_not (rfl : _ = Value.bool (ui)) (by decide) (pf (rfl : _ = Value.bool (!u3)) ub (rfl : _ = Value.bool (!ui)) (nn ⟨ul, (!ui), rfl, uo, (gz.le.trans (u7.le.trans (ue.le.trans um.le))), Option.some.inj hr, rfl, rfl, ((((((ku).ext g0).ext gb).ext gz).ext u7).ext ue).ext um⟩)))
 ·rintro go gp ⟨gq, gn, rfl, gr, gs, gl, gu, gv, gw⟩
  subst gl
  have hr := gm
  try dsimp only at hr
  refine W_cond _ gu (fun gx => ?_) (fun gx => ?_)
  ·have hr := ite_t gx hr; refine sr (asg (rfl : _ = Value.bool (false)) (nn (W_ret (then_r ?_)))); obtain rfl := Option.some.inj hr; exact done1 (Or.inl rfl) Try.results10 rfl ⟨_, _, rfl, rfl, gr, Vbool⟩
  ·have hr := ite_f gx hr
   refine W_skip (then_n (sr (L_bld64_0_1 (s := gq) (rfl : _ = Value.int .i64 (3)) (rfl : _ = Value.int .i64 (1)) (Vint : V _ _ (3 : Int)) (Vint : V _ _ (1 : Int)) (by decide) (fun gy gz => L_alloc (α := Deed) (x := ⟨0, 0, 0, 0, false⟩) zero64 Deed.zero_rel (by decide) (fun u0 u1 u2 u3 u4 => ?_)))))
   have u5 := Tch.ext gr u2
   have u6 : ∀ k, (fun k => k = kn) k → ¬ (fun k => k = u1) k := fun k u7 u9 => by have ua := (fun k (hk : k = kn) => lt_at hk (gw).lt) k u7; have ub := u3; subst u9; omega
   refine L_store_ro ty64 (rfl : _ = Value.pointer (some ⟨u1, 0, none⟩)) (rfl : _ = gy) (gz.mono u2.le) (u4) (fun uc ud ue => ?_)
   have uf := Tch.trans u5 ud (fun k hk => Or.inr (by subst hk; exact (Nat.le_trans gr.size u3)))
   refine nn (sr (L_bld64_0 (s := uc) (rfl : _ = Value.int .i64 (3)) (Vint : V _ _ (3 : Int)) (by decide) (fun ug uh => L_alloc (α := Deed) (x := ⟨0, 0, 0, 0, false⟩) zero64 Deed.zero_rel (by decide) (fun ui uj uk ul um => ?_))))
   have un := Tch.ext uf uk
   have uo : ∀ k, (fun k => k = kn) k → ¬ (fun k => k = uj) k := fun k u7 u9 => by have ua := (fun k (hk : k = kn) => lt_at hk (((gw).ext u2).tch ud ((fun k hk => u6 k hk) kn rfl)).lt) k u7; have ub := ul; subst u9; omega
   refine L_store_ro ty64 (rfl : _ = Value.pointer (some ⟨uj, 0, none⟩)) (rfl : _ = ug) (uh.mono uk.le) (um) (fun up uq ur => ?_)
   have us := Tch.trans un uq (fun k hk => Or.inr (by subst hk; exact (Nat.le_trans uf.size ul)))
   refine nn (sr (L_bld64_0 (s := up) (rfl : _ = Value.int .i64 (5)) (Vint : V _ _ (5 : Int)) (by decide) (fun ut uu => L_alloc (α := Deed) (x := ⟨0, 0, 0, 0, false⟩) zero64 Deed.zero_rel (by decide) (fun uv uw ux uy uz => ?_))))
   have t0 := Tch.ext us ux
   have t1 : ∀ k, (fun k => k = kn) k → ¬ (fun k => k = uw) k := fun k u7 u9 => by have ua := (fun k (hk : k = kn) => lt_at hk (((((gw).ext u2).tch ud ((fun k hk => u6 k hk) kn rfl)).ext uk).tch uq ((fun k hk => uo k hk) kn rfl)).lt) k u7; have ub := uy; subst u9; omega
   refine L_store_ro ty64 (rfl : _ = Value.pointer (some ⟨uw, 0, none⟩)) (rfl : _ = ut) (uu.mono ux.le) (uz) (fun t2 t3 t4 => ?_)
   have t5 := Tch.trans t0 t3 (fun k hk => Or.inr (by subst hk; exact (Nat.le_trans us.size uy)))
   refine nn (W_seq ?_)
   obtain ⟨t6, t7, hr⟩ := bind_some hr
   obtain ⟨t8, t9, hr⟩ := bind_some hr
   refine W_draws mixed (by kernel_rfl) [PV.data ((⟨3, 1, 0, 0, false⟩ : Deed) : Deed), PV.data (t6 : Deed), PV.data ((⟨5, 0, 0, 0, false⟩ : Deed) : Deed), PV.data (([(⟨3, 1, 0, 0, false⟩ : Deed), t6, (⟨5, 0, 0, 0, false⟩ : Deed)] : List Deed) : List Deed), PV.data ((⟨3, 0, 0, 0, false⟩ : Deed) : Deed), PV.data (t8 : Deed), PV.data ((⟨5, 0, 0, 0, false⟩ : Deed) : Deed), PV.data (([(⟨3, 0, 0, 0, false⟩ : Deed), t8, (⟨5, 0, 0, 0, false⟩ : Deed)] : List Deed) : List Deed), PV.data (([([(⟨3, 1, 0, 0, false⟩ : Deed), t6, (⟨5, 0, 0, 0, false⟩ : Deed)] : List Deed), ([(⟨3, 0, 0, 0, false⟩ : Deed), t8, (⟨5, 0, 0, 0, false⟩ : Deed)] : List Deed)] : List (List Deed)) : List (List Deed)), PV.data (([([(⟨3, 1, 0, 0, false⟩ : Deed), t6, (⟨5, 0, 0, 0, false⟩ : Deed)] : List Deed), ([(⟨3, 0, 0, 0, false⟩ : Deed), t8, (⟨5, 0, 0, 0, false⟩ : Deed)] : List Deed)] : List (List Deed)) : List (List Deed))] (Steps_cons ?_ (Steps_cons ?_ (Steps_cons ?_ (Steps_cons ?_ (Steps_cons ?_ (Steps_cons ?_ (Steps_cons ?_ (Steps_cons ?_ (Steps_cons ?_ (Steps_cons ?_ Steps_nil)))))))))) ?_
   ·intro ta tb tc td te Q tf; have tg : ta 8 = Value.pointer (some ⟨u1, 0, none⟩) := (te 8 (by kernel_rfl)).trans rfl; exact L_load ty64 tg (ue.mono (uk.le.trans (uq.le.trans (ux.le.trans (t3.le.trans tc.le))))) (by decide) (fun th ti => fin tf ti)
   ·intro ta tb tc td te Q tf; refine L_calls cal29 (args2 (rfl : _ = Value.int .i64 (1)) (rfl : _ = Value.int .i64 (0))) (law08_recv_ok N _ 1 0 t6 t7) (by decide) (fun tg th ti tj => ?_); have tk := Tch.ext (Ext.refl tb) ti; exact L_nil (tf _ _ tk tj)
   ·intro ta tb tc td te Q tf; have tg : ta 10 = Value.pointer (some ⟨uw, 0, none⟩) := (te 10 (by kernel_rfl)).trans rfl; exact L_load ty64 tg (t4.mono tc.le) (by decide) (fun th ti => fin tf ti)
   ·intro ta tb tc td te Q tf; have tg : V _ (ta 69) ((⟨3, 1, 0, 0, false⟩ : Deed) : Deed) := td 0 69 (by kernel_rfl) (by kernel_rfl); obtain ⟨th, ti, tj⟩ : ∃ v, _ = v ∧ V _ v _ := ⟨_, rfl, tg⟩; have tk : V _ (ta 70) (t6 : Deed) := td 1 70 (by kernel_rfl) (by kernel_rfl); obtain ⟨tl, tm, tn⟩ : ∃ v, _ = v ∧ V _ v _ := ⟨_, rfl, tk⟩; have tp : V _ (ta 71) ((⟨5, 0, 0, 0, false⟩ : Deed) : Deed) := td 2 71 (by kernel_rfl) (by kernel_rfl); obtain ⟨tq, tr, ts⟩ : ∃ v, _ = v ∧ V _ v _ := ⟨_, rfl, tp⟩; refine L_buildSlice (xs := ([(⟨3, 1, 0, 0, false⟩ : Deed), t6, (⟨5, 0, 0, 0, false⟩ : Deed)] : List Deed)) Try.underlying59 tyz64 (Parts_cons rfl ti (Parts_cons rfl tm (Parts_cons rfl tr Parts_nil))) (Vs.cons tj (Vs.cons tn (Vs.cons ts Vs.nil))) rfl (by decide) (by decide) (fun tt tu tv tw tx => ?_); have ty := Tch.ext (Ext.refl tb) tv; exact L_nil (tf _ _ ty tx)
   ·intro ta tb tc td te Q tf; have tg : ta 9 = Value.pointer (some ⟨uj, 0, none⟩) := (te 9 (by kernel_rfl)).trans rfl; exact L_load ty64 tg (ur.mono (ux.le.trans (t3.le.trans tc.le))) (by decide) (fun th ti => fin tf ti)
   ·intro ta tb tc td te Q tf; refine L_calls cal29 (args2 (rfl : _ = Value.int .i64 (0)) (rfl : _ = Value.int .i64 (0))) (law08_recv_ok N _ 0 0 t8 t9) (by decide) (fun tg th ti tj => ?_); have tk := Tch.ext (Ext.refl tb) ti; exact L_nil (tf _ _ tk tj)
   ·intro ta tb tc td te Q tf; have tg : ta 10 = Value.pointer (some ⟨uw, 0, none⟩) := (te 10 (by kernel_rfl)).trans rfl; exact L_load ty64 tg (t4.mono tc.le) (by decide) (fun th ti => fin tf ti)
   ·intro ta tb tc td te Q tf; have tg : V _ (ta 73) ((⟨3, 0, 0, 0, false⟩ : Deed) : Deed) := td 4 73 (by kernel_rfl) (by kernel_rfl); obtain ⟨th, ti, tj⟩ : ∃ v, _ = v ∧ V _ v _ := ⟨_, rfl, tg⟩; have tk : V _ (ta 74) (t8 : Deed) := td 5 74 (by kernel_rfl) (by kernel_rfl); obtain ⟨tl, tm, tn⟩ : ∃ v, _ = v ∧ V _ v _ := ⟨_, rfl, tk⟩; have tp : V _ (ta 75) ((⟨5, 0, 0, 0, false⟩ : Deed) : Deed) := td 6 75 (by kernel_rfl) (by kernel_rfl); obtain ⟨tq, tr, ts⟩ : ∃ v, _ = v ∧ V _ v _ := ⟨_, rfl, tp⟩; refine L_buildSlice (xs := ([(⟨3, 0, 0, 0, false⟩ : Deed), t8, (⟨5, 0, 0, 0, false⟩ : Deed)] : List Deed)) Try.underlying59 tyz64 (Parts_cons rfl ti (Parts_cons rfl tm (Parts_cons rfl tr Parts_nil))) (Vs.cons tj (Vs.cons tn (Vs.cons ts Vs.nil))) rfl (by decide) (by decide) (fun tt tu tv tw tx => ?_); have ty := Tch.ext (Ext.refl tb) tv; exact L_nil (tf _ _ ty tx)
   ·intro ta tb tc td te Q tf; have tg : V _ (ta 72) (([(⟨3, 1, 0, 0, false⟩ : Deed), t6, (⟨5, 0, 0, 0, false⟩ : Deed)] : List Deed) : List Deed) := td 3 72 (by kernel_rfl) (by kernel_rfl); obtain ⟨th, ti, tj⟩ : ∃ v, _ = v ∧ V _ v _ := ⟨_, rfl, tg⟩; have tk : V _ (ta 76) (([(⟨3, 0, 0, 0, false⟩ : Deed), t8, (⟨5, 0, 0, 0, false⟩ : Deed)] : List Deed) : List Deed) := td 7 76 (by kernel_rfl) (by kernel_rfl); obtain ⟨tl, tm, tn⟩ : ∃ v, _ = v ∧ V _ v _ := ⟨_, rfl, tk⟩; refine L_buildSlice (xs := ([([(⟨3, 1, 0, 0, false⟩ : Deed), t6, (⟨5, 0, 0, 0, false⟩ : Deed)] : List Deed), ([(⟨3, 0, 0, 0, false⟩ : Deed), t8, (⟨5, 0, 0, 0, false⟩ : Deed)] : List Deed)] : List (List Deed))) Try.underlying29 tyz59 (Parts_cons rfl ti (Parts_cons rfl tm Parts_nil)) (Vs.cons tj (Vs.cons tn Vs.nil)) rfl (by decide) (by decide) (fun tp tq tr ts tt => ?_); have tu := Tch.ext (Ext.refl tb) tr; exact L_nil (tf _ _ tu tt)
   ·intro ta tb tc td te Q tf; have tg : V _ (ta 77) (([([(⟨3, 1, 0, 0, false⟩ : Deed), t6, (⟨5, 0, 0, 0, false⟩ : Deed)] : List Deed), ([(⟨3, 0, 0, 0, false⟩ : Deed), t8, (⟨5, 0, 0, 0, false⟩ : Deed)] : List Deed)] : List (List Deed)) : List (List Deed)) := td 8 77 (by kernel_rfl) (by kernel_rfl); obtain ⟨th, ti, tj⟩ : ∃ v, _ = v ∧ V _ v _ := ⟨_, rfl, tg⟩; exact asg ti (fin tf tj)
   ·intro ta tb tc td te
    have tf := Tch.ext t5 tc
    have tg : ta 2 = Value.pointer (some ⟨kn, 0, none⟩) := (te 2 (by kernel_rfl)).trans gv
    have th : V _ (ta 11) (([([(⟨3, 1, 0, 0, false⟩ : Deed), t6, (⟨5, 0, 0, 0, false⟩ : Deed)] : List Deed), ([(⟨3, 0, 0, 0, false⟩ : Deed), t8, (⟨5, 0, 0, 0, false⟩ : Deed)] : List Deed)] : List (List Deed)) : List (List Deed)) := td 9 11 (by kernel_rfl)
    obtain ⟨ti, tj, tk⟩ : ∃ v, _ = v ∧ V _ v _ := ⟨_, rfl, th⟩
    refine then_n (sr (mv tj ?_))
    obtain ⟨tl, tm, hr⟩ := bind_some hr
    refine L_calls cal18 (args1 (rfl : _ = ti)) (dead_Decide_ok N _ _ _ tk tl tm) (by decide) (fun tn tp tq tr => ?_)
    have ts := Tch.ext tf tq
    obtain ⟨tt, tu, rfl, tv, tw⟩ := tr
    obtain rfl := tw.int
    refine mv (rfl : _ = Value.tuple #[tt, Value.int .i64 (tl.2)]) (L_extract (rfl : _ = Value.tuple #[tt, Value.int .i64 (tl.2)]) (k := 0) rfl (by decide) (L_extract (rfl : _ = Value.tuple #[tt, Value.int .i64 (tl.2)]) (k := 1) rfl (by decide) (L_store ty40 tg (rfl : _ = tt) tv (((((((((gw).ext u2).tch ud ((fun k hk => u6 k hk) kn rfl)).ext uk).tch uq ((fun k hk => uo k hk) kn rfl)).ext ux).tch t3 ((fun k hk => t1 k hk) kn rfl)).ext tc).ext tq) (fun tx ty tz => ?_))))
    have c0 := Tch.trans ts ty (fun k hk => Or.inr (by subst hk; exact (Nat.le_trans kh.size kp)))
    refine asg (rfl : _ = Value.int .i64 (tl.2)) (nn (sr (mv tj ?_)))
    obtain ⟨c1, c2, hr⟩ := bind_some hr
    refine L_calls cal22 (args2 (rfl : _ = ti) (rfl : _ = Value.int .i64 (0))) (dead_Show_ok N _ _ _ (tk.mono (tq.le.trans ty.le)) 0 c1 c2) (by decide) (fun c3 c4 c5 c6 => ?_)
    have c7 := Tch.ext c0 c5
    obtain ⟨c8, c9, rfl, ca, cb⟩ := c6
    obtain rfl := cb.int
    refine mv (rfl : _ = Value.tuple #[c8, Value.int .i64 (c1.2)]) (L_extract (rfl : _ = Value.tuple #[c8, Value.int .i64 (c1.2)]) (k := 0) rfl (by decide) (L_extract (rfl : _ = Value.tuple #[c8, Value.int .i64 (c1.2)]) (k := 1) rfl (by decide) (asg (rfl : _ = c8) (asg (rfl : _ = Value.int .i64 (c1.2)) (nn (sr (mv tj (L_buildSlice (xs := ([0, 0, 0] : List Int)) Try.underlying23 tyz3 (Parts_cons rfl (rfl : _ = Value.int .i64 (0)) (Parts_cons rfl (rfl : _ = Value.int .i64 (0)) (Parts_cons rfl (rfl : _ = Value.int .i64 (0)) Parts_nil))) (Vs.cons Vint (Vs.cons Vint (Vs.cons Vint Vs.nil))) rfl (by decide) (by decide) (fun cc cd ce cf cg => ?_)))))))))
    have ch := Tch.ext c7 ce
    obtain ⟨ci, cj, hr⟩ := bind_some hr
    refine L_calls cal11 (args3 (rfl : _ = ti) (rfl : _ = Value.int .i64 (0)) (rfl : _ = cd)) (dead_Follow_ok N _ _ _ (tk.mono (tq.le.trans (ty.le.trans (c5.le.trans ce.le)))) 0 _ _ cg ci cj) (by decide) (fun ck cl cm cn => ?_)
    have co := Tch.ext ch cm
    obtain ⟨cp, cq, cr, rfl, cs, ct, cu⟩ := cn
    obtain rfl := ct.bool
    obtain rfl := cu.int
    refine mv (rfl : _ = Value.tuple #[cp, Value.bool (ci.2.1), Value.int .i64 (ci.2.2)]) (L_extract (rfl : _ = Value.tuple #[cp, Value.bool (ci.2.1), Value.int .i64 (ci.2.2)]) (k := 0) rfl (by decide) (L_extract (rfl : _ = Value.tuple #[cp, Value.bool (ci.2.1), Value.int .i64 (ci.2.2)]) (k := 1) rfl (by decide) (L_extract (rfl : _ = Value.tuple #[cp, Value.bool (ci.2.1), Value.int .i64 (ci.2.2)]) (k := 2) rfl (by decide) (asg (rfl : _ = Value.int .i64 (ci.2.2)) (nn (W_seq ?_))))))
    obtain ⟨cv, cw, cx⟩ := bind_some hr
    refine W_seq_cut (fun f w => ∃ (s : St) (cy : Bool), s.w = w ∧ Ext s0 s ∧ Le cl s ∧ cy = cv ∧ f 115 = Value.bool cy ∧ f 2 = Value.pointer (some ⟨kn, 0, none⟩) ∧ Var s kn 40 tl.1) ?_ ?_
    ·have hr := cw
     refine W_region (L_load_var ty40 tg ((((tz).ext c5).ext ce).ext cm) (by decide) (fun cz d0 => L_bld40_0 (s := cl) (rfl : _ = Value.int .i64 (1)) (Vint : V _ _ (1 : Int)) (by decide) (fun d1 d2 => L_sne40 (rfl : _ = cz) d0 (rfl : _ = d1) d2 (by decide) (mv (rfl : _ = Value.bool (!decide (tl.1 = (⟨1, 0⟩ : Verdict)))) ?_))))
     rcases Bool.eq_false_or_eq_true (!decide (tl.1 = (⟨1, 0⟩ : Verdict))) with d3 | d3
     ·have hr := ite_t d3 hr; refine gf 98 (rfl : _ = Value.bool (!decide (tl.1 = (⟨1, 0⟩ : Verdict)))) d3 (gf 98 (rfl : _ = Value.bool (!decide (tl.1 = (⟨1, 0⟩ : Verdict)))) d3 (pt (rfl : _ = Value.bool (!decide (tl.1 = (⟨1, 0⟩ : Verdict)))) d3 (rfl : _ = Value.bool (true)) (mv (rfl : _ = Value.bool (true)) (gf 102 (rfl : _ = Value.bool (true)) rfl (gf 102 (rfl : _ = Value.bool (true)) rfl (pt (rfl : _ = Value.bool (true)) rfl (rfl : _ = Value.bool (true)) (mv (rfl : _ = Value.bool (true)) (gf 106 (rfl : _ = Value.bool (true)) rfl (gf 106 (rfl : _ = Value.bool (true)) rfl (pt (rfl : _ = Value.bool (true)) rfl (rfl : _ = Value.bool (true)) (mv (rfl : _ = Value.bool (true)) (gf 110 (rfl : _ = Value.bool (true)) rfl (gf 110 (rfl : _ = Value.bool (true)) rfl ?_))))))))))))); exact gf 110 (rfl : _ = Value.bool (true)) rfl (gf 110 (rfl : _ = Value.bool (true)) rfl (pt (rfl : _ = Value.bool (true)) rfl (rfl : _ = Value.bool (true)) (nn ⟨cl, true, rfl, co, (Le.refl _), Option.some.inj hr, rfl, tg, (((tz).ext c5).ext ce).ext cm⟩)))
     ·have hr := ite_f d3 hr
      refine gt 98 (rfl : _ = Value.bool (!decide (tl.1 = (⟨1, 0⟩ : Verdict)))) d3 (mv (rfl : _ = Value.int .i64 (tl.2)) (gt 98 (rfl : _ = Value.bool (!decide (tl.1 = (⟨1, 0⟩ : Verdict)))) d3 (L_neq (rfl : _ = Value.int .i64 (tl.2)) (rfl : _ = Value.int .i64 (0)) (by decide) (pf (rfl : _ = Value.bool (!decide (tl.1 = (⟨1, 0⟩ : Verdict)))) d3 (rfl : _ = Value.bool (!decide (tl.2 = 0))) (mv (rfl : _ = Value.bool (!decide (tl.2 = 0))) ?_)))))
      rcases Bool.eq_false_or_eq_true (!decide (tl.2 = 0)) with d4 | d4
      ·have hr := ite_t d4 hr; exact gf 102 (rfl : _ = Value.bool (!decide (tl.2 = 0))) d4 (gf 102 (rfl : _ = Value.bool (!decide (tl.2 = 0))) d4 (pt (rfl : _ = Value.bool (!decide (tl.2 = 0))) d4 (rfl : _ = Value.bool (true)) (mv (rfl : _ = Value.bool (true)) (gf 106 (rfl : _ = Value.bool (true)) rfl (gf 106 (rfl : _ = Value.bool (true)) rfl (pt (rfl : _ = Value.bool (true)) rfl (rfl : _ = Value.bool (true)) (mv (rfl : _ = Value.bool (true)) (gf 110 (rfl : _ = Value.bool (true)) rfl (gf 110 (rfl : _ = Value.bool (true)) rfl (gf 110 (rfl : _ = Value.bool (true)) rfl (gf 110 (rfl : _ = Value.bool (true)) rfl (pt (rfl : _ = Value.bool (true)) rfl (rfl : _ = Value.bool (true)) (nn ⟨cl, true, rfl, co, (Le.refl _), Option.some.inj hr, rfl, tg, (((tz).ext c5).ext ce).ext cm⟩)))))))))))))
      ·have hr := ite_f d4 hr
       refine gt 102 (rfl : _ = Value.bool (!decide (tl.2 = 0))) d4 (mv (rfl : _ = Value.int .i64 (c1.2)) (gt 102 (rfl : _ = Value.bool (!decide (tl.2 = 0))) d4 (L_neq (rfl : _ = Value.int .i64 (c1.2)) (rfl : _ = Value.int .i64 (0)) (by decide) (pf (rfl : _ = Value.bool (!decide (tl.2 = 0))) d4 (rfl : _ = Value.bool (!decide (c1.2 = 0))) (mv (rfl : _ = Value.bool (!decide (c1.2 = 0))) ?_)))))
       rcases Bool.eq_false_or_eq_true (!decide (c1.2 = 0)) with d5 | d5
       ·have hr := ite_t d5 hr; exact gf 106 (rfl : _ = Value.bool (!decide (c1.2 = 0))) d5 (gf 106 (rfl : _ = Value.bool (!decide (c1.2 = 0))) d5 (pt (rfl : _ = Value.bool (!decide (c1.2 = 0))) d5 (rfl : _ = Value.bool (true)) (mv (rfl : _ = Value.bool (true)) (gf 110 (rfl : _ = Value.bool (true)) rfl (gf 110 (rfl : _ = Value.bool (true)) rfl (gf 110 (rfl : _ = Value.bool (true)) rfl (gf 110 (rfl : _ = Value.bool (true)) rfl (pt (rfl : _ = Value.bool (true)) rfl (rfl : _ = Value.bool (true)) (nn ⟨cl, true, rfl, co, (Le.refl _), Option.some.inj hr, rfl, tg, (((tz).ext c5).ext ce).ext cm⟩)))))))))
       ·have hr := ite_f d5 hr
        refine gt 106 (rfl : _ = Value.bool (!decide (c1.2 = 0))) d5 (mv (rfl : _ = Value.int .i64 (ci.2.2)) (gt 106 (rfl : _ = Value.bool (!decide (c1.2 = 0))) d5 (L_neq (rfl : _ = Value.int .i64 (ci.2.2)) (rfl : _ = Value.int .i64 (6)) (by decide) (pf (rfl : _ = Value.bool (!decide (c1.2 = 0))) d5 (rfl : _ = Value.bool (!decide (ci.2.2 = 6))) (mv (rfl : _ = Value.bool (!decide (ci.2.2 = 6))) ?_)))))
        rcases Bool.eq_false_or_eq_true (!decide (ci.2.2 = 6)) with d6 | d6
        ·have hr := ite_t d6 hr; exact gf 110 (rfl : _ = Value.bool (!decide (ci.2.2 = 6))) d6 (gf 110 (rfl : _ = Value.bool (!decide (ci.2.2 = 6))) d6 (gf 110 (rfl : _ = Value.bool (!decide (ci.2.2 = 6))) d6 (gf 110 (rfl : _ = Value.bool (!decide (ci.2.2 = 6))) d6 (pt (rfl : _ = Value.bool (!decide (ci.2.2 = 6))) d6 (rfl : _ = Value.bool (true)) (nn ⟨cl, true, rfl, co, (Le.refl _), Option.some.inj hr, rfl, tg, (((tz).ext c5).ext ce).ext cm⟩)))))
        ·have hr := ite_f d6 hr; refine gt 110 (rfl : _ = Value.bool (!decide (ci.2.2 = 6))) d6 (mv (rfl : _ = c8) (gt 110 (rfl : _ = Value.bool (!decide (ci.2.2 = 6))) d6 (L_buildSlice (xs := ([0, 0, 1, 0, 1, 1] : List Int)) Try.underlying23 tyz3 (Parts_cons rfl (rfl : _ = Value.int .i64 (0)) (Parts_cons rfl (rfl : _ = Value.int .i64 (0)) (Parts_cons rfl (rfl : _ = Value.int .i64 (1)) (Parts_cons rfl (rfl : _ = Value.int .i64 (0)) (Parts_cons rfl (rfl : _ = Value.int .i64 (1)) (Parts_cons rfl (rfl : _ = Value.int .i64 (1)) Parts_nil)))))) (Vs.cons Vint (Vs.cons Vint (Vs.cons Vint (Vs.cons Vint (Vs.cons Vint (Vs.cons Vint Vs.nil)))))) rfl (by decide) (by decide) (fun d7 d8 d9 da db => ?_)))); have dc := Tch.ext co d9; refine gt 110 (rfl : _ = Value.bool (!decide (ci.2.2 = 6))) d6 ?_; obtain ⟨dd, de, hr⟩ := bind_some hr; refine L_calls cal14 (args2 (rfl : _ = c8) (rfl : _ = d8)) (ref01_SameInts_ok N _ _ _ (ca.mono (ce.le.trans (cm.le.trans d9.le))) _ _ db dd de) (by decide) (fun df dg dh di => ?_); have dj := Tch.ext dc dh; obtain rfl := di.bool; exact gt 110 (rfl : _ = Value.bool (!decide (ci.2.2 = 6))) d6 (L_not (rfl : _ = Value.bool (dd)) (by decide) (pf (rfl : _ = Value.bool (!decide (ci.2.2 = 6))) d6 (rfl : _ = Value.bool (!dd)) (nn ⟨dg, (!dd), rfl, dj, (d9.le.trans dh.le), Option.some.inj hr, rfl, tg, (((((tz).ext c5).ext ce).ext cm).ext d9).ext dh⟩)))
    ·rintro cz d0 ⟨d1, cy, rfl, d2, d3, cw, d4, d5, d6⟩
     subst cw
     have hr := cx
     try dsimp only at hr
     refine W_cond _ d4 (fun d7 => ?_) (fun d7 => ?_)
     ·have hr := ite_t d7 hr; refine sr (asg (rfl : _ = Value.bool (false)) (nn (W_ret (then_r ?_)))); obtain rfl := Option.some.inj hr; exact done1 (Or.inl rfl) Try.results10 rfl ⟨_, _, rfl, rfl, d2, Vbool⟩
     ·have hr := ite_f d7 hr
      refine W_skip (then_n (sr ?_))
      obtain ⟨d8, d9, hr⟩ := bind_some hr
      refine L_calls cal28 (args2 (rfl : _ = Value.int .i64 (1)) (rfl : _ = Value.int .i64 (0))) (law08_send_ok N _ 1 0 d8 d9) (by decide) (fun da db dc dd => ?_)
      have de := Tch.ext d2 dc
      obtain ⟨df, dg, hr⟩ := bind_some hr
      refine L_calls cal28 (args2 (rfl : _ = Value.int .i64 (1)) (rfl : _ = Value.int .i64 (0))) (law08_send_ok N _ 1 0 df dg) (by decide) (fun dh di dj dk => ?_)
      have dl := Tch.ext de dj
      obtain ⟨dm, dn, hr⟩ := bind_some hr
      refine L_calls cal28 (args2 (rfl : _ = Value.int .i64 (1)) (rfl : _ = Value.int .i64 (1))) (law08_send_ok N _ 1 1 dm dn) (by decide) (fun dp dq dr ds => ?_)
      have dt := Tch.ext dl dr
      refine L_buildSlice (xs := ([d8, df, dm] : List Deed)) Try.underlying59 tyz64 (Parts_cons rfl (rfl : _ = da) (Parts_cons rfl (rfl : _ = dh) (Parts_cons rfl (rfl : _ = dp) Parts_nil))) (Vs.cons (dd.mono (dj.le.trans dr.le)) (Vs.cons (dk.mono dr.le) (Vs.cons ds Vs.nil))) rfl (by decide) (by decide) (fun du dv dw dx dy => ?_)
      have dz := Tch.ext dt dw
      obtain ⟨p0, p1, hr⟩ := bind_some hr
      refine L_calls cal29 (args2 (rfl : _ = Value.int .i64 (0)) (rfl : _ = Value.int .i64 (1))) (law08_recv_ok N _ 0 1 p0 p1) (by decide) (fun p2 p3 p4 p5 => ?_)
      have p6 := Tch.ext dz p4
      obtain ⟨p7, p8, hr⟩ := bind_some hr
      refine L_calls cal29 (args2 (rfl : _ = Value.int .i64 (0)) (rfl : _ = Value.int .i64 (0))) (law08_recv_ok N _ 0 0 p7 p8) (by decide) (fun p9 pa pb pc => ?_)
      have pd := Tch.ext p6 pb
      obtain ⟨pe, pg, hr⟩ := bind_some hr
      refine L_calls cal29 (args2 (rfl : _ = Value.int .i64 (0)) (rfl : _ = Value.int .i64 (0))) (law08_recv_ok N _ 0 0 pe pg) (by decide) (fun ph pi pj pk => ?_)
      have pl := Tch.ext pd pj
      refine L_buildSlice (xs := ([p0, p7, pe] : List Deed)) Try.underlying59 tyz64 (Parts_cons rfl (rfl : _ = p2) (Parts_cons rfl (rfl : _ = p9) (Parts_cons rfl (rfl : _ = ph) Parts_nil))) (Vs.cons (p5.mono (pb.le.trans pj.le)) (Vs.cons (pc.mono pj.le) (Vs.cons pk Vs.nil))) rfl (by decide) (by decide) (fun pm pn po pp pq => ?_)
      have pr := Tch.ext pl po
      refine L_buildSlice (xs := ([([d8, df, dm] : List Deed), ([p0, p7, pe] : List Deed)] : List (List Deed))) Try.underlying29 tyz59 (Parts_cons rfl (rfl : _ = dv) (Parts_cons rfl (rfl : _ = pn) Parts_nil)) (Vs.cons (dy.mono (p4.le.trans (pb.le.trans (pj.le.trans po.le)))) (Vs.cons pq Vs.nil)) rfl (by decide) (by decide) (fun ps pu pv pw py => ?_)
      have pz := Tch.ext pr pv
      refine asg (rfl : _ = pu) (nn (sr (mv (rfl : _ = pu) ?_)))
      obtain ⟨q0, q1, hr⟩ := bind_some hr
      refine L_calls cal18 (args1 (rfl : _ = pu)) (dead_Decide_ok N _ _ _ py q0 q1) (by decide) (fun q2 q3 q4 q5 => ?_)
      have q6 := Tch.ext pz q4
      obtain ⟨q7, q8, rfl, q9, qa⟩ := q5
      obtain rfl := qa.int
      refine mv (rfl : _ = Value.tuple #[q7, Value.int .i64 (q0.2)]) (L_extract (rfl : _ = Value.tuple #[q7, Value.int .i64 (q0.2)]) (k := 0) rfl (by decide) (L_extract (rfl : _ = Value.tuple #[q7, Value.int .i64 (q0.2)]) (k := 1) rfl (by decide) (L_store ty40 d5 (rfl : _ = q7) q9 (((((((((((d6).ext dc).ext dj).ext dr).ext dw).ext p4).ext pb).ext pj).ext po).ext pv).ext q4) (fun qb qc qd => ?_))))
      have qe := Tch.trans q6 qc (fun k hk => Or.inr (by subst hk; exact (Nat.le_trans kh.size kp)))
      refine asg (rfl : _ = Value.int .i64 (q0.2)) (nn (sr ?_))
      obtain ⟨qf, qg, hr⟩ := bind_some hr
      refine L_calls cal29 (args2 (rfl : _ = Value.int .i64 (-1)) (rfl : _ = Value.int .i64 (3))) (law08_recv_ok N _ (-1) 3 qf qg) (by decide) (fun qh qi qj qk => ?_)
      have ql := Tch.ext qe qj
      obtain ⟨qm, qn, hr⟩ := bind_some hr
      refine L_calls cal29 (args2 (rfl : _ = Value.int .i64 (-1)) (rfl : _ = Value.int .i64 (3))) (law08_recv_ok N _ (-1) 3 qm qn) (by decide) (fun qo qp qq qr => ?_)
      have qs := Tch.ext ql qq
      refine L_buildSlice (xs := ([qf, qm] : List Deed)) Try.underlying59 tyz64 (Parts_cons rfl (rfl : _ = qh) (Parts_cons rfl (rfl : _ = qo) Parts_nil)) (Vs.cons (qk.mono qq.le) (Vs.cons qr Vs.nil)) rfl (by decide) (by decide) (fun qt qu qv qw qx => ?_)
      have qy := Tch.ext qs qv
      obtain ⟨qz, o0, hr⟩ := bind_some hr
      refine L_calls cal28 (args2 (rfl : _ = Value.int .i64 (0)) (rfl : _ = Value.int .i64 (3))) (law08_send_ok N _ 0 3 qz o0) (by decide) (fun o1 o2 o3 o4 => ?_)
      have o5 := Tch.ext qy o3
      refine L_buildSlice (xs := ([qz] : List Deed)) Try.underlying59 tyz64 (Parts_cons rfl (rfl : _ = o1) Parts_nil) (Vs.cons o4 Vs.nil) rfl (by decide) (by decide) (fun o6 o7 o8 o9 oa => ?_)
      have ob := Tch.ext o5 o8
      obtain ⟨oc, od, hr⟩ := bind_some hr
      refine L_calls cal28 (args2 (rfl : _ = Value.int .i64 (0)) (rfl : _ = Value.int .i64 (3))) (law08_send_ok N _ 0 3 oc od) (by decide) (fun oe og oh oi => ?_)
      have oj := Tch.ext ob oh
      refine L_buildSlice (xs := ([oc] : List Deed)) Try.underlying59 tyz64 (Parts_cons rfl (rfl : _ = oe) Parts_nil) (Vs.cons oi Vs.nil) rfl (by decide) (by decide) (fun ok ol om oo op => ?_)
      have oq := Tch.ext oj om
      refine L_buildSlice (xs := ([([qf, qm] : List Deed), ([qz] : List Deed), ([oc] : List Deed)] : List (List Deed))) Try.underlying29 tyz59 (Parts_cons rfl (rfl : _ = qu) (Parts_cons rfl (rfl : _ = o7) (Parts_cons rfl (rfl : _ = ol) Parts_nil))) (Vs.cons (qx.mono (o3.le.trans (o8.le.trans (oh.le.trans om.le)))) (Vs.cons (oa.mono (oh.le.trans om.le)) (Vs.cons op Vs.nil))) rfl (by decide) (by decide) (fun os ot ou ov ow => ?_)
      have ox := Tch.ext oq ou
      obtain ⟨oy, oz, hr⟩ := bind_some hr
      refine L_calls cal18 (args1 (rfl : _ = ot)) (dead_Decide_ok N _ _ _ ow oy oz) (by decide) (fun b0 b1 b2 b3 => ?_)
      have b4 := Tch.ext ox b2
      obtain ⟨b5, b6, rfl, b7, b8⟩ := b3
      obtain rfl := b8.int
      refine mv (rfl : _ = Value.tuple #[b5, Value.int .i64 (oy.2)]) (L_extract (rfl : _ = Value.tuple #[b5, Value.int .i64 (oy.2)]) (k := 0) rfl (by decide) (L_extract (rfl : _ = Value.tuple #[b5, Value.int .i64 (oy.2)]) (k := 1) rfl (by decide) (L_alloc (α := Verdict) (x := ⟨0, 0⟩) zero40 Verdict.zero_rel (by decide) (fun b9 ba bb bc bd => ?_))))
      have be := Tch.ext b4 bb
      have bf : ∀ k, (fun k => k = kn) k → ¬ (fun k => k = ba) k := fun k u7 u9 => by have ua := (fun k (hk : k = kn) => lt_at hk ((((((((((qd).ext qj).ext qq).ext qv).ext o3).ext o8).ext oh).ext om).ext ou).ext b2).lt) k u7; have ub := bc; subst u9; omega
      refine L_store_ro ty40 (rfl : _ = Value.pointer (some ⟨ba, 0, none⟩)) (rfl : _ = b5) (b7.mono bb.le) (bd) (fun bg bh bi => ?_)
      have bj := Tch.trans be bh (fun k hk => Or.inr (by subst hk; exact (Nat.le_trans b4.size bc)))
      refine asg (rfl : _ = Value.int .i64 (oy.2)) (nn (W_seq ?_))
      obtain ⟨bk, bl, bm⟩ := bind_some hr
      refine W_seq_cut (fun f w => ∃ (s : St) (bn : Bool), s.w = w ∧ Ext s0 s ∧ Le bg s ∧ bn = bk ∧ f 157 = Value.bool bn) ?_ ?_
      ·have hr := bl
       refine W_region (L_load_var ty40 d5 ((((((((((((qd).ext qj).ext qq).ext qv).ext o3).ext o8).ext oh).ext om).ext ou).ext b2).ext bb).tch bh ((fun k hk => bf k hk) kn rfl)) (by decide) (fun bo bp => L_bld40_0_1 (s := bg) (rfl : _ = Value.int .i64 (2)) (rfl : _ = Value.int .i64 (2)) (Vint : V _ _ (2 : Int)) (Vint : V _ _ (2 : Int)) (by decide) (fun bq br => L_sne40 (rfl : _ = bo) bp (rfl : _ = bq) br (by decide) (mv (rfl : _ = Value.bool (!decide (q0.1 = (⟨2, 2⟩ : Verdict)))) ?_))))
       rcases Bool.eq_false_or_eq_true (!decide (q0.1 = (⟨2, 2⟩ : Verdict))) with bs | bs
       ·have hr := ite_t bs hr; exact gf 145 (rfl : _ = Value.bool (!decide (q0.1 = (⟨2, 2⟩ : Verdict)))) bs (gf 145 (rfl : _ = Value.bool (!decide (q0.1 = (⟨2, 2⟩ : Verdict)))) bs (pt (rfl : _ = Value.bool (!decide (q0.1 = (⟨2, 2⟩ : Verdict)))) bs (rfl : _ = Value.bool (true)) (mv (rfl : _ = Value.bool (true)) (gf 149 (rfl : _ = Value.bool (true)) rfl (gf 149 (rfl : _ = Value.bool (true)) rfl (gf 149 (rfl : _ = Value.bool (true)) rfl (pt (rfl : _ = Value.bool (true)) rfl (rfl : _ = Value.bool (true)) (mv (rfl : _ = Value.bool (true)) (gf 154 (rfl : _ = Value.bool (true)) rfl (gf 154 (rfl : _ = Value.bool (true)) rfl (pt (rfl : _ = Value.bool (true)) rfl (rfl : _ = Value.bool (true)) (nn ⟨bg, true, rfl, bj, (Le.refl _), Option.some.inj hr, rfl⟩))))))))))))
       ·have hr := ite_f bs hr
        refine gt 145 (rfl : _ = Value.bool (!decide (q0.1 = (⟨2, 2⟩ : Verdict)))) bs (mv (rfl : _ = Value.int .i64 (q0.2)) (gt 145 (rfl : _ = Value.bool (!decide (q0.1 = (⟨2, 2⟩ : Verdict)))) bs (L_neq (rfl : _ = Value.int .i64 (q0.2)) (rfl : _ = Value.int .i64 (0)) (by decide) (pf (rfl : _ = Value.bool (!decide (q0.1 = (⟨2, 2⟩ : Verdict)))) bs (rfl : _ = Value.bool (!decide (q0.2 = 0))) (mv (rfl : _ = Value.bool (!decide (q0.2 = 0))) ?_)))))
        rcases Bool.eq_false_or_eq_true (!decide (q0.2 = 0)) with bt | bt
        ·have hr := ite_t bt hr; exact gf 149 (rfl : _ = Value.bool (!decide (q0.2 = 0))) bt (gf 149 (rfl : _ = Value.bool (!decide (q0.2 = 0))) bt (gf 149 (rfl : _ = Value.bool (!decide (q0.2 = 0))) bt (pt (rfl : _ = Value.bool (!decide (q0.2 = 0))) bt (rfl : _ = Value.bool (true)) (mv (rfl : _ = Value.bool (true)) (gf 154 (rfl : _ = Value.bool (true)) rfl (gf 154 (rfl : _ = Value.bool (true)) rfl (pt (rfl : _ = Value.bool (true)) rfl (rfl : _ = Value.bool (true)) (nn ⟨bg, true, rfl, bj, (Le.refl _), Option.some.inj hr, rfl⟩))))))))
        ·have hr := ite_f bt hr
         refine gt 149 (rfl : _ = Value.bool (!decide (q0.2 = 0))) bt (L_load ty40 (rfl : _ = Value.pointer (some ⟨ba, 0, none⟩)) bi (by decide) (fun bu bv => gt 149 (rfl : _ = Value.bool (!decide (q0.2 = 0))) bt (L_bld40_0 (s := bg) (rfl : _ = Value.int .i64 (4)) (Vint : V _ _ (4 : Int)) (by decide) (fun bw bx => gt 149 (rfl : _ = Value.bool (!decide (q0.2 = 0))) bt (L_sne40 (rfl : _ = bu) bv (rfl : _ = bw) bx (by decide) (pf (rfl : _ = Value.bool (!decide (q0.2 = 0))) bt (rfl : _ = Value.bool (!decide (oy.1 = (⟨4, 0⟩ : Verdict)))) (mv (rfl : _ = Value.bool (!decide (oy.1 = (⟨4, 0⟩ : Verdict)))) ?_)))))))
         rcases Bool.eq_false_or_eq_true (!decide (oy.1 = (⟨4, 0⟩ : Verdict))) with bz | bz
         ·have hr := ite_t bz hr; exact gf 154 (rfl : _ = Value.bool (!decide (oy.1 = (⟨4, 0⟩ : Verdict)))) bz (gf 154 (rfl : _ = Value.bool (!decide (oy.1 = (⟨4, 0⟩ : Verdict)))) bz (pt (rfl : _ = Value.bool (!decide (oy.1 = (⟨4, 0⟩ : Verdict)))) bz (rfl : _ = Value.bool (true)) (nn ⟨bg, true, rfl, bj, (Le.refl _), Option.some.inj hr, rfl⟩)))
         ·have hr := ite_f bz hr; exact gt 154 (rfl : _ = Value.bool (!decide (oy.1 = (⟨4, 0⟩ : Verdict)))) bz (mv (rfl : _ = Value.int .i64 (oy.2)) (gt 154 (rfl : _ = Value.bool (!decide (oy.1 = (⟨4, 0⟩ : Verdict)))) bz (L_neq (rfl : _ = Value.int .i64 (oy.2)) (rfl : _ = Value.int .i64 (0)) (by decide) (pf (rfl : _ = Value.bool (!decide (oy.1 = (⟨4, 0⟩ : Verdict)))) bz (rfl : _ = Value.bool (!decide (oy.2 = 0))) (nn ⟨bg, (!decide (oy.2 = 0)), rfl, bj, (Le.refl _), Option.some.inj hr, rfl⟩)))))
      ·rintro bo bp ⟨bq, bn, rfl, br, bs, bl, bt⟩
       subst bl
       have hr := bm
       try dsimp only at hr
       refine W_cond _ bt (fun bu => ?_) (fun bu => ?_)
       ·have hr := ite_t bu hr; refine sr (asg (rfl : _ = Value.bool (false)) (nn (W_ret (then_r ?_)))); obtain rfl := Option.some.inj hr; exact done1 (Or.inl rfl) Try.results10 rfl ⟨_, _, rfl, rfl, br, Vbool⟩
       ·have hr := ite_f bu hr
        refine W_skip (then_n (sr ?_))
        obtain ⟨bv, bw, hr⟩ := bind_some hr
        refine L_calls cal29 (args2 (rfl : _ = Value.int .i64 (1)) (rfl : _ = Value.int .i64 (0))) (law08_recv_ok N _ 1 0 bv bw) (by decide) (fun bx bz j00 j01 => ?_)
        have j02 := Tch.ext br j00
        refine L_buildSlice (xs := ([bv] : List Deed)) Try.underlying59 tyz64 (Parts_cons rfl (rfl : _ = bx) Parts_nil) (Vs.cons j01 Vs.nil) rfl (by decide) (by decide) (fun j03 j04 j05 j06 j07 => ?_)
        have j08 := Tch.ext j02 j05
        refine L_buildSlice (xs := ([] : List Deed)) Try.underlying59 tyz64 Parts_nil Vs.nil rfl (by decide) (by decide) (fun j09 j0a j0b j0c j0d => ?_)
        have j0e := Tch.ext j08 j0b
        refine L_buildSlice (xs := ([([bv] : List Deed), ([] : List Deed)] : List (List Deed))) Try.underlying29 tyz59 (Parts_cons rfl (rfl : _ = j04) (Parts_cons rfl (rfl : _ = j0a) Parts_nil)) (Vs.cons (j07.mono j0b.le) (Vs.cons j0d Vs.nil)) rfl (by decide) (by decide) (fun j0f j0g j0h j0i j0j => ?_)
        have j0k := Tch.ext j0e j0h
        obtain ⟨j0l, j0m, hr⟩ := bind_some hr
        refine L_calls cal24 (args2 (rfl : _ = j0g) (rfl : _ = Value.int .i64 (0))) (dead_Blocks_ok N _ _ _ j0j 0 j0l j0m) (by decide) (fun j0n j0o j0p j0q => ?_)
        have j0r := Tch.ext j0k j0p
        obtain ⟨j0s, j0t, rfl, j0u, j0v⟩ := j0q
        obtain rfl := j0v.int
        refine mv (rfl : _ = Value.tuple #[j0s, Value.int .i64 (j0l.2)]) (L_extract (rfl : _ = Value.tuple #[j0s, Value.int .i64 (j0l.2)]) (k := 0) rfl (by decide) (L_extract (rfl : _ = Value.tuple #[j0s, Value.int .i64 (j0l.2)]) (k := 1) rfl (by decide) (asg (rfl : _ = j0s) (asg (rfl : _ = Value.int .i64 (j0l.2)) (nn (sr ?_))))))
        obtain ⟨j0w, j0x, hr⟩ := bind_some hr
        refine L_calls cal29 (args2 (rfl : _ = Value.int .i64 (1)) (rfl : _ = Value.int .i64 (0))) (law08_recv_ok N _ 1 0 j0w j0x) (by decide) (fun j0y j0z j10 j11 => ?_)
        have j12 := Tch.ext j0r j10
        refine L_buildSlice (xs := ([j0w] : List Deed)) Try.underlying59 tyz64 (Parts_cons rfl (rfl : _ = j0y) Parts_nil) (Vs.cons j11 Vs.nil) rfl (by decide) (by decide) (fun j13 j14 j15 j16 j17 => ?_)
        have j18 := Tch.ext j12 j15
        refine L_buildSlice (xs := ([] : List Deed)) Try.underlying59 tyz64 Parts_nil Vs.nil rfl (by decide) (by decide) (fun j19 j1a j1b j1c j1d => ?_)
        have j1e := Tch.ext j18 j1b
        refine L_buildSlice (xs := ([([j0w] : List Deed), ([] : List Deed)] : List (List Deed))) Try.underlying29 tyz59 (Parts_cons rfl (rfl : _ = j14) (Parts_cons rfl (rfl : _ = j1a) Parts_nil)) (Vs.cons (j17.mono j1b.le) (Vs.cons j1d Vs.nil)) rfl (by decide) (by decide) (fun j1f j1g j1h j1i j1j => ?_)
        have j1k := Tch.ext j1e j1h
        obtain ⟨j1l, j1m, hr⟩ := bind_some hr
        refine L_calls cal18 (args1 (rfl : _ = j1g)) (dead_Decide_ok N _ _ _ j1j j1l j1m) (by decide) (fun j1n j1o j1p j1q => ?_)
        have j1r := Tch.ext j1k j1p
        obtain ⟨j1s, j1t, rfl, j1u, j1v⟩ := j1q
        obtain rfl := j1v.int
        refine mv (rfl : _ = Value.tuple #[j1s, Value.int .i64 (j1l.2)]) (L_extract (rfl : _ = Value.tuple #[j1s, Value.int .i64 (j1l.2)]) (k := 0) rfl (by decide) (L_extract (rfl : _ = Value.tuple #[j1s, Value.int .i64 (j1l.2)]) (k := 1) rfl (by decide) (L_alloc (α := Verdict) (x := ⟨0, 0⟩) zero40 Verdict.zero_rel (by decide) (fun j1w j1x j1y j1z j20 => ?_))))
        have j21 := Tch.ext j1r j1y
        refine L_store_ro ty40 (rfl : _ = Value.pointer (some ⟨j1x, 0, none⟩)) (rfl : _ = j1s) (j1u.mono j1y.le) (j20) (fun j22 j23 j24 => ?_)
        have j25 := Tch.trans j21 j23 (fun k hk => Or.inr (by subst hk; exact (Nat.le_trans j1r.size j1z)))
        refine asg (rfl : _ = Value.int .i64 (j1l.2)) (nn (sr (mv (rfl : _ = Value.int .i64 (j0l.2)) (L_eql (rfl : _ = Value.int .i64 (j0l.2)) (rfl : _ = Value.int .i64 (0)) (by decide) (mv (rfl : _ = Value.bool (decide (j0l.2 = 0))) ?_)))))
        rcases Bool.eq_false_or_eq_true (decide (j0l.2 = 0)) with j26 | j26
        ·have hr := ite_t j26 hr
         refine gt 176 (rfl : _ = Value.bool (decide (j0l.2 = 0))) j26 (mv (rfl : _ = Value.int .i64 (j1l.2)) (gt 176 (rfl : _ = Value.bool (decide (j0l.2 = 0))) j26 (L_eql (rfl : _ = Value.int .i64 (j1l.2)) (rfl : _ = Value.int .i64 (0)) (by decide) (pt (rfl : _ = Value.bool (decide (j0l.2 = 0))) j26 (rfl : _ = Value.bool (decide (j1l.2 = 0))) (mv (rfl : _ = Value.bool (decide (j1l.2 = 0))) ?_)))))
         rcases Bool.eq_false_or_eq_true (decide (j1l.2 = 0)) with j27 | j27
         ·have hr := ite_t j27 hr
          refine gt 180 (rfl : _ = Value.bool (decide (j1l.2 = 0))) j27 (mv (rfl : _ = j0s) (gt 180 (rfl : _ = Value.bool (decide (j1l.2 = 0))) j27 (L_len Try.underlying53 (rfl : _ = j0s) (j0u.mono (j10.le.trans (j15.le.trans (j1b.le.trans (j1h.le.trans (j1p.le.trans (j1y.le.trans j23.le))))))) (by decide) (gt 180 (rfl : _ = Value.bool (decide (j1l.2 = 0))) j27 (L_eql (rfl : _ = Value.int .i64 ((j0l.1.length : Int))) (rfl : _ = Value.int .i64 (1)) (by decide) (pt (rfl : _ = Value.bool (decide (j1l.2 = 0))) j27 (rfl : _ = Value.bool (decide ((j0l.1.length : Int) = 1))) (mv (rfl : _ = Value.bool (decide ((j0l.1.length : Int) = 1))) ?_)))))))
          rcases Bool.eq_false_or_eq_true (decide ((j0l.1.length : Int) = 1)) with j28 | j28
          ·have hr := ite_t j28 hr
           refine gt 185 (rfl : _ = Value.bool (decide ((j0l.1.length : Int) = 1))) j28 (mv (rfl : _ = j0s) (gt 185 (rfl : _ = Value.bool (decide ((j0l.1.length : Int) = 1))) j28 ?_))
           obtain ⟨j29, j2a, hr⟩ := bind_some hr
           refine L_index Try.underlying53 ty58.inf (rfl : _ = j0s) (j0u.mono (j10.le.trans (j15.le.trans (j1b.le.trans (j1h.le.trans (j1p.le.trans (j1y.le.trans j23.le))))))) (rfl : _ = Value.int .i64 (0)) j2a (by decide) (fun j2b j2c => gt 185 (rfl : _ = Value.bool (decide ((j0l.1.length : Int) = 1))) j28 (L_fieldAddr fld58_0 Block.of_Process (rfl : _ = j2b) j2c (by decide) (fun j2d j2e => gt 185 (rfl : _ = Value.bool (decide ((j0l.1.length : Int) = 1))) j28 (li ty3 (rfl : _ = j2d) j2e (gt 185 (rfl : _ = Value.bool (decide ((j0l.1.length : Int) = 1))) j28 (L_eql (rfl : _ = Value.int .i64 (j29.Proc)) (rfl : _ = Value.int .i64 (0)) (by decide) (pt (rfl : _ = Value.bool (decide ((j0l.1.length : Int) = 1))) j28 (rfl : _ = Value.bool (decide (j29.Proc = 0))) (mv (rfl : _ = Value.bool (decide (j29.Proc = 0))) ?_))))))))
           rcases Bool.eq_false_or_eq_true (decide (j29.Proc = 0)) with j2f | j2f
           ·have hr := ite_t j2f hr
            refine gt 192 (rfl : _ = Value.bool (decide (j29.Proc = 0))) j2f (mv (rfl : _ = j0s) (gt 192 (rfl : _ = Value.bool (decide (j29.Proc = 0))) j2f ?_))
            obtain ⟨j2g, j2h, hr⟩ := bind_some hr
            refine L_index Try.underlying53 ty58.inf (rfl : _ = j0s) (j0u.mono (j10.le.trans (j15.le.trans (j1b.le.trans (j1h.le.trans (j1p.le.trans (j1y.le.trans j23.le))))))) (rfl : _ = Value.int .i64 (0)) j2h (by decide) (fun j2i j2j => gt 192 (rfl : _ = Value.bool (decide (j29.Proc = 0))) j2f (L_fieldAddr fld58_2 Block.of_For (rfl : _ = j2i) j2j (by decide) (fun j2k j2l => gt 192 (rfl : _ = Value.bool (decide (j29.Proc = 0))) j2f (L_load ty23 (rfl : _ = j2k) j2l (by decide) (fun j2m j2n => gt 192 (rfl : _ = Value.bool (decide (j29.Proc = 0))) j2f (L_buildSlice (xs := ([1] : List Int)) Try.underlying23 tyz3 (Parts_cons rfl (rfl : _ = Value.int .i64 (1)) Parts_nil) (Vs.cons Vint Vs.nil) rfl (by decide) (by decide) (fun j2o j2p j2q j2r j2s => ?_)))))))
            have j2t := Tch.ext j25 j2q
            refine gt 192 (rfl : _ = Value.bool (decide (j29.Proc = 0))) j2f ?_
            obtain ⟨j2u, j2v, hr⟩ := bind_some hr
            refine L_calls cal14 (args2 (rfl : _ = j2m) (rfl : _ = j2p)) (ref01_SameInts_ok N _ _ _ (j2n.mono j2q.le) _ _ j2s j2u j2v) (by decide) (fun j2w j2x j2y j2z => ?_)
            have j30 := Tch.ext j2t j2y
            obtain rfl := j2z.bool
            refine pt (rfl : _ = Value.bool (decide (j29.Proc = 0))) j2f (rfl : _ = Value.bool (j2u)) (mv (rfl : _ = Value.bool (j2u)) ?_)
            rcases Bool.eq_false_or_eq_true (j2u) with j31 | j31
            ·have hr := ite_t j31 hr; refine gt 200 (rfl : _ = Value.bool (j2u)) j31 (L_fieldAddr fld40_0 Verdict.of_Kind (rfl : _ = Value.pointer (some ⟨j1x, 0, none⟩)) (j24.mono (j2q.le.trans j2y.le)) (by decide) (fun j32 j33 => gt 200 (rfl : _ = Value.bool (j2u)) j31 (li ty3 (rfl : _ = j32) j33 (gt 200 (rfl : _ = Value.bool (j2u)) j31 (L_eql (rfl : _ = Value.int .i64 (j1l.1.Kind)) (rfl : _ = Value.int .i64 (3)) (by decide) (pt (rfl : _ = Value.bool (j2u)) j31 (rfl : _ = Value.bool (decide (j1l.1.Kind = 3))) (asg (rfl : _ = Value.bool (decide (j1l.1.Kind = 3))) (nn (W_ret ?_))))))))); obtain rfl := Option.some.inj hr; exact done1 (Or.inl rfl) Try.results10 rfl ⟨_, _, rfl, rfl, j30, Vbool⟩
            ·have hr := ite_f j31 hr; refine gf 200 (rfl : _ = Value.bool (j2u)) j31 (gf 200 (rfl : _ = Value.bool (j2u)) j31 (gf 200 (rfl : _ = Value.bool (j2u)) j31 (pf (rfl : _ = Value.bool (j2u)) j31 (rfl : _ = Value.bool (false)) (asg (rfl : _ = Value.bool (false)) (nn (W_ret ?_)))))); obtain rfl := Option.some.inj hr; exact done1 (Or.inl rfl) Try.results10 rfl ⟨_, _, rfl, rfl, j30, Vbool⟩
           ·have hr := ite_f j2f hr; refine gf 192 (rfl : _ = Value.bool (decide (j29.Proc = 0))) j2f (gf 192 (rfl : _ = Value.bool (decide (j29.Proc = 0))) j2f (gf 192 (rfl : _ = Value.bool (decide (j29.Proc = 0))) j2f (gf 192 (rfl : _ = Value.bool (decide (j29.Proc = 0))) j2f (gf 192 (rfl : _ = Value.bool (decide (j29.Proc = 0))) j2f (gf 192 (rfl : _ = Value.bool (decide (j29.Proc = 0))) j2f (pf (rfl : _ = Value.bool (decide (j29.Proc = 0))) j2f (rfl : _ = Value.bool (false)) (mv (rfl : _ = Value.bool (false)) (gf 200 (rfl : _ = Value.bool (false)) rfl (gf 200 (rfl : _ = Value.bool (false)) rfl (gf 200 (rfl : _ = Value.bool (false)) rfl (pf (rfl : _ = Value.bool (false)) rfl (rfl : _ = Value.bool (false)) (asg (rfl : _ = Value.bool (false)) (nn ?_))))))))))))); refine W_ret ?_; obtain rfl := Option.some.inj hr; exact done1 (Or.inl rfl) Try.results10 rfl ⟨_, _, rfl, rfl, j25, Vbool⟩
          ·have hr := ite_f j28 hr; refine gf 185 (rfl : _ = Value.bool (decide ((j0l.1.length : Int) = 1))) j28 (gf 185 (rfl : _ = Value.bool (decide ((j0l.1.length : Int) = 1))) j28 (gf 185 (rfl : _ = Value.bool (decide ((j0l.1.length : Int) = 1))) j28 (gf 185 (rfl : _ = Value.bool (decide ((j0l.1.length : Int) = 1))) j28 (gf 185 (rfl : _ = Value.bool (decide ((j0l.1.length : Int) = 1))) j28 (pf (rfl : _ = Value.bool (decide ((j0l.1.length : Int) = 1))) j28 (rfl : _ = Value.bool (false)) (mv (rfl : _ = Value.bool (false)) (gf 192 (rfl : _ = Value.bool (false)) rfl (gf 192 (rfl : _ = Value.bool (false)) rfl (gf 192 (rfl : _ = Value.bool (false)) rfl (gf 192 (rfl : _ = Value.bool (false)) rfl (gf 192 (rfl : _ = Value.bool (false)) rfl (gf 192 (rfl : _ = Value.bool (false)) rfl (pf (rfl : _ = Value.bool (false)) rfl (rfl : _ = Value.bool (false)) ?_))))))))))))); refine mv (rfl : _ = Value.bool (false)) (gf 200 (rfl : _ = Value.bool (false)) rfl (gf 200 (rfl : _ = Value.bool (false)) rfl (gf 200 (rfl : _ = Value.bool (false)) rfl (pf (rfl : _ = Value.bool (false)) rfl (rfl : _ = Value.bool (false)) (asg (rfl : _ = Value.bool (false)) (nn (W_ret ?_))))))); obtain rfl := Option.some.inj hr; exact done1 (Or.inl rfl) Try.results10 rfl ⟨_, _, rfl, rfl, j25, Vbool⟩
         ·have hr := ite_f j27 hr; refine gf 180 (rfl : _ = Value.bool (decide (j1l.2 = 0))) j27 (gf 180 (rfl : _ = Value.bool (decide (j1l.2 = 0))) j27 (gf 180 (rfl : _ = Value.bool (decide (j1l.2 = 0))) j27 (pf (rfl : _ = Value.bool (decide (j1l.2 = 0))) j27 (rfl : _ = Value.bool (false)) (mv (rfl : _ = Value.bool (false)) (gf 185 (rfl : _ = Value.bool (false)) rfl (gf 185 (rfl : _ = Value.bool (false)) rfl (gf 185 (rfl : _ = Value.bool (false)) rfl (gf 185 (rfl : _ = Value.bool (false)) rfl (gf 185 (rfl : _ = Value.bool (false)) rfl (pf (rfl : _ = Value.bool (false)) rfl (rfl : _ = Value.bool (false)) (mv (rfl : _ = Value.bool (false)) (gf 192 (rfl : _ = Value.bool (false)) rfl (gf 192 (rfl : _ = Value.bool (false)) rfl ?_))))))))))))); refine gf 192 (rfl : _ = Value.bool (false)) rfl (gf 192 (rfl : _ = Value.bool (false)) rfl (gf 192 (rfl : _ = Value.bool (false)) rfl (gf 192 (rfl : _ = Value.bool (false)) rfl (pf (rfl : _ = Value.bool (false)) rfl (rfl : _ = Value.bool (false)) (mv (rfl : _ = Value.bool (false)) (gf 200 (rfl : _ = Value.bool (false)) rfl (gf 200 (rfl : _ = Value.bool (false)) rfl (gf 200 (rfl : _ = Value.bool (false)) rfl (pf (rfl : _ = Value.bool (false)) rfl (rfl : _ = Value.bool (false)) (asg (rfl : _ = Value.bool (false)) (nn (W_ret ?_)))))))))))); obtain rfl := Option.some.inj hr; exact done1 (Or.inl rfl) Try.results10 rfl ⟨_, _, rfl, rfl, j25, Vbool⟩
        ·have hr := ite_f j26 hr; refine gf 176 (rfl : _ = Value.bool (decide (j0l.2 = 0))) j26 (gf 176 (rfl : _ = Value.bool (decide (j0l.2 = 0))) j26 (pf (rfl : _ = Value.bool (decide (j0l.2 = 0))) j26 (rfl : _ = Value.bool (false)) (mv (rfl : _ = Value.bool (false)) (gf 180 (rfl : _ = Value.bool (false)) rfl (gf 180 (rfl : _ = Value.bool (false)) rfl (gf 180 (rfl : _ = Value.bool (false)) rfl (pf (rfl : _ = Value.bool (false)) rfl (rfl : _ = Value.bool (false)) (mv (rfl : _ = Value.bool (false)) (gf 185 (rfl : _ = Value.bool (false)) rfl (gf 185 (rfl : _ = Value.bool (false)) rfl (gf 185 (rfl : _ = Value.bool (false)) rfl (gf 185 (rfl : _ = Value.bool (false)) rfl (gf 185 (rfl : _ = Value.bool (false)) rfl ?_))))))))))))); refine pf (rfl : _ = Value.bool (false)) rfl (rfl : _ = Value.bool (false)) (mv (rfl : _ = Value.bool (false)) (gf 192 (rfl : _ = Value.bool (false)) rfl (gf 192 (rfl : _ = Value.bool (false)) rfl (gf 192 (rfl : _ = Value.bool (false)) rfl (gf 192 (rfl : _ = Value.bool (false)) rfl (gf 192 (rfl : _ = Value.bool (false)) rfl (gf 192 (rfl : _ = Value.bool (false)) rfl (pf (rfl : _ = Value.bool (false)) rfl (rfl : _ = Value.bool (false)) (mv (rfl : _ = Value.bool (false)) (gf 200 (rfl : _ = Value.bool (false)) rfl (gf 200 (rfl : _ = Value.bool (false)) rfl (gf 200 (rfl : _ = Value.bool (false)) rfl (pf (rfl : _ = Value.bool (false)) rfl (rfl : _ = Value.bool (false)) ?_))))))))))))); refine asg (rfl : _ = Value.bool (false)) (nn (W_ret ?_)); obtain rfl := Option.some.inj hr; exact done1 (Or.inl rfl) Try.results10 rfl ⟨_, _, rfl, rfl, j25, Vbool⟩

theorem law08_light_ok (N : Nat) (s0 : St) (w0 : Value) (a0 : List (List Deed)) (h0 : V s0 w0 a0) (r : Bool) (hr : law08_light N a0 = some r) :
    Calls Try.prog 20 #[w0] s0.w (Ret s0 fun v s => V s v r) := by
 unfold law08_light at hr
 have j0 := Ext.refl s0
 refine Calls_of (n := 35) (args := [w0]) Try.func20 rfl rfl (by simp) (sr (asg (rfl : _ = Value.bool (false)) (nn (W_seq ?_))))
 obtain ⟨j1, j2, j3⟩ := bind_some hr
 refine W_seq_cut (fun f w => ∃ (s : St) (j4 : Bool), s.w = w ∧ Ext s0 s ∧ Le s0 s ∧ j4 = j1 ∧ f 14 = Value.bool j4 ∧ f 0 = w0) ?_ ?_
 ·have hr := j2
  refine W_region (mv (rfl : _ = w0) (L_len Try.underlying29 (rfl : _ = w0) h0 (by decide) (L_gtr (rfl : _ = Value.int .i64 ((a0.length : Int))) (rfl : _ = Value.int .i64 (6)) (by decide) (mv (rfl : _ = Value.bool (decide (6 < (a0.length : Int)))) ?_))))
  rcases Bool.eq_false_or_eq_true (decide (6 < (a0.length : Int))) with j5 | j5
  ·have hr := ite_t j5 hr; exact gf 10 (rfl : _ = Value.bool (decide (6 < (a0.length : Int)))) j5 (gf 10 (rfl : _ = Value.bool (decide (6 < (a0.length : Int)))) j5 (gf 10 (rfl : _ = Value.bool (decide (6 < (a0.length : Int)))) j5 (pt (rfl : _ = Value.bool (decide (6 < (a0.length : Int)))) j5 (rfl : _ = Value.bool (true)) (nn ⟨s0, true, rfl, j0, (Le.refl _), Option.some.inj hr, rfl, rfl⟩))))
  ·have hr := ite_f j5 hr; refine gt 10 (rfl : _ = Value.bool (decide (6 < (a0.length : Int)))) j5 (mv (rfl : _ = w0) (gt 10 (rfl : _ = Value.bool (decide (6 < (a0.length : Int)))) j5 ?_)); obtain ⟨j6, j7, hr⟩ := bind_some hr; refine L_calls cal27 (args1 (rfl : _ = w0)) (dead_Check_ok N _ _ _ h0 j6 j7) (by decide) (fun j8 j9 ja jb => ?_); have jc := Tch.ext j0 ja; obtain rfl := jb.int; exact gt 10 (rfl : _ = Value.bool (decide (6 < (a0.length : Int)))) j5 (L_neq (rfl : _ = Value.int .i64 (j6)) (rfl : _ = Value.int .i64 (0)) (by decide) (pf (rfl : _ = Value.bool (decide (6 < (a0.length : Int)))) j5 (rfl : _ = Value.bool (!decide (j6 = 0))) (nn ⟨j9, (!decide (j6 = 0)), rfl, jc, ja.le, Option.some.inj hr, rfl, rfl⟩)))
 ·rintro j5 j6 ⟨j7, j4, rfl, j8, j9, j2, ja, jb⟩
  subst j2
  have hr := j3
  try dsimp only at hr
  refine W_cond _ ja (fun jc => ?_) (fun jc => ?_)
  ·have hr := ite_t jc hr; refine sr (asg (rfl : _ = Value.bool (false)) (nn (W_ret (then_r ?_)))); obtain rfl := Option.some.inj hr; exact done1 (Or.inl rfl) Try.results20 rfl ⟨_, _, rfl, rfl, j8, Vbool⟩
  ·have hr := ite_f jc hr
   refine W_skip (then_n (W_seq (sr (mv jb (L_len Try.underlying29 (rfl : _ = w0) (h0.mono j9) (by decide) (mv (rfl : _ = Value.int .i64 (0)) (nn ?_)))))))
   obtain ⟨jd, je, jf⟩ := bind_some hr
   refine W_cut (fun f w => ∃ (s : St), s.w = w ∧ Ext s0 s ∧ Le j7 s ∧ Sum.inl () = jd) ?_ ?_
   ·refine W_block (W_loop (fun m f w => ∃ (s : St) (jg : Int), s.w = w ∧ Ext s0 s ∧ Le j7 s ∧ law08_light_l1 N a0 m jg = some jd ∧ f 17 = Value.int .i64 jg ∧ f 15 = w0 ∧ f 16 = Value.int .i64 ((a0.length : Int))) N ⟨j7, 0, rfl, j8, (Le.refl _), je, rfl, rfl, rfl⟩ ?_)
    rintro jh ji jj ⟨jk, jg, rfl, jl, jm, hr, jn, jo, jp⟩
    cases jh with
    | zero => exact absurd hr (by simp [law08_light_l1])
    | succ jh =>
     rw [law08_light_l1.eq_2] at hr
     refine sr (L_lss jn jp (by decide) (nn (W_seq ?_)))
     refine W_cond _ (rfl : _ = Value.bool (decide (jg < (a0.length : Int)))) (fun jq => ?_) (fun jq => ?_)
     ·have hr := ite_t jq hr
      refine W_skip (then_n (W_seq (W_block (sr ?_))))
      obtain ⟨jr, js, hr⟩ := bind_some hr
      refine L_index Try.underlying29 ty59.inf jo (h0.mono (j9.trans jm)) jn js (by decide) (fun jt ju => L_load ty59 (rfl : _ = jt) ju (by decide) (fun jv jw => asg (rfl : _ = jv) (nn (W_seq (sr (mv (rfl : _ = jv) (L_len Try.underlying59 (rfl : _ = jv) jw (by decide) (L_gtr (rfl : _ = Value.int .i64 ((jr.length : Int))) (rfl : _ = Value.int .i64 (20)) (by decide) (nn ?_)))))))))
      refine W_cond _ (rfl : _ = Value.bool (decide (20 < (jr.length : Int)))) (fun jx => ?_) (fun jx => ?_)
      ·have hr := ite_t jx hr; refine sr (asg (rfl : _ = Value.bool (false)) (nn (W_ret (then_r (block_r (then_r (then_r (block_r ?_)))))))); obtain rfl := Option.some.inj hr; have hr := jf; (try dsimp only at hr); refine then_r (then_r ?_); obtain rfl := Option.some.inj hr; exact done1 (Or.inl rfl) Try.results20 rfl ⟨_, _, rfl, rfl, jl, Vbool⟩
      ·have hr := ite_f jx hr
       refine W_skip (then_n (sr (mv (rfl : _ = jv) (L_len Try.underlying59 (rfl : _ = jv) jw (by decide) (mv (rfl : _ = Value.int .i64 (0)) (nn ?_))))))
       obtain ⟨jy, jz, k0⟩ := bind_some hr
       refine W_cut (fun f w => ∃ (s : St), s.w = w ∧ Ext s0 s ∧ Le jk s ∧ Sum.inl () = jy ∧ f 15 = w0 ∧ f 16 = Value.int .i64 ((a0.length : Int)) ∧ f 17 = Value.int .i64 (jg)) ?_ ?_
       ·refine W_block (W_loop (fun m f w => ∃ (s : St) (k1 : Int), s.w = w ∧ Ext s0 s ∧ Le jk s ∧ law08_light_l2 N jr m k1 = some jy ∧ f 26 = Value.int .i64 k1 ∧ f 15 = w0 ∧ f 16 = Value.int .i64 ((a0.length : Int)) ∧ f 17 = Value.int .i64 (jg) ∧ f 24 = jv ∧ f 25 = Value.int .i64 ((jr.length : Int))) N ⟨jk, 0, rfl, jl, (Le.refl _), jz, rfl, jo, jp, jn, rfl, rfl⟩ ?_)
        rintro k2 k3 k4 ⟨k5, k1, rfl, k6, k7, hr, k8, k9, ka, kb, kc, kd⟩
        cases k2 with
        | zero => exact absurd hr (by simp [law08_light_l2])
        | succ k2 =>
         rw [law08_light_l2.eq_2] at hr
         refine sr (L_lss k8 kd (by decide) (nn (W_seq ?_)))
         refine W_cond _ (rfl : _ = Value.bool (decide (k1 < (jr.length : Int)))) (fun ke => ?_) (fun ke => ?_)
         ·have hr := ite_t ke hr
          refine W_skip (then_n (W_seq (W_block (sr ?_))))
          obtain ⟨kf, kg, hr⟩ := bind_some hr
          refine L_index Try.underlying59 ty64.inf kc (jw.mono k7) k8 kg (by decide) (fun kh ki => L_load ty64 (rfl : _ = kh) ki (by decide) (fun kj kk => L_alloc (α := Deed) (x := ⟨0, 0, 0, 0, false⟩) zero64 Deed.zero_rel (by decide) (fun kl km kn ko kp => ?_)))
          have kq := Tch.ext k6 kn
          refine L_store_ro ty64 (rfl : _ = Value.pointer (some ⟨km, 0, none⟩)) (rfl : _ = kj) (kk.mono kn.le) (kp) (fun kr ks kt => ?_)
          have ku := Tch.trans kq ks (fun k hk => Or.inr (by subst hk; exact (Nat.le_trans k6.size ko)))
          refine nn (sr (L_fieldAddr fld64_1 Deed.of_Peer (rfl : _ = Value.pointer (some ⟨km, 0, none⟩)) kt (by decide) (fun kv kw => li ty3 (rfl : _ = kv) kw (L_eql (rfl : _ = Value.int .i64 (kf.Peer)) (rfl : _ = Value.int .i64 (-1)) (by decide) (nn ?_)))))
          refine W_cond _ (rfl : _ = Value.bool (decide (kf.Peer = (-1)))) (fun kx => ?_) (fun kx => ?_)
          ·have hr := ite_t kx hr; refine sr (asg (rfl : _ = Value.bool (false)) (nn (W_ret (block_r (then_r (then_r (block_r ?_))))))); obtain rfl := Option.some.inj hr; have hr := k0; (try dsimp only at hr); refine then_r (block_r (then_r (then_r (block_r ?_)))); obtain rfl := Option.some.inj hr; have hr := jf; (try dsimp only at hr); refine then_r (then_r ?_); obtain rfl := Option.some.inj hr; exact done1 (Or.inl rfl) Try.results20 rfl ⟨_, _, rfl, rfl, ku, Vbool⟩
          ·have hr := ite_f kx hr; refine W_skip (block_n (then_n (W_region ?_))); obtain ⟨ky, hr⟩ := chk_some hr; exact L_add k8 (rfl : _ = Value.int .i64 (1)) ky (by decide) (mv (rfl : _ = Value.int .i64 (k1 + 1)) (nn ⟨k2, Nat.lt_succ_self _, ⟨kr, (k1 + 1), rfl, ku, (k7.trans (kn.le.trans ks.le)), hr, rfl, k9, ka, kb, kc, kd⟩⟩))
         ·have hr := ite_f ke hr; refine W_exit (then_x (then_x (block_here ?_))); exact then_n ⟨k5, rfl, k6, k7, Option.some.inj hr, k9, ka, kb⟩
       ·rintro k1 k2 ⟨k3, rfl, k4, k5, jz, k6, k7, k8⟩; subst jz; have hr := k0; (try dsimp only at hr); refine block_n (then_n (W_region ?_)); obtain ⟨k9, hr⟩ := chk_some hr; exact L_add k8 (rfl : _ = Value.int .i64 (1)) k9 (by decide) (mv (rfl : _ = Value.int .i64 (jg + 1)) (nn ⟨jh, Nat.lt_succ_self _, ⟨k3, (jg + 1), rfl, k4, (jm.trans k5), hr, rfl, k6, k7⟩⟩))
     ·have hr := ite_f jq hr; refine W_exit (then_x (then_x (block_here ?_))); exact then_n ⟨jk, rfl, jl, jm, Option.some.inj hr⟩
   ·rintro jg jh ⟨ji, rfl, jj, jk, je⟩; subst je; have hr := jf; (try dsimp only at hr); refine then_n (sr (asg (rfl : _ = Value.bool (true)) (nn (W_ret ?_)))); obtain rfl := Option.some.inj hr; exact done1 (Or.inl rfl) Try.results20 rfl ⟨_, _, rfl, rfl, jj, Vbool⟩

theorem law08_ends_ok (N : Nat) (s0 : St) (w0 : Value) (a0 : List (List Deed)) (h0 : V s0 w0 a0) (a1 : Int) (r : (List Int) × Bool × Bool) (hr : law08_ends N a0 a1 = some r) :
    Calls Try.prog 21 #[w0, .int .i64 a1] s0.w (Ret s0 fun v s => ∃ a b c, v = .tuple #[a, b, c] ∧ V s a r.1 ∧ V s b r.2.1 ∧ V s c r.2.2) := by
 unfold law08_ends at hr
 have j0 := Ext.refl s0
 refine Calls_of (n := 58) (args := [w0, .int .i64 a1]) Try.func21 rfl rfl (by simp) (sr (asg (rfl : _ = Value.slice none 0 0) (asg (rfl : _ = Value.bool (false)) (asg (rfl : _ = Value.bool (false)) (nn (sr (mv (rfl : _ = w0) (mv (rfl : _ = Value.int .i64 (a1)) ?_))))))))
 obtain ⟨j1, j2, hr⟩ := bind_some hr
 refine L_calls cal30 (args2 (rfl : _ = w0) (rfl : _ = Value.int .i64 (a1))) (dead_End_ok N _ _ _ h0 a1 j1 j2) (by decide) (fun j3 j4 j5 j6 => ?_)
 have j7 := Tch.ext j0 j5
 obtain ⟨j8, j9, rfl, ja, jb⟩ := j6
 obtain rfl := jb.int
 refine mv (rfl : _ = Value.tuple #[j8, Value.int .i64 (j1.2)]) (L_extract (rfl : _ = Value.tuple #[j8, Value.int .i64 (j1.2)]) (k := 0) rfl (by decide) (L_extract (rfl : _ = Value.tuple #[j8, Value.int .i64 (j1.2)]) (k := 1) rfl (by decide) (asg (rfl : _ = j8) (asg (rfl : _ = Value.int .i64 (j1.2)) (nn (W_seq ?_))))))
 obtain ⟨jc, jd, je⟩ := bind_some hr
 refine W_seq_cut (fun f w => ∃ (s : St) (jf : Bool), s.w = w ∧ Ext s0 s ∧ Le j4 s ∧ jf = jc ∧ f 26 = Value.bool jf ∧ f 0 = w0 ∧ f 7 = j8) ?_ ?_
 ·have hr := jd
  refine W_region (mv (rfl : _ = Value.int .i64 (j1.2)) (L_neq (rfl : _ = Value.int .i64 (j1.2)) (rfl : _ = Value.int .i64 (0)) (by decide) (mv (rfl : _ = Value.bool (!decide (j1.2 = 0))) ?_)))
  rcases Bool.eq_false_or_eq_true (!decide (j1.2 = 0)) with jg | jg
  ·have hr := ite_t jg hr; exact gf 20 (rfl : _ = Value.bool (!decide (j1.2 = 0))) jg (gf 20 (rfl : _ = Value.bool (!decide (j1.2 = 0))) jg (gf 20 (rfl : _ = Value.bool (!decide (j1.2 = 0))) jg (gf 20 (rfl : _ = Value.bool (!decide (j1.2 = 0))) jg (gf 20 (rfl : _ = Value.bool (!decide (j1.2 = 0))) jg (pt (rfl : _ = Value.bool (!decide (j1.2 = 0))) jg (rfl : _ = Value.bool (true)) (nn ⟨j4, true, rfl, j7, (Le.refl _), Option.some.inj hr, rfl, rfl, rfl⟩))))))
  ·have hr := ite_f jg hr; exact gt 20 (rfl : _ = Value.bool (!decide (j1.2 = 0))) jg (mv (rfl : _ = j8) (gt 20 (rfl : _ = Value.bool (!decide (j1.2 = 0))) jg (L_len Try.underlying23 (rfl : _ = j8) ja (by decide) (gt 20 (rfl : _ = Value.bool (!decide (j1.2 = 0))) jg (mv (rfl : _ = w0) (gt 20 (rfl : _ = Value.bool (!decide (j1.2 = 0))) jg (L_len Try.underlying29 (rfl : _ = w0) (h0.mono j5.le) (by decide) (gt 20 (rfl : _ = Value.bool (!decide (j1.2 = 0))) jg (L_neq (rfl : _ = Value.int .i64 ((j1.1.length : Int))) (rfl : _ = Value.int .i64 ((a0.length : Int))) (by decide) (pf (rfl : _ = Value.bool (!decide (j1.2 = 0))) jg (rfl : _ = Value.bool (!decide ((j1.1.length : Int) = (a0.length : Int)))) (nn ⟨j4, (!decide ((j1.1.length : Int) = (a0.length : Int))), rfl, j7, (Le.refl _), Option.some.inj hr, rfl, rfl, rfl⟩)))))))))))
 ·rintro jg jh ⟨ji, jf, rfl, jj, jk, jd, jl, jm, jn⟩
  subst jd
  have hr := je
  try dsimp only at hr
  refine W_cond _ jl (fun jo => ?_) (fun jo => ?_)
  ·have hr := ite_t jo hr; refine sr (asg (rfl : _ = Value.slice none 0 0) (asg (rfl : _ = Value.bool (false)) (asg (rfl : _ = Value.bool (false)) (nn (W_ret (then_r ?_)))))); obtain rfl := Option.some.inj hr; exact done3 (Or.inl rfl) Try.results21 rfl rfl rfl ⟨_, _, rfl, rfl, jj, _, _, _, rfl, Vnil, Vbool, Vbool⟩
  ·have hr := ite_f jo hr
   refine W_skip (then_n (sr (asg (rfl : _ = Value.bool (true)) (nn (W_seq (sr (mv jn (L_len Try.underlying23 (rfl : _ = j8) (ja.mono jk) (by decide) (mv (rfl : _ = Value.int .i64 (0)) (nn ?_))))))))))
   obtain ⟨jp, jq, jr⟩ := bind_some hr
   refine W_cut (fun f w => ∃ (s : St) (js : Bool), s.w = w ∧ Ext s0 s ∧ Le ji s ∧ Sum.inl js = jp ∧ f 9 = Value.bool js ∧ f 7 = j8) ?_ ?_
   ·refine W_block (W_loop (fun m f w => ∃ (s : St) (jt : Bool) (ju : Int), s.w = w ∧ Ext s0 s ∧ Le ji s ∧ law08_ends_l1 N a0 j1 m jt ju = some jp ∧ f 9 = Value.bool jt ∧ f 29 = Value.int .i64 ju ∧ f 0 = w0 ∧ f 7 = j8 ∧ f 27 = j8 ∧ f 28 = Value.int .i64 ((j1.1.length : Int))) N ⟨ji, true, 0, rfl, jj, (Le.refl _), jq, rfl, rfl, jm, jn, rfl, rfl⟩ ?_)
    rintro jv jw jx ⟨jy, jt, ju, rfl, jz, k0, hr, k1, k2, k3, k4, k5, k6⟩
    cases jv with
    | zero => exact absurd hr (by simp [law08_ends_l1])
    | succ jv =>
     rw [law08_ends_l1.eq_2] at hr
     refine sr (L_lss k2 k6 (by decide) (nn (W_seq ?_)))
     refine W_cond _ (rfl : _ = Value.bool (decide (ju < (j1.1.length : Int)))) (fun k7 => ?_) (fun k7 => ?_)
     ·have hr := ite_t k7 hr
      refine W_skip (then_n (W_seq (W_block (sr (mv k2 ?_)))))
      obtain ⟨k8, k9, hr⟩ := bind_some hr
      refine L_index Try.underlying23 ty3.inf k5 (ja.mono (jk.trans k0)) k2 k9 (by decide) (fun ka kb => li ty3 (rfl : _ = ka) kb (asg (rfl : _ = Value.int .i64 (ju)) (asg (rfl : _ = Value.int .i64 (k8)) (nn (W_seq ?_)))))
      obtain ⟨kc, kd, ke⟩ := bind_some hr
      refine W_seq_cut (fun f w => ∃ (s : St) (kf : Bool), s.w = w ∧ Ext s0 s ∧ Le jy s ∧ kf = kc ∧ f 44 = Value.bool kf ∧ f 0 = w0 ∧ f 7 = j8 ∧ f 9 = Value.bool (jt) ∧ f 10 = Value.int .i64 (ju) ∧ f 11 = Value.int .i64 (k8) ∧ f 27 = j8 ∧ f 28 = Value.int .i64 ((j1.1.length : Int)) ∧ f 29 = Value.int .i64 (ju)) ?_ ?_
      ·have hr := kd
       refine W_region (mv (rfl : _ = Value.int .i64 (k8)) (L_lss (rfl : _ = Value.int .i64 (k8)) (rfl : _ = Value.int .i64 (0)) (by decide) (mv (rfl : _ = Value.bool (decide (k8 < 0))) ?_)))
       rcases Bool.eq_false_or_eq_true (decide (k8 < 0)) with kg | kg
       ·have hr := ite_t kg hr; exact gf 36 (rfl : _ = Value.bool (decide (k8 < 0))) kg (gf 36 (rfl : _ = Value.bool (decide (k8 < 0))) kg (gf 36 (rfl : _ = Value.bool (decide (k8 < 0))) kg (gf 36 (rfl : _ = Value.bool (decide (k8 < 0))) kg (gf 36 (rfl : _ = Value.bool (decide (k8 < 0))) kg (gf 36 (rfl : _ = Value.bool (decide (k8 < 0))) kg (gf 36 (rfl : _ = Value.bool (decide (k8 < 0))) kg (pt (rfl : _ = Value.bool (decide (k8 < 0))) kg (rfl : _ = Value.bool (true)) (nn ⟨jy, true, rfl, jz, (Le.refl _), Option.some.inj hr, rfl, k3, k4, k1, rfl, rfl, k5, k6, k2⟩))))))))
       ·have hr := ite_f kg hr; refine gt 36 (rfl : _ = Value.bool (decide (k8 < 0))) kg (mv (rfl : _ = Value.int .i64 (k8)) (gt 36 (rfl : _ = Value.bool (decide (k8 < 0))) kg (mv k3 (gt 36 (rfl : _ = Value.bool (decide (k8 < 0))) kg (mv (rfl : _ = Value.int .i64 (ju)) (gt 36 (rfl : _ = Value.bool (decide (k8 < 0))) kg ?_)))))); obtain ⟨kh, ki, hr⟩ := bind_some hr; exact L_index Try.underlying29 ty59.inf (rfl : _ = w0) (h0.mono (j5.le.trans (jk.trans k0))) (rfl : _ = Value.int .i64 (ju)) ki (by decide) (fun kj kk => gt 36 (rfl : _ = Value.bool (decide (k8 < 0))) kg (L_load ty59 (rfl : _ = kj) kk (by decide) (fun kl km => gt 36 (rfl : _ = Value.bool (decide (k8 < 0))) kg (L_len Try.underlying59 (rfl : _ = kl) km (by decide) (gt 36 (rfl : _ = Value.bool (decide (k8 < 0))) kg (L_gtr (rfl : _ = Value.int .i64 (k8)) (rfl : _ = Value.int .i64 ((kh.length : Int))) (by decide) (pf (rfl : _ = Value.bool (decide (k8 < 0))) kg (rfl : _ = Value.bool (decide ((kh.length : Int) < k8))) (nn ⟨jy, (decide ((kh.length : Int) < k8)), rfl, jz, (Le.refl _), Option.some.inj hr, rfl, k3, k4, k1, rfl, rfl, k5, k6, k2⟩))))))))
      ·rintro kg kh ⟨ki, kf, rfl, kj, kk, kd, kl, km, kn, ko, kp, kq, kr, ks, kt⟩
       subst kd
       have hr := ke
       try dsimp only at hr
       refine W_cond _ kl (fun ku => ?_) (fun ku => ?_)
       ·have hr := ite_t ku hr; refine sr (asg (rfl : _ = Value.slice none 0 0) (asg (rfl : _ = Value.bool (false)) (asg (rfl : _ = Value.bool (false)) (nn (W_ret (then_r (block_r (then_r (then_r (block_r ?_)))))))))); obtain rfl := Option.some.inj hr; have hr := jr; (try dsimp only at hr); refine then_r (then_r ?_); obtain rfl := Option.some.inj hr; exact done3 (Or.inl rfl) Try.results21 rfl rfl rfl ⟨_, _, rfl, rfl, kj, _, _, _, rfl, Vnil, Vbool, Vbool⟩
       ·have hr := ite_f ku hr
        refine W_skip (then_n (W_region (mv ko (mv (rfl : _ = Value.bool (jt)) ?_))))
        rcases Bool.eq_false_or_eq_true (jt) with kv | kv
        ·have hr := ite_t kv hr; refine gt 46 (rfl : _ = Value.bool (jt)) kv (mv kq (gt 46 (rfl : _ = Value.bool (jt)) kv (mv km (gt 46 (rfl : _ = Value.bool (jt)) kv (mv kp (gt 46 (rfl : _ = Value.bool (jt)) kv ?_)))))); obtain ⟨kw, kx, hr⟩ := bind_some hr; refine L_index Try.underlying29 ty59.inf (rfl : _ = w0) (h0.mono (j5.le.trans (jk.trans (k0.trans kk)))) (rfl : _ = Value.int .i64 (ju)) kx (by decide) (fun ky kz => gt 46 (rfl : _ = Value.bool (jt)) kv (L_load ty59 (rfl : _ = ky) kz (by decide) (fun g0 g1 => gt 46 (rfl : _ = Value.bool (jt)) kv (L_len Try.underlying59 (rfl : _ = g0) g1 (by decide) (gt 46 (rfl : _ = Value.bool (jt)) kv (L_eql (rfl : _ = Value.int .i64 (k8)) (rfl : _ = Value.int .i64 ((kw.length : Int))) (by decide) (pt (rfl : _ = Value.bool (jt)) kv (rfl : _ = Value.bool (decide (k8 = (kw.length : Int)))) (asg (rfl : _ = Value.bool (decide (k8 = (kw.length : Int)))) (L_nil (block_n (then_n (W_region ?_)))))))))))); obtain ⟨g2, hr⟩ := chk_some hr; exact L_add kt (rfl : _ = Value.int .i64 (1)) g2 (by decide) (mv (rfl : _ = Value.int .i64 (ju + 1)) (nn ⟨jv, Nat.lt_succ_self _, ⟨ki, (decide (k8 = (kw.length : Int))), (ju + 1), rfl, kj, (k0.trans kk), hr, rfl, rfl, km, kn, kr, ks⟩⟩))
        ·have hr := ite_f kv hr; refine gf 46 (rfl : _ = Value.bool (jt)) kv (gf 46 (rfl : _ = Value.bool (jt)) kv (gf 46 (rfl : _ = Value.bool (jt)) kv (gf 46 (rfl : _ = Value.bool (jt)) kv (gf 46 (rfl : _ = Value.bool (jt)) kv (gf 46 (rfl : _ = Value.bool (jt)) kv (gf 46 (rfl : _ = Value.bool (jt)) kv (pf (rfl : _ = Value.bool (jt)) kv (rfl : _ = Value.bool (false)) (asg (rfl : _ = Value.bool (false)) (L_nil (block_n (then_n (W_region ?_)))))))))))); obtain ⟨kw, hr⟩ := chk_some hr; exact L_add kt (rfl : _ = Value.int .i64 (1)) kw (by decide) (mv (rfl : _ = Value.int .i64 (ju + 1)) (nn ⟨jv, Nat.lt_succ_self _, ⟨ki, false, (ju + 1), rfl, kj, (k0.trans kk), hr, rfl, rfl, km, kn, kr, ks⟩⟩))
     ·have hr := ite_f k7 hr; refine W_exit (then_x (then_x (block_here ?_))); exact then_n ⟨jy, jt, rfl, jz, k0, Option.some.inj hr, k1, k4⟩
   ·rintro jt ju ⟨jv, js, rfl, jw, jx, jq, jy, jz⟩; subst jq; have hr := jr; (try dsimp only at hr); refine then_n (sr (mv jz (mv jy (asg (rfl : _ = j8) (asg (rfl : _ = Value.bool (js)) (asg (rfl : _ = Value.bool (true)) (nn (W_ret ?_)))))))); obtain rfl := Option.some.inj hr; exact done3 (Or.inl rfl) Try.results21 rfl rfl rfl ⟨_, _, rfl, rfl, jw, _, _, _, rfl, (ja.mono (jk.trans jx)), Vbool, Vbool⟩

theorem law08_has_ok (N : Nat) (s0 : St) (w0 : Value) (a0 : List Int) (h0 : V s0 w0 a0) (a1 : Int) (r : Bool) (hr : law08_has N a0 a1 = some r) :
    Calls Try.prog 26 #[w0, .int .i64 a1] s0.w (Ret s0 fun v s => V s v r) := by
 unfold law08_has at hr
 have j0 := Ext.refl s0
 refine Calls_of (n := 17) (args := [w0, .int .i64 a1]) Try.func26 rfl rfl (by simp) (sr (asg (rfl : _ = Value.bool (false)) (nn (W_seq (sr (mv (rfl : _ = w0) (L_len Try.underlying23 (rfl : _ = w0) h0 (by decide) (mv (rfl : _ = Value.int .i64 (0)) (nn ?_)))))))))
 obtain ⟨j1, j2, j3⟩ := bind_some hr
 refine W_cut (fun f w => ∃ (s : St), s.w = w ∧ Ext s0 s ∧ Le s0 s ∧ Sum.inl () = j1) ?_ ?_
 ·refine W_block (W_loop (fun m f w => ∃ (s : St) (j4 : Int), s.w = w ∧ Ext s0 s ∧ Le s0 s ∧ law08_has_l1 N a0 a1 m j4 = some j1 ∧ f 9 = Value.int .i64 j4 ∧ f 1 = Value.int .i64 (a1) ∧ f 7 = w0 ∧ f 8 = Value.int .i64 ((a0.length : Int))) N ⟨s0, 0, rfl, j0, (Le.refl _), j2, rfl, rfl, rfl, rfl⟩ ?_)
  rintro j5 j6 j7 ⟨j8, j4, rfl, j9, ja, hr, jb, jc, jd, je⟩
  cases j5 with
  | zero => exact absurd hr (by simp [law08_has_l1])
  | succ j5 =>
   rw [law08_has_l1.eq_2] at hr
   refine sr (L_lss jb je (by decide) (nn (W_seq ?_)))
   refine W_cond _ (rfl : _ = Value.bool (decide (j4 < (a0.length : Int)))) (fun jf => ?_) (fun jf => ?_)
   ·have hr := ite_t jf hr
    refine W_skip (then_n (W_seq (W_block (sr ?_))))
    obtain ⟨jg, jh, hr⟩ := bind_some hr
    refine L_index Try.underlying23 ty3.inf jd (h0.mono ja) jb jh (by decide) (fun ji jj => li ty3 (rfl : _ = ji) jj (asg (rfl : _ = Value.int .i64 (jg)) (nn (sr (mv (rfl : _ = Value.int .i64 (jg)) (mv jc (L_eql (rfl : _ = Value.int .i64 (jg)) (rfl : _ = Value.int .i64 (a1)) (by decide) (nn ?_))))))))
    refine W_cond _ (rfl : _ = Value.bool (decide (jg = a1))) (fun jk => ?_) (fun jk => ?_)
    ·have hr := ite_t jk hr; refine sr (asg (rfl : _ = Value.bool (true)) (nn (W_ret (block_r (then_r (then_r (block_r ?_))))))); obtain rfl := Option.some.inj hr; have hr := j3; (try dsimp only at hr); refine then_r (then_r ?_); obtain rfl := Option.some.inj hr; exact done1 (Or.inl rfl) Try.results26 rfl ⟨_, _, rfl, rfl, j9, Vbool⟩
    ·have hr := ite_f jk hr; refine W_skip (block_n (then_n (W_region ?_))); obtain ⟨jl, hr⟩ := chk_some hr; exact L_add jb (rfl : _ = Value.int .i64 (1)) jl (by decide) (mv (rfl : _ = Value.int .i64 (j4 + 1)) (nn ⟨j5, Nat.lt_succ_self _, ⟨j8, (j4 + 1), rfl, j9, ja, hr, rfl, jc, jd, je⟩⟩))
   ·have hr := ite_f jf hr; refine W_exit (then_x (then_x (block_here ?_))); exact then_n ⟨j8, rfl, j9, ja, Option.some.inj hr⟩
 ·rintro j4 j5 ⟨j6, rfl, j7, j8, j2⟩; subst j2; have hr := j3; (try dsimp only at hr); refine then_n (sr (asg (rfl : _ = Value.bool (false)) (nn (W_ret ?_)))); obtain rfl := Option.some.inj hr; exact done1 (Or.inl rfl) Try.results26 rfl ⟨_, _, rfl, rfl, j7, Vbool⟩

end Go.Arm
