/- Each function of the program computes what its plain function says. -/
import Derived.Test.YtmojccilbgjngaaPrfT3b
namespace Go.Arm
open Go Go.RowKit Go.Proofs
set_option maxHeartbeats 1028000 in
theorem law08_works_ok (N : Nat) (s0 : St) (r : Bool) (hr : law08_works N  = some r) :
    Calls Try.prog 10 #[] s0.w (Ret s0 fun v s => V s v r) := by
 unfold law08_works at hr
 have j0 := Ext.refl s0
 refine Calls_of (n := 205) (args := []) Try.func10 rfl rfl (by simp) (sr (asg (rfl : _ = Value.bool (false)) (nn (sr ?_))))
 obtain ⟨j1, j2, hr⟩ := bind_some hr
 refine L_calls cal28 (args2 (rfl : _ = Value.int .i64 (1)) (rfl : _ = Value.int .i64 (0))) (law08_send_ok N _ 1 0 j1 j2) (by decide) (fun j3 j4 j5 j6 => ?_)
 have j7 := Tch.ext j0 j5
 obtain ⟨j8, j9, hr⟩ := bind_some hr
 refine L_calls cal29 (args2 (rfl : _ = Value.int .i64 (1)) (rfl : _ = Value.int .i64 (0))) (law08_recv_ok N _ 1 0 j8 j9) (by decide) (fun ja jb jc jd => ?_)
 have je := Tch.ext j7 jc
 refine L_buildSlice (xs := ([j1, j8] : List Deed)) Try.underlying59 tyz64 (Parts_cons rfl (rfl : _ = j3) (Parts_cons rfl (rfl : _ = ja) Parts_nil)) (Vs.cons (j6.mono jc.le) (Vs.cons jd Vs.nil)) rfl (by decide) (by decide) (fun jf jg jh ji jj => ?_)
 have jk := Tch.ext je jh
 obtain ⟨jl, jm, hr⟩ := bind_some hr
 refine L_calls cal28 (args2 (rfl : _ = Value.int .i64 (0)) (rfl : _ = Value.int .i64 (0))) (law08_send_ok N _ 0 0 jl jm) (by decide) (fun jn jo jp jq => ?_)
 have jr := Tch.ext jk jp
 obtain ⟨js, jt, hr⟩ := bind_some hr
 refine L_calls cal29 (args2 (rfl : _ = Value.int .i64 (0)) (rfl : _ = Value.int .i64 (0))) (law08_recv_ok N _ 0 0 js jt) (by decide) (fun ju jv jw jx => ?_)
 have jy := Tch.ext jr jw
 refine L_buildSlice (xs := ([jl, js] : List Deed)) Try.underlying59 tyz64 (Parts_cons rfl (rfl : _ = jn) (Parts_cons rfl (rfl : _ = ju) Parts_nil)) (Vs.cons (jq.mono jw.le) (Vs.cons jx Vs.nil)) rfl (by decide) (by decide) (fun jz k0 k1 k2 k3 => ?_)
 have k4 := Tch.ext jy k1
 refine L_buildSlice (xs := ([([j1, j8] : List Deed), ([jl, js] : List Deed)] : List (List Deed))) Try.underlying29 tyz59 (Parts_cons rfl (rfl : _ = jg) (Parts_cons rfl (rfl : _ = k0) Parts_nil)) (Vs.cons (jj.mono (jp.le.trans (jw.le.trans k1.le))) (Vs.cons k3 Vs.nil)) rfl (by decide) (by decide) (fun k5 k6 k7 k8 k9 => ?_)
 have ka := Tch.ext k4 k7
 refine asg (rfl : _ = k6) (nn (sr (mv (rfl : _ = k6) ?_)))
 obtain ⟨kb, kc, hr⟩ := bind_some hr
 refine L_calls cal18 (args1 (rfl : _ = k6)) (dead_Decide_ok N _ _ _ k9 kb kc) (by decide) (fun kd ke kf kg => ?_)
 have kh := Tch.ext ka kf
 obtain ⟨ki, kj, rfl, kk, kl⟩ := kg
 obtain rfl := kl.int
 refine mv (rfl : _ = Value.tuple #[ki, Value.int .i64 (kb.2)]) (L_extract (rfl : _ = Value.tuple #[ki, Value.int .i64 (kb.2)]) (k := 0) rfl (by decide) (L_extract (rfl : _ = Value.tuple #[ki, Value.int .i64 (kb.2)]) (k := 1) rfl (by decide) (L_alloc (α := Verdict) (x := ⟨0, 0⟩) zero40 Verdict.zero_rel (by decide) (fun km kn ko kp kq => ?_))))
 have kr := Tch.ext kh ko
 refine L_store ty40 (rfl : _ = Value.pointer (some ⟨kn, 0, none⟩)) (rfl : _ = ki) (kk.mono ko.le) (kq) (fun ks kt ku => ?_)
 have kv := Tch.trans kr kt (fun k hk => Or.inr (by subst hk; exact (Nat.le_trans kh.size kp)))
 refine asg (rfl : _ = Value.int .i64 (kb.2)) (nn (sr (mv (rfl : _ = k6) ?_)))
 obtain ⟨kw, kx, hr⟩ := bind_some hr
 refine L_calls cal25 (args2 (rfl : _ = k6) (rfl : _ = Value.int .i64 (0))) (dead_Cycle_ok N _ _ _ (k9.mono (kf.le.trans (ko.le.trans kt.le))) 0 kw kx) (by decide) (fun ky kz g0 g1 => ?_)
 have g2 := Tch.ext kv g0
 obtain ⟨g3, g4, rfl, g5, g6⟩ := g1
 obtain rfl := g6.int
 refine mv (rfl : _ = Value.tuple #[g3, Value.int .i64 (kw.2)]) (L_extract (rfl : _ = Value.tuple #[g3, Value.int .i64 (kw.2)]) (k := 0) rfl (by decide) (L_extract (rfl : _ = Value.tuple #[g3, Value.int .i64 (kw.2)]) (k := 1) rfl (by decide) (asg (rfl : _ = g3) (asg (rfl : _ = Value.int .i64 (kw.2)) (nn (sr (mv (rfl : _ = k6) ?_)))))))
 obtain ⟨g7, g8, hr⟩ := bind_some hr
 refine L_calls cal30 (args2 (rfl : _ = k6) (rfl : _ = Value.int .i64 (0))) (dead_End_ok N _ _ _ (k9.mono (kf.le.trans (ko.le.trans (kt.le.trans g0.le)))) 0 g7 g8) (by decide) (fun g9 ga gb gc => ?_)
 have gd := Tch.ext g2 gb
 obtain ⟨gg, gh, rfl, gi, gj⟩ := gc
 obtain rfl := gj.int
 refine mv (rfl : _ = Value.tuple #[gg, Value.int .i64 (g7.2)]) (L_extract (rfl : _ = Value.tuple #[gg, Value.int .i64 (g7.2)]) (k := 0) rfl (by decide) (L_extract (rfl : _ = Value.tuple #[gg, Value.int .i64 (g7.2)]) (k := 1) rfl (by decide) (asg (rfl : _ = gg) (asg (rfl : _ = Value.int .i64 (g7.2)) (nn (W_seq ?_))))))
 obtain ⟨gk, gl, gm⟩ := bind_some hr
 refine W_seq_cut (fun f w => ∃ (s : St) (gn : Bool), s.w = w ∧ Ext s0 s ∧ Le ga s ∧ gn = gk ∧ f 65 = Value.bool gn ∧ f 2 = Value.pointer (some ⟨kn, 0, none⟩) ∧ Var s kn 40 kb.1) ?_ ?_
 ·have hr := gl
  refine W_region (L_load_var ty40 (rfl : _ = Value.pointer (some ⟨kn, 0, none⟩)) (((ku).ext g0).ext gb) (by decide) (fun go gp => L_bld40_0_1 (s := ga) (rfl : _ = Value.int .i64 (2)) (rfl : _ = Value.int .i64 (1)) (Vint : V _ _ (2 : Int)) (Vint : V _ _ (1 : Int)) (by decide) (fun gq gr => L_sne40 (rfl : _ = go) gp (rfl : _ = gq) gr (by decide) (mv (rfl : _ = Value.bool (!decide (kb.1 = (⟨2, 1⟩ : Verdict)))) ?_))))
  rcases Bool.eq_false_or_eq_true (!decide (kb.1 = (⟨2, 1⟩ : Verdict))) with gs | gs
  ·have hr := ite_t gs hr; refine gf 42 (rfl : _ = Value.bool (!decide (kb.1 = (⟨2, 1⟩ : Verdict)))) gs (gf 42 (rfl : _ = Value.bool (!decide (kb.1 = (⟨2, 1⟩ : Verdict)))) gs (pt (rfl : _ = Value.bool (!decide (kb.1 = (⟨2, 1⟩ : Verdict)))) gs (rfl : _ = Value.bool (true)) (mv (rfl : _ = Value.bool (true)) (gf 46 (rfl : _ = Value.bool (true)) rfl (gf 46 (rfl : _ = Value.bool (true)) rfl (pt (rfl : _ = Value.bool (true)) rfl (rfl : _ = Value.bool (true)) (mv (rfl : _ = Value.bool (true)) (gf 50 (rfl : _ = Value.bool (true)) rfl (gf 50 (rfl : _ = Value.bool (true)) rfl (pt (rfl : _ = Value.bool (true)) rfl (rfl : _ = Value.bool (true)) (mv (rfl : _ = Value.bool (true)) (gf 54 (rfl : _ = Value.bool (true)) rfl (gf 54 (rfl : _ = Value.bool (true)) rfl ?_))))))))))))); exact gf 54 (rfl : _ = Value.bool (true)) rfl (gf 54 (rfl : _ = Value.bool (true)) rfl (pt (rfl : _ = Value.bool (true)) rfl (rfl : _ = Value.bool (true)) (mv (rfl : _ = Value.bool (true)) (gf 60 (rfl : _ = Value.bool (true)) rfl (gf 60 (rfl : _ = Value.bool (true)) rfl (gf 60 (rfl : _ = Value.bool (true)) rfl (gf 60 (rfl : _ = Value.bool (true)) rfl (pt (rfl : _ = Value.bool (true)) rfl (rfl : _ = Value.bool (true)) (nn ⟨ga, true, rfl, gd, (Le.refl _), Option.some.inj hr, rfl, rfl, ((ku).ext g0).ext gb⟩)))))))))
  ·have hr := ite_f gs hr
   refine gt 42 (rfl : _ = Value.bool (!decide (kb.1 = (⟨2, 1⟩ : Verdict)))) gs (mv (rfl : _ = Value.int .i64 (kb.2)) (gt 42 (rfl : _ = Value.bool (!decide (kb.1 = (⟨2, 1⟩ : Verdict)))) gs (L_neq (rfl : _ = Value.int .i64 (kb.2)) (rfl : _ = Value.int .i64 (0)) (by decide) (pf (rfl : _ = Value.bool (!decide (kb.1 = (⟨2, 1⟩ : Verdict)))) gs (rfl : _ = Value.bool (!decide (kb.2 = 0))) (mv (rfl : _ = Value.bool (!decide (kb.2 = 0))) ?_)))))
   rcases Bool.eq_false_or_eq_true (!decide (kb.2 = 0)) with gu | gu
   ·have hr := ite_t gu hr; refine gf 46 (rfl : _ = Value.bool (!decide (kb.2 = 0))) gu (gf 46 (rfl : _ = Value.bool (!decide (kb.2 = 0))) gu (pt (rfl : _ = Value.bool (!decide (kb.2 = 0))) gu (rfl : _ = Value.bool (true)) (mv (rfl : _ = Value.bool (true)) (gf 50 (rfl : _ = Value.bool (true)) rfl (gf 50 (rfl : _ = Value.bool (true)) rfl (pt (rfl : _ = Value.bool (true)) rfl (rfl : _ = Value.bool (true)) (mv (rfl : _ = Value.bool (true)) (gf 54 (rfl : _ = Value.bool (true)) rfl (gf 54 (rfl : _ = Value.bool (true)) rfl (gf 54 (rfl : _ = Value.bool (true)) rfl (gf 54 (rfl : _ = Value.bool (true)) rfl (pt (rfl : _ = Value.bool (true)) rfl (rfl : _ = Value.bool (true)) (mv (rfl : _ = Value.bool (true)) ?_))))))))))))); exact gf 60 (rfl : _ = Value.bool (true)) rfl (gf 60 (rfl : _ = Value.bool (true)) rfl (gf 60 (rfl : _ = Value.bool (true)) rfl (gf 60 (rfl : _ = Value.bool (true)) rfl (pt (rfl : _ = Value.bool (true)) rfl (rfl : _ = Value.bool (true)) (nn ⟨ga, true, rfl, gd, (Le.refl _), Option.some.inj hr, rfl, rfl, ((ku).ext g0).ext gb⟩)))))
   ·have hr := ite_f gu hr
    refine gt 46 (rfl : _ = Value.bool (!decide (kb.2 = 0))) gu (mv (rfl : _ = Value.int .i64 (kw.2)) (gt 46 (rfl : _ = Value.bool (!decide (kb.2 = 0))) gu (L_neq (rfl : _ = Value.int .i64 (kw.2)) (rfl : _ = Value.int .i64 (0)) (by decide) (pf (rfl : _ = Value.bool (!decide (kb.2 = 0))) gu (rfl : _ = Value.bool (!decide (kw.2 = 0))) (mv (rfl : _ = Value.bool (!decide (kw.2 = 0))) ?_)))))
    rcases Bool.eq_false_or_eq_true (!decide (kw.2 = 0)) with gv | gv
    ·have hr := ite_t gv hr; refine gf 50 (rfl : _ = Value.bool (!decide (kw.2 = 0))) gv (gf 50 (rfl : _ = Value.bool (!decide (kw.2 = 0))) gv (pt (rfl : _ = Value.bool (!decide (kw.2 = 0))) gv (rfl : _ = Value.bool (true)) (mv (rfl : _ = Value.bool (true)) (gf 54 (rfl : _ = Value.bool (true)) rfl (gf 54 (rfl : _ = Value.bool (true)) rfl (gf 54 (rfl : _ = Value.bool (true)) rfl (gf 54 (rfl : _ = Value.bool (true)) rfl (pt (rfl : _ = Value.bool (true)) rfl (rfl : _ = Value.bool (true)) (mv (rfl : _ = Value.bool (true)) (gf 60 (rfl : _ = Value.bool (true)) rfl (gf 60 (rfl : _ = Value.bool (true)) rfl (gf 60 (rfl : _ = Value.bool (true)) rfl (gf 60 (rfl : _ = Value.bool (true)) rfl ?_))))))))))))); exact pt (rfl : _ = Value.bool (true)) rfl (rfl : _ = Value.bool (true)) (nn ⟨ga, true, rfl, gd, (Le.refl _), Option.some.inj hr, rfl, rfl, ((ku).ext g0).ext gb⟩)
    ·have hr := ite_f gv hr
     refine gt 50 (rfl : _ = Value.bool (!decide (kw.2 = 0))) gv (mv (rfl : _ = Value.int .i64 (g7.2)) (gt 50 (rfl : _ = Value.bool (!decide (kw.2 = 0))) gv (L_neq (rfl : _ = Value.int .i64 (g7.2)) (rfl : _ = Value.int .i64 (0)) (by decide) (pf (rfl : _ = Value.bool (!decide (kw.2 = 0))) gv (rfl : _ = Value.bool (!decide (g7.2 = 0))) (mv (rfl : _ = Value.bool (!decide (g7.2 = 0))) ?_)))))
     rcases Bool.eq_false_or_eq_true (!decide (g7.2 = 0)) with gw | gw
     ·have hr := ite_t gw hr; exact gf 54 (rfl : _ = Value.bool (!decide (g7.2 = 0))) gw (gf 54 (rfl : _ = Value.bool (!decide (g7.2 = 0))) gw (gf 54 (rfl : _ = Value.bool (!decide (g7.2 = 0))) gw (gf 54 (rfl : _ = Value.bool (!decide (g7.2 = 0))) gw (pt (rfl : _ = Value.bool (!decide (g7.2 = 0))) gw (rfl : _ = Value.bool (true)) (mv (rfl : _ = Value.bool (true)) (gf 60 (rfl : _ = Value.bool (true)) rfl (gf 60 (rfl : _ = Value.bool (true)) rfl (gf 60 (rfl : _ = Value.bool (true)) rfl (gf 60 (rfl : _ = Value.bool (true)) rfl (pt (rfl : _ = Value.bool (true)) rfl (rfl : _ = Value.bool (true)) (nn ⟨ga, true, rfl, gd, (Le.refl _), Option.some.inj hr, rfl, rfl, ((ku).ext g0).ext gb⟩)))))))))))
     ·have hr := ite_f gw hr
      refine gt 54 (rfl : _ = Value.bool (!decide (g7.2 = 0))) gw (mv (rfl : _ = g3) (gt 54 (rfl : _ = Value.bool (!decide (g7.2 = 0))) gw (L_buildSlice (xs := ([0, 1] : List Int)) Try.underlying23 tyz3 (Parts_cons rfl (rfl : _ = Value.int .i64 (0)) (Parts_cons rfl (rfl : _ = Value.int .i64 (1)) Parts_nil)) (Vs.cons Vint (Vs.cons Vint Vs.nil)) rfl (by decide) (by decide) (fun gx gy gz u0 u1 => ?_))))
      have u2 := Tch.ext gd gz
      refine gt 54 (rfl : _ = Value.bool (!decide (g7.2 = 0))) gw ?_
      obtain ⟨u3, u4, hr⟩ := bind_some hr
      refine L_calls cal14 (args2 (rfl : _ = g3) (rfl : _ = gy)) (ref01_SameInts_ok N _ _ _ (g5.mono (gb.le.trans gz.le)) _ _ u1 u3 u4) (by decide) (fun u5 u6 u7 u9 => ?_)
      have ua := Tch.ext u2 u7
      obtain rfl := u9.bool
      refine gt 54 (rfl : _ = Value.bool (!decide (g7.2 = 0))) gw (L_not (rfl : _ = Value.bool (u3)) (by decide) (pf (rfl : _ = Value.bool (!decide (g7.2 = 0))) gw (rfl : _ = Value.bool (!u3)) (mv (rfl : _ = Value.bool (!u3)) ?_)))
      rcases Bool.eq_false_or_eq_true (!u3) with ub | ub
      ·have hr := ite_t ub hr; exact gf 60 (rfl : _ = Value.bool (!u3)) ub (gf 60 (rfl : _ = Value.bool (!u3)) ub (gf 60 (rfl : _ = Value.bool (!u3)) ub (gf 60 (rfl : _ = Value.bool (!u3)) ub (pt (rfl : _ = Value.bool (!u3)) ub (rfl : _ = Value.bool (true)) (nn ⟨u6, true, rfl, ua, (gz.le.trans u7.le), Option.some.inj hr, rfl, rfl, ((((ku).ext g0).ext gb).ext gz).ext u7⟩)))))
      ·have hr := ite_f ub hr; refine gt 60 (rfl : _ = Value.bool (!u3)) ub (mv (rfl : _ = gg) (gt 60 (rfl : _ = Value.bool (!u3)) ub (L_buildSlice (xs := ([0, 0] : List Int)) Try.underlying23 tyz3 (Parts_cons rfl (rfl : _ = Value.int .i64 (0)) (Parts_cons rfl (rfl : _ = Value.int .i64 (0)) Parts_nil)) (Vs.cons Vint (Vs.cons Vint Vs.nil)) rfl (by decide) (by decide) (fun uc ud ue uf ug => ?_)))); have uh := Tch.ext ua ue; refine gt 60 (rfl : _ = Value.bool (!u3)) ub ?_; obtain ⟨ui, uj, hr⟩ := bind_some hr; refine L_calls cal14 (args2 (rfl : _ = gg) (rfl : _ = ud)) (ref01_SameInts_ok N _ _ _ (gi.mono (gz.le.trans (u7.le.trans ue.le))) _ _ ug ui uj) (by decide) (fun uk ul um un => ?_); have uo := Tch.ext uh um; obtain rfl := un.bool; exact gt 60 (rfl : _ = Value.bool (!u3)) ub (L_not (rfl : _ = Value.bool (ui)) (by decide) (pf (rfl : _ = Value.bool (!u3)) ub (rfl : _ = Value.bool (!ui)) (nn ⟨ul, (!ui), rfl, uo, (gz.le.trans (u7.le.trans (ue.le.trans um.le))), Option.some.inj hr, rfl, rfl, ((((((ku).ext g0).ext gb).ext gz).ext u7).ext ue).ext um⟩)))
 ·rintro go gp ⟨gq, gn, rfl, gr, gs, gl, gu, gv, gw⟩
  subst gl
  have hr := gm
  try dsimp only at hr
  refine W_cond _ gu (fun gx => ?_) (fun gx => ?_)
  ·have hr := ite_t gx hr; refine sr (asg (rfl : _ = Value.bool (false)) (nn (W_ret (then_r ?_)))); obtain rfl := Option.some.inj hr; exact done1 (Or.inl rfl) Try.results10 rfl ⟨_, _, rfl, rfl, gr, Vbool⟩
  ·have hr := ite_f gx hr
   refine W_skip (then_n (sr (L_bld64_0_1 (s := gq) (rfl : _ = Value.int .i64 (3)) (rfl : _ = Value.int .i64 (1)) (Vint : V _ _ (3 : Int)) (Vint : V _ _ (1 : Int)) (by decide) (fun gy gz => L_alloc (α := Deed) (x := ⟨0, 0, 0, 0, false⟩) zero64 Deed.zero_rel (by decide) (fun u0 u1 u2 u3 u4 => ?_)))))
   have u5 := Tch.ext gr u2
   have u6 : ∀ k, (fun k => k = kn) k → ¬ (fun k => k = u1) k := fun k u7 u9 => by have ua := (fun k (hk : k = kn) => lt_at hk (gw).lt) k u7; have ub := u3; subst u9; omega
   refine L_store_ro ty64 (rfl : _ = Value.pointer (some ⟨u1, 0, none⟩)) (rfl : _ = gy) (gz.mono u2.le) (u4) (fun uc ud ue => ?_)
   have uf := Tch.trans u5 ud (fun k hk => Or.inr (by subst hk; exact (Nat.le_trans gr.size u3)))
   refine nn (sr (L_bld64_0 (s := uc) (rfl : _ = Value.int .i64 (3)) (Vint : V _ _ (3 : Int)) (by decide) (fun ug uh => L_alloc (α := Deed) (x := ⟨0, 0, 0, 0, false⟩) zero64 Deed.zero_rel (by decide) (fun ui uj uk ul um => ?_))))
   have un := Tch.ext uf uk
   have uo : ∀ k, (fun k => k = kn) k → ¬ (fun k => k = uj) k := fun k u7 u9 => by have ua := (fun k (hk : k = kn) => lt_at hk (((gw).ext u2).tch ud ((fun k hk => u6 k hk) kn rfl)).lt) k u7; have ub := ul; subst u9; omega
   refine L_store_ro ty64 (rfl : _ = Value.pointer (some ⟨uj, 0, none⟩)) (rfl : _ = ug) (uh.mono uk.le) (um) (fun up uq ur => ?_)
   have us := Tch.trans un uq (fun k hk => Or.inr (by subst hk; exact (Nat.le_trans uf.size ul)))
   refine nn (sr (L_bld64_0 (s := up) (rfl : _ = Value.int .i64 (5)) (Vint : V _ _ (5 : Int)) (by decide) (fun ut uu => L_alloc (α := Deed) (x := ⟨0, 0, 0, 0, false⟩) zero64 Deed.zero_rel (by decide) (fun uv uw ux uy uz => ?_))))
   have t0 := Tch.ext us ux
   have t1 : ∀ k, (fun k => k = kn) k → ¬ (fun k => k = uw) k := fun k u7 u9 => by have ua := (fun k (hk : k = kn) => lt_at hk (((((gw).ext u2).tch ud ((fun k hk => u6 k hk) kn rfl)).ext uk).tch uq ((fun k hk => uo k hk) kn rfl)).lt) k u7; have ub := uy; subst u9; omega
   refine L_store_ro ty64 (rfl : _ = Value.pointer (some ⟨uw, 0, none⟩)) (rfl : _ = ut) (uu.mono ux.le) (uz) (fun t2 t3 t4 => ?_)
   have t5 := Tch.trans t0 t3 (fun k hk => Or.inr (by subst hk; exact (Nat.le_trans us.size uy)))
   refine nn (W_seq ?_)
   obtain ⟨t6, t7, hr⟩ := bind_some hr
   obtain ⟨t8, t9, hr⟩ := bind_some hr
   refine W_draws mixed (by kernel_rfl) [PV.data ((⟨3, 1, 0, 0, false⟩ : Deed) : Deed), PV.data (t6 : Deed), PV.data ((⟨5, 0, 0, 0, false⟩ : Deed) : Deed), PV.data (([(⟨3, 1, 0, 0, false⟩ : Deed), t6, (⟨5, 0, 0, 0, false⟩ : Deed)] : List Deed) : List Deed), PV.data ((⟨3, 0, 0, 0, false⟩ : Deed) : Deed), PV.data (t8 : Deed), PV.data ((⟨5, 0, 0, 0, false⟩ : Deed) : Deed), PV.data (([(⟨3, 0, 0, 0, false⟩ : Deed), t8, (⟨5, 0, 0, 0, false⟩ : Deed)] : List Deed) : List Deed), PV.data (([([(⟨3, 1, 0, 0, false⟩ : Deed), t6, (⟨5, 0, 0, 0, false⟩ : Deed)] : List Deed), ([(⟨3, 0, 0, 0, false⟩ : Deed), t8, (⟨5, 0, 0, 0, false⟩ : Deed)] : List Deed)] : List (List Deed)) : List (List Deed)), PV.data (([([(⟨3, 1, 0, 0, false⟩ : Deed), t6, (⟨5, 0, 0, 0, false⟩ : Deed)] : List Deed), ([(⟨3, 0, 0, 0, false⟩ : Deed), t8, (⟨5, 0, 0, 0, false⟩ : Deed)] : List Deed)] : List (List Deed)) : List (List Deed))] (Steps_cons ?_ (Steps_cons ?_ (Steps_cons ?_ (Steps_cons ?_ (Steps_cons ?_ (Steps_cons ?_ (Steps_cons ?_ (Steps_cons ?_ (Steps_cons ?_ (Steps_cons ?_ Steps_nil)))))))))) ?_
   ·intro ta tb tc td te Q tf; have tg : ta 8 = Value.pointer (some ⟨u1, 0, none⟩) := (te 8 (by kernel_rfl)).trans rfl; exact L_load ty64 tg (ue.mono (uk.le.trans (uq.le.trans (ux.le.trans (t3.le.trans tc.le))))) (by decide) (fun th ti => fin tf ti)
   ·intro ta tb tc td te Q tf; refine L_calls cal29 (args2 (rfl : _ = Value.int .i64 (1)) (rfl : _ = Value.int .i64 (0))) (law08_recv_ok N _ 1 0 t6 t7) (by decide) (fun tg th ti tj => ?_); have tk := Tch.ext (Ext.refl tb) ti; exact L_nil (tf _ _ tk tj)
   ·intro ta tb tc td te Q tf; have tg : ta 10 = Value.pointer (some ⟨uw, 0, none⟩) := (te 10 (by kernel_rfl)).trans rfl; exact L_load ty64 tg (t4.mono tc.le) (by decide) (fun th ti => fin tf ti)
   ·intro ta tb tc td te Q tf; have tg : V _ (ta 69) ((⟨3, 1, 0, 0, false⟩ : Deed) : Deed) := td 0 69 (by kernel_rfl) (by kernel_rfl); obtain ⟨th, ti, tj⟩ : ∃ v, _ = v ∧ V _ v _ := ⟨_, rfl, tg⟩; have tk : V _ (ta 70) (t6 : Deed) := td 1 70 (by kernel_rfl) (by kernel_rfl); obtain ⟨tl, tm, tn⟩ : ∃ v, _ = v ∧ V _ v _ := ⟨_, rfl, tk⟩; have tp : V _ (ta 71) ((⟨5, 0, 0, 0, false⟩ : Deed) : Deed) := td 2 71 (by kernel_rfl) (by kernel_rfl); obtain ⟨tq, tr, ts⟩ : ∃ v, _ = v ∧ V _ v _ := ⟨_, rfl, tp⟩; refine L_buildSlice (xs := ([(⟨3, 1, 0, 0, false⟩ : Deed), t6, (⟨5, 0, 0, 0, false⟩ : Deed)] : List Deed)) Try.underlying59 tyz64 (Parts_cons rfl ti (Parts_cons rfl tm (Parts_cons rfl tr Parts_nil))) (Vs.cons tj (Vs.cons tn (Vs.cons ts Vs.nil))) rfl (by decide) (by decide) (fun tt tu tv tw tx => ?_); have ty := Tch.ext (Ext.refl tb) tv; exact L_nil (tf _ _ ty tx)
   ·intro ta tb tc td te Q tf; have tg : ta 9 = Value.pointer (some ⟨uj, 0, none⟩) := (te 9 (by kernel_rfl)).trans rfl; exact L_load ty64 tg (ur.mono (ux.le.trans (t3.le.trans tc.le))) (by decide) (fun th ti => fin tf ti)
   ·intro ta tb tc td te Q tf; refine L_calls cal29 (args2 (rfl : _ = Value.int .i64 (0)) (rfl : _ = Value.int .i64 (0))) (law08_recv_ok N _ 0 0 t8 t9) (by decide) (fun tg th ti tj => ?_); have tk := Tch.ext (Ext.refl tb) ti; exact L_nil (tf _ _ tk tj)
   ·intro ta tb tc td te Q tf; have tg : ta 10 = Value.pointer (some ⟨uw, 0, none⟩) := (te 10 (by kernel_rfl)).trans rfl; exact L_load ty64 tg (t4.mono tc.le) (by decide) (fun th ti => fin tf ti)
   ·intro ta tb tc td te Q tf; have tg : V _ (ta 73) ((⟨3, 0, 0, 0, false⟩ : Deed) : Deed) := td 4 73 (by kernel_rfl) (by kernel_rfl); obtain ⟨th, ti, tj⟩ : ∃ v, _ = v ∧ V _ v _ := ⟨_, rfl, tg⟩; have tk : V _ (ta 74) (t8 : Deed) := td 5 74 (by kernel_rfl) (by kernel_rfl); obtain ⟨tl, tm, tn⟩ : ∃ v, _ = v ∧ V _ v _ := ⟨_, rfl, tk⟩; have tp : V _ (ta 75) ((⟨5, 0, 0, 0, false⟩ : Deed) : Deed) := td 6 75 (by kernel_rfl) (by kernel_rfl); obtain ⟨tq, tr, ts⟩ : ∃ v, _ = v ∧ V _ v _ := ⟨_, rfl, tp⟩; refine L_buildSlice (xs := ([(⟨3, 0, 0, 0, false⟩ : Deed), t8, (⟨5, 0, 0, 0, false⟩ : Deed)] : List Deed)) Try.underlying59 tyz64 (Parts_cons rfl ti (Parts_cons rfl tm (Parts_cons rfl tr Parts_nil))) (Vs.cons tj (Vs.cons tn (Vs.cons ts Vs.nil))) rfl (by decide) (by decide) (fun tt tu tv tw tx => ?_); have ty := Tch.ext (Ext.refl tb) tv; exact L_nil (tf _ _ ty tx)
   ·intro ta tb tc td te Q tf; have tg : V _ (ta 72) (([(⟨3, 1, 0, 0, false⟩ : Deed), t6, (⟨5, 0, 0, 0, false⟩ : Deed)] : List Deed) : List Deed) := td 3 72 (by kernel_rfl) (by kernel_rfl); obtain ⟨th, ti, tj⟩ : ∃ v, _ = v ∧ V _ v _ := ⟨_, rfl, tg⟩; have tk : V _ (ta 76) (([(⟨3, 0, 0, 0, false⟩ : Deed), t8, (⟨5, 0, 0, 0, false⟩ : Deed)] : List Deed) : List Deed) := td 7 76 (by kernel_rfl) (by kernel_rfl); obtain ⟨tl, tm, tn⟩ : ∃ v, _ = v ∧ V _ v _ := ⟨_, rfl, tk⟩; refine L_buildSlice (xs := ([([(⟨3, 1, 0, 0, false⟩ : Deed), t6, (⟨5, 0, 0, 0, false⟩ : Deed)] : List Deed), ([(⟨3, 0, 0, 0, false⟩ : Deed), t8, (⟨5, 0, 0, 0, false⟩ : Deed)] : List Deed)] : List (List Deed))) Try.underlying29 tyz59 (Parts_cons rfl ti (Parts_cons rfl tm Parts_nil)) (Vs.cons tj (Vs.cons tn Vs.nil)) rfl (by decide) (by decide) (fun tp tq tr ts tt => ?_); have tu := Tch.ext (Ext.refl tb) tr; exact L_nil (tf _ _ tu tt)
   ·intro ta tb tc td te Q tf; have tg : V _ (ta 77) (([([(⟨3, 1, 0, 0, false⟩ : Deed), t6, (⟨5, 0, 0, 0, false⟩ : Deed)] : List Deed), ([(⟨3, 0, 0, 0, false⟩ : Deed), t8, (⟨5, 0, 0, 0, false⟩ : Deed)] : List Deed)] : List (List Deed)) : List (List Deed)) := td 8 77 (by kernel_rfl) (by kernel_rfl); obtain ⟨th, ti, tj⟩ : ∃ v, _ = v ∧ V _ v _ := ⟨_, rfl, tg⟩; exact asg ti (fin tf tj)
   ·intro ta tb tc td te
    have tf := Tch.ext t5 tc
    have tg : ta 2 = Value.pointer (some ⟨kn, 0, none⟩) := (te 2 (by kernel_rfl)).trans gv
    have th : V _ (ta 11) (([([(⟨3, 1, 0, 0, false⟩ : Deed), t6, (⟨5, 0, 0, 0, false⟩ : Deed)] : List Deed), ([(⟨3, 0, 0, 0, false⟩ : Deed), t8, (⟨5, 0, 0, 0, false⟩ : Deed)] : List Deed)] : List (List Deed)) : List (List Deed)) := td 9 11 (by kernel_rfl)
    obtain ⟨ti, tj, tk⟩ : ∃ v, _ = v ∧ V _ v _ := ⟨_, rfl, th⟩
    refine then_n (sr (mv tj ?_))
    obtain ⟨tl, tm, hr⟩ := bind_some hr
    refine L_calls cal18 (args1 (rfl : _ = ti)) (dead_Decide_ok N _ _ _ tk tl tm) (by decide) (fun tn tp tq tr => ?_)
    have ts := Tch.ext tf tq
    obtain ⟨tt, tu, rfl, tv, tw⟩ := tr
    obtain rfl := tw.int
    refine mv (rfl : _ = Value.tuple #[tt, Value.int .i64 (tl.2)]) (L_extract (rfl : _ = Value.tuple #[tt, Value.int .i64 (tl.2)]) (k := 0) rfl (by decide) (L_extract (rfl : _ = Value.tuple #[tt, Value.int .i64 (tl.2)]) (k := 1) rfl (by decide) (L_store ty40 tg (rfl : _ = tt) tv (((((((((gw).ext u2).tch ud ((fun k hk => u6 k hk) kn rfl)).ext uk).tch uq ((fun k hk => uo k hk) kn rfl)).ext ux).tch t3 ((fun k hk => t1 k hk) kn rfl)).ext tc).ext tq) (fun tx ty tz => ?_))))
    have c0 := Tch.trans ts ty (fun k hk => Or.inr (by subst hk; exact (Nat.le_trans kh.size kp)))
    refine asg (rfl : _ = Value.int .i64 (tl.2)) (nn (sr (mv tj ?_)))
    obtain ⟨c1, c2, hr⟩ := bind_some hr
    refine L_calls cal22 (args2 (rfl : _ = ti) (rfl : _ = Value.int .i64 (0))) (dead_Show_ok N _ _ _ (tk.mono (tq.le.trans ty.le)) 0 c1 c2) (by decide) (fun c3 c4 c5 c6 => ?_)
    have c7 := Tch.ext c0 c5
    obtain ⟨c8, c9, rfl, ca, cb⟩ := c6
    obtain rfl := cb.int
    refine mv (rfl : _ = Value.tuple #[c8, Value.int .i64 (c1.2)]) (L_extract (rfl : _ = Value.tuple #[c8, Value.int .i64 (c1.2)]) (k := 0) rfl (by decide) (L_extract (rfl : _ = Value.tuple #[c8, Value.int .i64 (c1.2)]) (k := 1) rfl (by decide) (asg (rfl : _ = c8) (asg (rfl : _ = Value.int .i64 (c1.2)) (nn (sr (mv tj (L_buildSlice (xs := ([0, 0, 0] : List Int)) Try.underlying23 tyz3 (Parts_cons rfl (rfl : _ = Value.int .i64 (0)) (Parts_cons rfl (rfl : _ = Value.int .i64 (0)) (Parts_cons rfl (rfl : _ = Value.int .i64 (0)) Parts_nil))) (Vs.cons Vint (Vs.cons Vint (Vs.cons Vint Vs.nil))) rfl (by decide) (by decide) (fun cc cd ce cf cg => ?_)))))))))
    have ch := Tch.ext c7 ce
    obtain ⟨ci, cj, hr⟩ := bind_some hr
    refine L_calls cal11 (args3 (rfl : _ = ti) (rfl : _ = Value.int .i64 (0)) (rfl : _ = cd)) (dead_Follow_ok N _ _ _ (tk.mono (tq.le.trans (ty.le.trans (c5.le.trans ce.le)))) 0 _ _ cg ci cj) (by decide) (fun ck cl cm cn => ?_)
    have co := Tch.ext ch cm
    obtain ⟨cp, cq, cr, rfl, cs, ct, cu⟩ := cn
    obtain rfl := ct.bool
    obtain rfl := cu.int
    refine mv (rfl : _ = Value.tuple #[cp, Value.bool (ci.2.1), Value.int .i64 (ci.2.2)]) (L_extract (rfl : _ = Value.tuple #[cp, Value.bool (ci.2.1), Value.int .i64 (ci.2.2)]) (k := 0) rfl (by decide) (L_extract (rfl : _ = Value.tuple #[cp, Value.bool (ci.2.1), Value.int .i64 (ci.2.2)]) (k := 1) rfl (by decide) (L_extract (rfl : _ = Value.tuple #[cp, Value.bool (ci.2.1), Value.int .i64 (ci.2.2)]) (k := 2) rfl (by decide) (asg (rfl : _ = Value.int .i64 (ci.2.2)) (nn (W_seq ?_))))))
    obtain ⟨cv, cw, cx⟩ := bind_some hr
    refine W_seq_cut (fun f w => ∃ (s : St) (cy : Bool), s.w = w ∧ Ext s0 s ∧ Le cl s ∧ cy = cv ∧ f 115 = Value.bool cy ∧ f 2 = Value.pointer (some ⟨kn, 0, none⟩) ∧ Var s kn 40 tl.1) ?_ ?_
    ·have hr := cw
     refine W_region (L_load_var ty40 tg ((((tz).ext c5).ext ce).ext cm) (by decide) (fun cz d0 => L_bld40_0 (s := cl) (rfl : _ = Value.int .i64 (1)) (Vint : V _ _ (1 : Int)) (by decide) (fun d1 d2 => L_sne40 (rfl : _ = cz) d0 (rfl : _ = d1) d2 (by decide) (mv (rfl : _ = Value.bool (!decide (tl.1 = (⟨1, 0⟩ : Verdict)))) ?_))))
     rcases Bool.eq_false_or_eq_true (!decide (tl.1 = (⟨1, 0⟩ : Verdict))) with d3 | d3
     ·have hr := ite_t d3 hr; refine gf 98 (rfl : _ = Value.bool (!decide (tl.1 = (⟨1, 0⟩ : Verdict)))) d3 (gf 98 (rfl : _ = Value.bool (!decide (tl.1 = (⟨1, 0⟩ : Verdict)))) d3 (pt (rfl : _ = Value.bool (!decide (tl.1 = (⟨1, 0⟩ : Verdict)))) d3 (rfl : _ = Value.bool (true)) (mv (rfl : _ = Value.bool (true)) (gf 102 (rfl : _ = Value.bool (true)) rfl (gf 102 (rfl : _ = Value.bool (true)) rfl (pt (rfl : _ = Value.bool (true)) rfl (rfl : _ = Value.bool (true)) (mv (rfl : _ = Value.bool (true)) (gf 106 (rfl : _ = Value.bool (true)) rfl (gf 106 (rfl : _ = Value.bool (true)) rfl (pt (rfl : _ = Value.bool (true)) rfl (rfl : _ = Value.bool (true)) (mv (rfl : _ = Value.bool (true)) (gf 110 (rfl : _ = Value.bool (true)) rfl (gf 110 (rfl : _ = Value.bool (true)) rfl ?_))))))))))))); exact gf 110 (rfl : _ = Value.bool (true)) rfl (gf 110 (rfl : _ = Value.bool (true)) rfl (pt (rfl : _ = Value.bool (true)) rfl (rfl : _ = Value.bool (true)) (nn ⟨cl, true, rfl, co, (Le.refl _), Option.some.inj hr, rfl, tg, (((tz).ext c5).ext ce).ext cm⟩)))
     ·have hr := ite_f d3 hr
      refine gt 98 (rfl : _ = Value.bool (!decide (tl.1 = (⟨1, 0⟩ : Verdict)))) d3 (mv (rfl : _ = Value.int .i64 (tl.2)) (gt 98 (rfl : _ = Value.bool (!decide (tl.1 = (⟨1, 0⟩ : Verdict)))) d3 (L_neq (rfl : _ = Value.int .i64 (tl.2)) (rfl : _ = Value.int .i64 (0)) (by decide) (pf (rfl : _ = Value.bool (!decide (tl.1 = (⟨1, 0⟩ : Verdict)))) d3 (rfl : _ = Value.bool (!decide (tl.2 = 0))) (mv (rfl : _ = Value.bool (!decide (tl.2 = 0))) ?_)))))
      rcases Bool.eq_false_or_eq_true (!decide (tl.2 = 0)) with d4 | d4
      ·have hr := ite_t d4 hr; exact gf 102 (rfl : _ = Value.bool (!decide (tl.2 = 0))) d4 (gf 102 (rfl : _ = Value.bool (!decide (tl.2 = 0))) d4 (pt (rfl : _ = Value.bool (!decide (tl.2 = 0))) d4 (rfl : _ = Value.bool (true)) (mv (rfl : _ = Value.bool (true)) (gf 106 (rfl : _ = Value.bool (true)) rfl (gf 106 (rfl : _ = Value.bool (true)) rfl (pt (rfl : _ = Value.bool (true)) rfl (rfl : _ = Value.bool (true)) (mv (rfl : _ = Value.bool (true)) (gf 110 (rfl : _ = Value.bool (true)) rfl (gf 110 (rfl : _ = Value.bool (true)) rfl (gf 110 (rfl : _ = Value.bool (true)) rfl (gf 110 (rfl : _ = Value.bool (true)) rfl (pt (rfl : _ = Value.bool (true)) rfl (rfl : _ = Value.bool (true)) (nn ⟨cl, true, rfl, co, (Le.refl _), Option.some.inj hr, rfl, tg, (((tz).ext c5).ext ce).ext cm⟩)))))))))))))
      ·have hr := ite_f d4 hr
       refine gt 102 (rfl : _ = Value.bool (!decide (tl.2 = 0))) d4 (mv (rfl : _ = Value.int .i64 (c1.2)) (gt 102 (rfl : _ = Value.bool (!decide (tl.2 = 0))) d4 (L_neq (rfl : _ = Value.int .i64 (c1.2)) (rfl : _ = Value.int .i64 (0)) (by decide) (pf (rfl : _ = Value.bool (!decide (tl.2 = 0))) d4 (rfl : _ = Value.bool (!decide (c1.2 = 0))) (mv (rfl : _ = Value.bool (!decide (c1.2 = 0))) ?_)))))
       rcases Bool.eq_false_or_eq_true (!decide (c1.2 = 0)) with d5 | d5
       ·have hr := ite_t d5 hr; exact gf 106 (rfl : _ = Value.bool (!decide (c1.2 = 0))) d5 (gf 106 (rfl : _ = Value.bool (!decide (c1.2 = 0))) d5 (pt (rfl : _ = Value.bool (!decide (c1.2 = 0))) d5 (rfl : _ = Value.bool (true)) (mv (rfl : _ = Value.bool (true)) (gf 110 (rfl : _ = Value.bool (true)) rfl (gf 110 (rfl : _ = Value.bool (true)) rfl (gf 110 (rfl : _ = Value.bool (true)) rfl (gf 110 (rfl : _ = Value.bool (true)) rfl (pt (rfl : _ = Value.bool (true)) rfl (rfl : _ = Value.bool (true)) (nn ⟨cl, true, rfl, co, (Le.refl _), Option.some.inj hr, rfl, tg, (((tz).ext c5).ext ce).ext cm⟩)))))))))
       ·have hr := ite_f d5 hr
        refine gt 106 (rfl : _ = Value.bool (!decide (c1.2 = 0))) d5 (mv (rfl : _ = Value.int .i64 (ci.2.2)) (gt 106 (rfl : _ = Value.bool (!decide (c1.2 = 0))) d5 (L_neq (rfl : _ = Value.int .i64 (ci.2.2)) (rfl : _ = Value.int .i64 (6)) (by decide) (pf (rfl : _ = Value.bool (!decide (c1.2 = 0))) d5 (rfl : _ = Value.bool (!decide (ci.2.2 = 6))) (mv (rfl : _ = Value.bool (!decide (ci.2.2 = 6))) ?_)))))
        rcases Bool.eq_false_or_eq_true (!decide (ci.2.2 = 6)) with d6 | d6
        ·have hr := ite_t d6 hr; exact gf 110 (rfl : _ = Value.bool (!decide (ci.2.2 = 6))) d6 (gf 110 (rfl : _ = Value.bool (!decide (ci.2.2 = 6))) d6 (gf 110 (rfl : _ = Value.bool (!decide (ci.2.2 = 6))) d6 (gf 110 (rfl : _ = Value.bool (!decide (ci.2.2 = 6))) d6 (pt (rfl : _ = Value.bool (!decide (ci.2.2 = 6))) d6 (rfl : _ = Value.bool (true)) (nn ⟨cl, true, rfl, co, (Le.refl _), Option.some.inj hr, rfl, tg, (((tz).ext c5).ext ce).ext cm⟩)))))
        ·have hr := ite_f d6 hr; refine gt 110 (rfl : _ = Value.bool (!decide (ci.2.2 = 6))) d6 (mv (rfl : _ = c8) (gt 110 (rfl : _ = Value.bool (!decide (ci.2.2 = 6))) d6 (L_buildSlice (xs := ([0, 0, 1, 0, 1, 1] : List Int)) Try.underlying23 tyz3 (Parts_cons rfl (rfl : _ = Value.int .i64 (0)) (Parts_cons rfl (rfl : _ = Value.int .i64 (0)) (Parts_cons rfl (rfl : _ = Value.int .i64 (1)) (Parts_cons rfl (rfl : _ = Value.int .i64 (0)) (Parts_cons rfl (rfl : _ = Value.int .i64 (1)) (Parts_cons rfl (rfl : _ = Value.int .i64 (1)) Parts_nil)))))) (Vs.cons Vint (Vs.cons Vint (Vs.cons Vint (Vs.cons Vint (Vs.cons Vint (Vs.cons Vint Vs.nil)))))) rfl (by decide) (by decide) (fun d7 d8 d9 da db => ?_)))); have dc := Tch.ext co d9; refine gt 110 (rfl : _ = Value.bool (!decide (ci.2.2 = 6))) d6 ?_; obtain ⟨dd, de, hr⟩ := bind_some hr; refine L_calls cal14 (args2 (rfl : _ = c8) (rfl : _ = d8)) (ref01_SameInts_ok N _ _ _ (ca.mono (ce.le.trans (cm.le.trans d9.le))) _ _ db dd de) (by decide) (fun df dg dh di => ?_); have dj := Tch.ext dc dh; obtain rfl := di.bool; exact gt 110 (rfl : _ = Value.bool (!decide (ci.2.2 = 6))) d6 (L_not (rfl : _ = Value.bool (dd)) (by decide) (pf (rfl : _ = Value.bool (!decide (ci.2.2 = 6))) d6 (rfl : _ = Value.bool (!dd)) (nn ⟨dg, (!dd), rfl, dj, (d9.le.trans dh.le), Option.some.inj hr, rfl, tg, (((((tz).ext c5).ext ce).ext cm).ext d9).ext dh⟩)))
    ·rintro cz d0 ⟨d1, cy, rfl, d2, d3, cw, d4, d5, d6⟩
     subst cw
     have hr := cx
     try dsimp only at hr
     refine W_cond _ d4 (fun d7 => ?_) (fun d7 => ?_)
     ·have hr := ite_t d7 hr; refine sr (asg (rfl : _ = Value.bool (false)) (nn (W_ret (then_r ?_)))); obtain rfl := Option.some.inj hr; exact done1 (Or.inl rfl) Try.results10 rfl ⟨_, _, rfl, rfl, d2, Vbool⟩
     ·have hr := ite_f d7 hr
      refine W_skip (then_n (sr ?_))
      obtain ⟨d8, d9, hr⟩ := bind_some hr
      refine L_calls cal28 (args2 (rfl : _ = Value.int .i64 (1)) (rfl : _ = Value.int .i64 (0))) (law08_send_ok N _ 1 0 d8 d9) (by decide) (fun da db dc dd => ?_)
      have de := Tch.ext d2 dc
      obtain ⟨df, dg, hr⟩ := bind_some hr
      refine L_calls cal28 (args2 (rfl : _ = Value.int .i64 (1)) (rfl : _ = Value.int .i64 (0))) (law08_send_ok N _ 1 0 df dg) (by decide) (fun dh di dj dk => ?_)
      have dl := Tch.ext de dj
      obtain ⟨dm, dn, hr⟩ := bind_some hr
      refine L_calls cal28 (args2 (rfl : _ = Value.int .i64 (1)) (rfl : _ = Value.int .i64 (1))) (law08_send_ok N _ 1 1 dm dn) (by decide) (fun dp dq dr ds => ?_)
      have dt := Tch.ext dl dr
      refine L_buildSlice (xs := ([d8, df, dm] : List Deed)) Try.underlying59 tyz64 (Parts_cons rfl (rfl : _ = da) (Parts_cons rfl (rfl : _ = dh) (Parts_cons rfl (rfl : _ = dp) Parts_nil))) (Vs.cons (dd.mono (dj.le.trans dr.le)) (Vs.cons (dk.mono dr.le) (Vs.cons ds Vs.nil))) rfl (by decide) (by decide) (fun du dv dw dx dy => ?_)
      have dz := Tch.ext dt dw
      obtain ⟨p0, p1, hr⟩ := bind_some hr
      refine L_calls cal29 (args2 (rfl : _ = Value.int .i64 (0)) (rfl : _ = Value.int .i64 (1))) (law08_recv_ok N _ 0 1 p0 p1) (by decide) (fun p2 p3 p4 p5 => ?_)
      have p6 := Tch.ext dz p4
      obtain ⟨p7, p8, hr⟩ := bind_some hr
      refine L_calls cal29 (args2 (rfl : _ = Value.int .i64 (0)) (rfl : _ = Value.int .i64 (0))) (law08_recv_ok N _ 0 0 p7 p8) (by decide) (fun p9 pa pb pc => ?_)
      have pd := Tch.ext p6 pb
      obtain ⟨pe, pg, hr⟩ := bind_some hr
      refine L_calls cal29 (args2 (rfl : _ = Value.int .i64 (0)) (rfl : _ = Value.int .i64 (0))) (law08_recv_ok N _ 0 0 pe pg) (by decide) (fun ph pi pj pk => ?_)
      have pl := Tch.ext pd pj
      refine L_buildSlice (xs := ([p0, p7, pe] : List Deed)) Try.underlying59 tyz64 (Parts_cons rfl (rfl : _ = p2) (Parts_cons rfl (rfl : _ = p9) (Parts_cons rfl (rfl : _ = ph) Parts_nil))) (Vs.cons (p5.mono (pb.le.trans pj.le)) (Vs.cons (pc.mono pj.le) (Vs.cons pk Vs.nil))) rfl (by decide) (by decide) (fun pm pn po pp pq => ?_)
      have pr := Tch.ext pl po
      refine L_buildSlice (xs := ([([d8, df, dm] : List Deed), ([p0, p7, pe] : List Deed)] : List (List Deed))) Try.underlying29 tyz59 (Parts_cons rfl (rfl : _ = dv) (Parts_cons rfl (rfl : _ = pn) Parts_nil)) (Vs.cons (dy.mono (p4.le.trans (pb.le.trans (pj.le.trans po.le)))) (Vs.cons pq Vs.nil)) rfl (by decide) (by decide) (fun ps pu pv pw py => ?_)
      have pz := Tch.ext pr pv
      refine asg (rfl : _ = pu) (nn (sr (mv (rfl : _ = pu) ?_)))
      obtain ⟨q0, q1, hr⟩ := bind_some hr
      refine L_calls cal18 (args1 (rfl : _ = pu)) (dead_Decide_ok N _ _ _ py q0 q1) (by decide) (fun q2 q3 q4 q5 => ?_)
      have q6 := Tch.ext pz q4
      obtain ⟨q7, q8, rfl, q9, qa⟩ := q5
      obtain rfl := qa.int
      refine mv (rfl : _ = Value.tuple #[q7, Value.int .i64 (q0.2)]) (L_extract (rfl : _ = Value.tuple #[q7, Value.int .i64 (q0.2)]) (k := 0) rfl (by decide) (L_extract (rfl : _ = Value.tuple #[q7, Value.int .i64 (q0.2)]) (k := 1) rfl (by decide) (L_store ty40 d5 (rfl : _ = q7) q9 (((((((((((d6).ext dc).ext dj).ext dr).ext dw).ext p4).ext pb).ext pj).ext po).ext pv).ext q4) (fun qb qc qd => ?_))))
      have qe := Tch.trans q6 qc (fun k hk => Or.inr (by subst hk; exact (Nat.le_trans kh.size kp)))
      refine asg (rfl : _ = Value.int .i64 (q0.2)) (nn (sr ?_))
      obtain ⟨qf, qg, hr⟩ := bind_some hr
      refine L_calls cal29 (args2 (rfl : _ = Value.int .i64 (-1)) (rfl : _ = Value.int .i64 (3))) (law08_recv_ok N _ (-1) 3 qf qg) (by decide) (fun qh qi qj qk => ?_)
      have ql := Tch.ext qe qj
      obtain ⟨qm, qn, hr⟩ := bind_some hr
      refine L_calls cal29 (args2 (rfl : _ = Value.int .i64 (-1)) (rfl : _ = Value.int .i64 (3))) (law08_recv_ok N _ (-1) 3 qm qn) (by decide) (fun qo qp qq qr => ?_)
      have qs := Tch.ext ql qq
      refine L_buildSlice (xs := ([qf, qm] : List Deed)) Try.underlying59 tyz64 (Parts_cons rfl (rfl : _ = qh) (Parts_cons rfl (rfl : _ = qo) Parts_nil)) (Vs.cons (qk.mono qq.le) (Vs.cons qr Vs.nil)) rfl (by decide) (by decide) (fun qt qu qv qw qx => ?_)
      have qy := Tch.ext qs qv
      obtain ⟨qz, o0, hr⟩ := bind_some hr
      refine L_calls cal28 (args2 (rfl : _ = Value.int .i64 (0)) (rfl : _ = Value.int .i64 (3))) (law08_send_ok N _ 0 3 qz o0) (by decide) (fun o1 o2 o3 o4 => ?_)
      have o5 := Tch.ext qy o3
      refine L_buildSlice (xs := ([qz] : List Deed)) Try.underlying59 tyz64 (Parts_cons rfl (rfl : _ = o1) Parts_nil) (Vs.cons o4 Vs.nil) rfl (by decide) (by decide) (fun o6 o7 o8 o9 oa => ?_)
      have ob := Tch.ext o5 o8
      obtain ⟨oc, od, hr⟩ := bind_some hr
      refine L_calls cal28 (args2 (rfl : _ = Value.int .i64 (0)) (rfl : _ = Value.int .i64 (3))) (law08_send_ok N _ 0 3 oc od) (by decide) (fun oe og oh oi => ?_)
      have oj := Tch.ext ob oh
      refine L_buildSlice (xs := ([oc] : List Deed)) Try.underlying59 tyz64 (Parts_cons rfl (rfl : _ = oe) Parts_nil) (Vs.cons oi Vs.nil) rfl (by decide) (by decide) (fun ok ol om oo op => ?_)
      have oq := Tch.ext oj om
      refine L_buildSlice (xs := ([([qf, qm] : List Deed), ([qz] : List Deed), ([oc] : List Deed)] : List (List Deed))) Try.underlying29 tyz59 (Parts_cons rfl (rfl : _ = qu) (Parts_cons rfl (rfl : _ = o7) (Parts_cons rfl (rfl : _ = ol) Parts_nil))) (Vs.cons (qx.mono (o3.le.trans (o8.le.trans (oh.le.trans om.le)))) (Vs.cons (oa.mono (oh.le.trans om.le)) (Vs.cons op Vs.nil))) rfl (by decide) (by decide) (fun os ot ou ov ow => ?_)
      have ox := Tch.ext oq ou
      obtain ⟨oy, oz, hr⟩ := bind_some hr
      refine L_calls cal18 (args1 (rfl : _ = ot)) (dead_Decide_ok N _ _ _ ow oy oz) (by decide) (fun b0 b1 b2 b3 => ?_)
      have b4 := Tch.ext ox b2
      obtain ⟨b5, b6, rfl, b7, b8⟩ := b3
      obtain rfl := b8.int
      refine mv (rfl : _ = Value.tuple #[b5, Value.int .i64 (oy.2)]) (L_extract (rfl : _ = Value.tuple #[b5, Value.int .i64 (oy.2)]) (k := 0) rfl (by decide) (L_extract (rfl : _ = Value.tuple #[b5, Value.int .i64 (oy.2)]) (k := 1) rfl (by decide) (L_alloc (α := Verdict) (x := ⟨0, 0⟩) zero40 Verdict.zero_rel (by decide) (fun b9 ba bb bc bd => ?_))))
      have be := Tch.ext b4 bb
      have bf : ∀ k, (fun k => k = kn) k → ¬ (fun k => k = ba) k := fun k u7 u9 => by have ua := (fun k (hk : k = kn) => lt_at hk ((((((((((qd).ext qj).ext qq).ext qv).ext o3).ext o8).ext oh).ext om).ext ou).ext b2).lt) k u7; have ub := bc; subst u9; omega
      refine L_store_ro ty40 (rfl : _ = Value.pointer (some ⟨ba, 0, none⟩)) (rfl : _ = b5) (b7.mono bb.le) (bd) (fun bg bh bi => ?_)
      have bj := Tch.trans be bh (fun k hk => Or.inr (by subst hk; exact (Nat.le_trans b4.size bc)))
      refine asg (rfl : _ = Value.int .i64 (oy.2)) (nn (W_seq ?_))
      obtain ⟨bk, bl, bm⟩ := bind_some hr
      refine W_seq_cut (fun f w => ∃ (s : St) (bn : Bool), s.w = w ∧ Ext s0 s ∧ Le bg s ∧ bn = bk ∧ f 157 = Value.bool bn) ?_ ?_
      ·have hr := bl
       refine W_region (L_load_var ty40 d5 ((((((((((((qd).ext qj).ext qq).ext qv).ext o3).ext o8).ext oh).ext om).ext ou).ext b2).ext bb).tch bh ((fun k hk => bf k hk) kn rfl)) (by decide) (fun bo bp => L_bld40_0_1 (s := bg) (rfl : _ = Value.int .i64 (2)) (rfl : _ = Value.int .i64 (2)) (Vint : V _ _ (2 : Int)) (Vint : V _ _ (2 : Int)) (by decide) (fun bq br => L_sne40 (rfl : _ = bo) bp (rfl : _ = bq) br (by decide) (mv (rfl : _ = Value.bool (!decide (q0.1 = (⟨2, 2⟩ : Verdict)))) ?_))))
       rcases Bool.eq_false_or_eq_true (!decide (q0.1 = (⟨2, 2⟩ : Verdict))) with bs | bs
       ·have hr := ite_t bs hr; exact gf 145 (rfl : _ = Value.bool (!decide (q0.1 = (⟨2, 2⟩ : Verdict)))) bs (gf 145 (rfl : _ = Value.bool (!decide (q0.1 = (⟨2, 2⟩ : Verdict)))) bs (pt (rfl : _ = Value.bool (!decide (q0.1 = (⟨2, 2⟩ : Verdict)))) bs (rfl : _ = Value.bool (true)) (mv (rfl : _ = Value.bool (true)) (gf 149 (rfl : _ = Value.bool (true)) rfl (gf 149 (rfl : _ = Value.bool (true)) rfl (gf 149 (rfl : _ = Value.bool (true)) rfl (pt (rfl : _ = Value.bool (true)) rfl (rfl : _ = Value.bool (true)) (mv (rfl : _ = Value.bool (true)) (gf 154 (rfl : _ = Value.bool (true)) rfl (gf 154 (rfl : _ = Value.bool (true)) rfl (pt (rfl : _ = Value.bool (true)) rfl (rfl : _ = Value.bool (true)) (nn ⟨bg, true, rfl, bj, (Le.refl _), Option.some.inj hr, rfl⟩))))))))))))
       ·have hr := ite_f bs hr
        refine gt 145 (rfl : _ = Value.bool (!decide (q0.1 = (⟨2, 2⟩ : Verdict)))) bs (mv (rfl : _ = Value.int .i64 (q0.2)) (gt 145 (rfl : _ = Value.bool (!decide (q0.1 = (⟨2, 2⟩ : Verdict)))) bs (L_neq (rfl : _ = Value.int .i64 (q0.2)) (rfl : _ = Value.int .i64 (0)) (by decide) (pf (rfl : _ = Value.bool (!decide (q0.1 = (⟨2, 2⟩ : Verdict)))) bs (rfl : _ = Value.bool (!decide (q0.2 = 0))) (mv (rfl : _ = Value.bool (!decide (q0.2 = 0))) ?_)))))
        rcases Bool.eq_false_or_eq_true (!decide (q0.2 = 0)) with bt | bt
        ·have hr := ite_t bt hr; exact gf 149 (rfl : _ = Value.bool (!decide (q0.2 = 0))) bt (gf 149 (rfl : _ = Value.bool (!decide (q0.2 = 0))) bt (gf 149 (rfl : _ = Value.bool (!decide (q0.2 = 0))) bt (pt (rfl : _ = Value.bool (!decide (q0.2 = 0))) bt (rfl : _ = Value.bool (true)) (mv (rfl : _ = Value.bool (true)) (gf 154 (rfl : _ = Value.bool (true)) rfl (gf 154 (rfl : _ = Value.bool (true)) rfl (pt (rfl : _ = Value.bool (true)) rfl (rfl : _ = Value.bool (true)) (nn ⟨bg, true, rfl, bj, (Le.refl _), Option.some.inj hr, rfl⟩))))))))
        ·have hr := ite_f bt hr
         refine gt 149 (rfl : _ = Value.bool (!decide (q0.2 = 0))) bt (L_load ty40 (rfl : _ = Value.pointer (some ⟨ba, 0, none⟩)) bi (by decide) (fun bu bv => gt 149 (rfl : _ = Value.bool (!decide (q0.2 = 0))) bt (L_bld40_0 (s := bg) (rfl : _ = Value.int .i64 (4)) (Vint : V _ _ (4 : Int)) (by decide) (fun bw bx => gt 149 (rfl : _ = Value.bool (!decide (q0.2 = 0))) bt (L_sne40 (rfl : _ = bu) bv (rfl : _ = bw) bx (by decide) (pf (rfl : _ = Value.bool (!decide (q0.2 = 0))) bt (rfl : _ = Value.bool (!decide (oy.1 = (⟨4, 0⟩ : Verdict)))) (mv (rfl : _ = Value.bool (!decide (oy.1 = (⟨4, 0⟩ : Verdict)))) ?_)))))))
         rcases Bool.eq_false_or_eq_true (!decide (oy.1 = (⟨4, 0⟩ : Verdict))) with bz | bz
         ·have hr := ite_t bz hr; exact gf 154 (rfl : _ = Value.bool (!decide (oy.1 = (⟨4, 0⟩ : Verdict)))) bz (gf 154 (rfl : _ = Value.bool (!decide (oy.1 = (⟨4, 0⟩ : Verdict)))) bz (pt (rfl : _ = Value.bool (!decide (oy.1 = (⟨4, 0⟩ : Verdict)))) bz (rfl : _ = Value.bool (true)) (nn ⟨bg, true, rfl, bj, (Le.refl _), Option.some.inj hr, rfl⟩)))
         ·have hr := ite_f bz hr; exact gt 154 (rfl : _ = Value.bool (!decide (oy.1 = (⟨4, 0⟩ : Verdict)))) bz (mv (rfl : _ = Value.int .i64 (oy.2)) (gt 154 (rfl : _ = Value.bool (!decide (oy.1 = (⟨4, 0⟩ : Verdict)))) bz (L_neq (rfl : _ = Value.int .i64 (oy.2)) (rfl : _ = Value.int .i64 (0)) (by decide) (pf (rfl : _ = Value.bool (!decide (oy.1 = (⟨4, 0⟩ : Verdict)))) bz (rfl : _ = Value.bool (!decide (oy.2 = 0))) (nn ⟨bg, (!decide (oy.2 = 0)), rfl, bj, (Le.refl _), Option.some.inj hr, rfl⟩)))))
      ·rintro bo bp ⟨bq, bn, rfl, br, bs, bl, bt⟩
       subst bl
       have hr := bm
       try dsimp only at hr
       refine W_cond _ bt (fun bu => ?_) (fun bu => ?_)
       ·have hr := ite_t bu hr; refine sr (asg (rfl : _ = Value.bool (false)) (nn (W_ret (then_r ?_)))); obtain rfl := Option.some.inj hr; exact done1 (Or.inl rfl) Try.results10 rfl ⟨_, _, rfl, rfl, br, Vbool⟩
       ·have hr := ite_f bu hr
        refine W_skip (then_n (sr ?_))
        obtain ⟨bv, bw, hr⟩ := bind_some hr
        refine L_calls cal29 (args2 (rfl : _ = Value.int .i64 (1)) (rfl : _ = Value.int .i64 (0))) (law08_recv_ok N _ 1 0 bv bw) (by decide) (fun bx bz j00 j01 => ?_)
        have j02 := Tch.ext br j00
        refine L_buildSlice (xs := ([bv] : List Deed)) Try.underlying59 tyz64 (Parts_cons rfl (rfl : _ = bx) Parts_nil) (Vs.cons j01 Vs.nil) rfl (by decide) (by decide) (fun j03 j04 j05 j06 j07 => ?_)
        have j08 := Tch.ext j02 j05
        refine L_buildSlice (xs := ([] : List Deed)) Try.underlying59 tyz64 Parts_nil Vs.nil rfl (by decide) (by decide) (fun j09 j0a j0b j0c j0d => ?_)
        have j0e := Tch.ext j08 j0b
        refine L_buildSlice (xs := ([([bv] : List Deed), ([] : List Deed)] : List (List Deed))) Try.underlying29 tyz59 (Parts_cons rfl (rfl : _ = j04) (Parts_cons rfl (rfl : _ = j0a) Parts_nil)) (Vs.cons (j07.mono j0b.le) (Vs.cons j0d Vs.nil)) rfl (by decide) (by decide) (fun j0f j0g j0h j0i j0j => ?_)
        have j0k := Tch.ext j0e j0h
        obtain ⟨j0l, j0m, hr⟩ := bind_some hr
        refine L_calls cal24 (args2 (rfl : _ = j0g) (rfl : _ = Value.int .i64 (0))) (dead_Blocks_ok N _ _ _ j0j 0 j0l j0m) (by decide) (fun j0n j0o j0p j0q => ?_)
        have j0r := Tch.ext j0k j0p
        obtain ⟨j0s, j0t, rfl, j0u, j0v⟩ := j0q
        obtain rfl := j0v.int
        refine mv (rfl : _ = Value.tuple #[j0s, Value.int .i64 (j0l.2)]) (L_extract (rfl : _ = Value.tuple #[j0s, Value.int .i64 (j0l.2)]) (k := 0) rfl (by decide) (L_extract (rfl : _ = Value.tuple #[j0s, Value.int .i64 (j0l.2)]) (k := 1) rfl (by decide) (asg (rfl : _ = j0s) (asg (rfl : _ = Value.int .i64 (j0l.2)) (nn (sr ?_))))))
        obtain ⟨j0w, j0x, hr⟩ := bind_some hr
        refine L_calls cal29 (args2 (rfl : _ = Value.int .i64 (1)) (rfl : _ = Value.int .i64 (0))) (law08_recv_ok N _ 1 0 j0w j0x) (by decide) (fun j0y j0z j10 j11 => ?_)
        have j12 := Tch.ext j0r j10
        refine L_buildSlice (xs := ([j0w] : List Deed)) Try.underlying59 tyz64 (Parts_cons rfl (rfl : _ = j0y) Parts_nil) (Vs.cons j11 Vs.nil) rfl (by decide) (by decide) (fun j13 j14 j15 j16 j17 => ?_)
        have j18 := Tch.ext j12 j15
        refine L_buildSlice (xs := ([] : List Deed)) Try.underlying59 tyz64 Parts_nil Vs.nil rfl (by decide) (by decide) (fun j19 j1a j1b j1c j1d => ?_)
        have j1e := Tch.ext j18 j1b
        refine L_buildSlice (xs := ([([j0w] : List Deed), ([] : List Deed)] : List (List Deed))) Try.underlying29 tyz59 (Parts_cons rfl (rfl : _ = j14) (Parts_cons rfl (rfl : _ = j1a) Parts_nil)) (Vs.cons (j17.mono j1b.le) (Vs.cons j1d Vs.nil)) rfl (by decide) (by decide) (fun j1f j1g j1h j1i j1j => ?_)
        have j1k := Tch.ext j1e j1h
        obtain ⟨j1l, j1m, hr⟩ := bind_some hr
        refine L_calls cal18 (args1 (rfl : _ = j1g)) (dead_Decide_ok N _ _ _ j1j j1l j1m) (by decide) (fun j1n j1o j1p j1q => ?_)
        have j1r := Tch.ext j1k j1p
        obtain ⟨j1s, j1t, rfl, j1u, j1v⟩ := j1q
        obtain rfl := j1v.int
        refine mv (rfl : _ = Value.tuple #[j1s, Value.int .i64 (j1l.2)]) (L_extract (rfl : _ = Value.tuple #[j1s, Value.int .i64 (j1l.2)]) (k := 0) rfl (by decide) (L_extract (rfl : _ = Value.tuple #[j1s, Value.int .i64 (j1l.2)]) (k := 1) rfl (by decide) (L_alloc (α := Verdict) (x := ⟨0, 0⟩) zero40 Verdict.zero_rel (by decide) (fun j1w j1x j1y j1z j20 => ?_))))
        have j21 := Tch.ext j1r j1y
        refine L_store_ro ty40 (rfl : _ = Value.pointer (some ⟨j1x, 0, none⟩)) (rfl : _ = j1s) (j1u.mono j1y.le) (j20) (fun j22 j23 j24 => ?_)
        have j25 := Tch.trans j21 j23 (fun k hk => Or.inr (by subst hk; exact (Nat.le_trans j1r.size j1z)))
        refine asg (rfl : _ = Value.int .i64 (j1l.2)) (nn (sr (mv (rfl : _ = Value.int .i64 (j0l.2)) (L_eql (rfl : _ = Value.int .i64 (j0l.2)) (rfl : _ = Value.int .i64 (0)) (by decide) (mv (rfl : _ = Value.bool (decide (j0l.2 = 0))) ?_)))))
        rcases Bool.eq_false_or_eq_true (decide (j0l.2 = 0)) with j26 | j26
        ·have hr := ite_t j26 hr
         refine gt 176 (rfl : _ = Value.bool (decide (j0l.2 = 0))) j26 (mv (rfl : _ = Value.int .i64 (j1l.2)) (gt 176 (rfl : _ = Value.bool (decide (j0l.2 = 0))) j26 (L_eql (rfl : _ = Value.int .i64 (j1l.2)) (rfl : _ = Value.int .i64 (0)) (by decide) (pt (rfl : _ = Value.bool (decide (j0l.2 = 0))) j26 (rfl : _ = Value.bool (decide (j1l.2 = 0))) (mv (rfl : _ = Value.bool (decide (j1l.2 = 0))) ?_)))))
         rcases Bool.eq_false_or_eq_true (decide (j1l.2 = 0)) with j27 | j27
         ·have hr := ite_t j27 hr
          refine gt 180 (rfl : _ = Value.bool (decide (j1l.2 = 0))) j27 (mv (rfl : _ = j0s) (gt 180 (rfl : _ = Value.bool (decide (j1l.2 = 0))) j27 (L_len Try.underlying53 (rfl : _ = j0s) (j0u.mono (j10.le.trans (j15.le.trans (j1b.le.trans (j1h.le.trans (j1p.le.trans (j1y.le.trans j23.le))))))) (by decide) (gt 180 (rfl : _ = Value.bool (decide (j1l.2 = 0))) j27 (L_eql (rfl : _ = Value.int .i64 ((j0l.1.length : Int))) (rfl : _ = Value.int .i64 (1)) (by decide) (pt (rfl : _ = Value.bool (decide (j1l.2 = 0))) j27 (rfl : _ = Value.bool (decide ((j0l.1.length : Int) = 1))) (mv (rfl : _ = Value.bool (decide ((j0l.1.length : Int) = 1))) ?_)))))))
          rcases Bool.eq_false_or_eq_true (decide ((j0l.1.length : Int) = 1)) with j28 | j28
          ·have hr := ite_t j28 hr
           refine gt 185 (rfl : _ = Value.bool (decide ((j0l.1.length : Int) = 1))) j28 (mv (rfl : _ = j0s) (gt 185 (rfl : _ = Value.bool (decide ((j0l.1.length : Int) = 1))) j28 ?_))
           obtain ⟨j29, j2a, hr⟩ := bind_some hr
           refine L_index Try.underlying53 ty58.inf (rfl : _ = j0s) (j0u.mono (j10.le.trans (j15.le.trans (j1b.le.trans (j1h.le.trans (j1p.le.trans (j1y.le.trans j23.le))))))) (rfl : _ = Value.int .i64 (0)) j2a (by decide) (fun j2b j2c => gt 185 (rfl : _ = Value.bool (decide ((j0l.1.length : Int) = 1))) j28 (L_fieldAddr fld58_0 Block.of_Process (rfl : _ = j2b) j2c (by decide) (fun j2d j2e => gt 185 (rfl : _ = Value.bool (decide ((j0l.1.length : Int) = 1))) j28 (li ty3 (rfl : _ = j2d) j2e (gt 185 (rfl : _ = Value.bool (decide ((j0l.1.length : Int) = 1))) j28 (L_eql (rfl : _ = Value.int .i64 (j29.Proc)) (rfl : _ = Value.int .i64 (0)) (by decide) (pt (rfl : _ = Value.bool (decide ((j0l.1.length : Int) = 1))) j28 (rfl : _ = Value.bool (decide (j29.Proc = 0))) (mv (rfl : _ = Value.bool (decide (j29.Proc = 0))) ?_))))))))
           rcases Bool.eq_false_or_eq_true (decide (j29.Proc = 0)) with j2f | j2f
           ·have hr := ite_t j2f hr
            refine gt 192 (rfl : _ = Value.bool (decide (j29.Proc = 0))) j2f (mv (rfl : _ = j0s) (gt 192 (rfl : _ = Value.bool (decide (j29.Proc = 0))) j2f ?_))
            obtain ⟨j2g, j2h, hr⟩ := bind_some hr
            refine L_index Try.underlying53 ty58.inf (rfl : _ = j0s) (j0u.mono (j10.le.trans (j15.le.trans (j1b.le.trans (j1h.le.trans (j1p.le.trans (j1y.le.trans j23.le))))))) (rfl : _ = Value.int .i64 (0)) j2h (by decide) (fun j2i j2j => gt 192 (rfl : _ = Value.bool (decide (j29.Proc = 0))) j2f (L_fieldAddr fld58_2 Block.of_For (rfl : _ = j2i) j2j (by decide) (fun j2k j2l => gt 192 (rfl : _ = Value.bool (decide (j29.Proc = 0))) j2f (L_load ty23 (rfl : _ = j2k) j2l (by decide) (fun j2m j2n => gt 192 (rfl : _ = Value.bool (decide (j29.Proc = 0))) j2f (L_buildSlice (xs := ([1] : List Int)) Try.underlying23 tyz3 (Parts_cons rfl (rfl : _ = Value.int .i64 (1)) Parts_nil) (Vs.cons Vint Vs.nil) rfl (by decide) (by decide) (fun j2o j2p j2q j2r j2s => ?_)))))))
            have j2t := Tch.ext j25 j2q
            refine gt 192 (rfl : _ = Value.bool (decide (j29.Proc = 0))) j2f ?_
            obtain ⟨j2u, j2v, hr⟩ := bind_some hr
            refine L_calls cal14 (args2 (rfl : _ = j2m) (rfl : _ = j2p)) (ref01_SameInts_ok N _ _ _ (j2n.mono j2q.le) _ _ j2s j2u j2v) (by decide) (fun j2w j2x j2y j2z => ?_)
            have j30 := Tch.ext j2t j2y
            obtain rfl := j2z.bool
            refine pt (rfl : _ = Value.bool (decide (j29.Proc = 0))) j2f (rfl : _ = Value.bool (j2u)) (mv (rfl : _ = Value.bool (j2u)) ?_)
            rcases Bool.eq_false_or_eq_true (j2u) with j31 | j31
            ·have hr := ite_t j31 hr; refine gt 200 (rfl : _ = Value.bool (j2u)) j31 (L_fieldAddr fld40_0 Verdict.of_Kind (rfl : _ = Value.pointer (some ⟨j1x, 0, none⟩)) (j24.mono (j2q.le.trans j2y.le)) (by decide) (fun j32 j33 => gt 200 (rfl : _ = Value.bool (j2u)) j31 (li ty3 (rfl : _ = j32) j33 (gt 200 (rfl : _ = Value.bool (j2u)) j31 (L_eql (rfl : _ = Value.int .i64 (j1l.1.Kind)) (rfl : _ = Value.int .i64 (3)) (by decide) (pt (rfl : _ = Value.bool (j2u)) j31 (rfl : _ = Value.bool (decide (j1l.1.Kind = 3))) (asg (rfl : _ = Value.bool (decide (j1l.1.Kind = 3))) (nn (W_ret ?_))))))))); obtain rfl := Option.some.inj hr; exact done1 (Or.inl rfl) Try.results10 rfl ⟨_, _, rfl, rfl, j30, Vbool⟩
            ·have hr := ite_f j31 hr; refine gf 200 (rfl : _ = Value.bool (j2u)) j31 (gf 200 (rfl : _ = Value.bool (j2u)) j31 (gf 200 (rfl : _ = Value.bool (j2u)) j31 (pf (rfl : _ = Value.bool (j2u)) j31 (rfl : _ = Value.bool (false)) (asg (rfl : _ = Value.bool (false)) (nn (W_ret ?_)))))); obtain rfl := Option.some.inj hr; exact done1 (Or.inl rfl) Try.results10 rfl ⟨_, _, rfl, rfl, j30, Vbool⟩
           ·have hr := ite_f j2f hr; refine gf 192 (rfl : _ = Value.bool (decide (j29.Proc = 0))) j2f (gf 192 (rfl : _ = Value.bool (decide (j29.Proc = 0))) j2f (gf 192 (rfl : _ = Value.bool (decide (j29.Proc = 0))) j2f (gf 192 (rfl : _ = Value.bool (decide (j29.Proc = 0))) j2f (gf 192 (rfl : _ = Value.bool (decide (j29.Proc = 0))) j2f (gf 192 (rfl : _ = Value.bool (decide (j29.Proc = 0))) j2f (pf (rfl : _ = Value.bool (decide (j29.Proc = 0))) j2f (rfl : _ = Value.bool (false)) (mv (rfl : _ = Value.bool (false)) (gf 200 (rfl : _ = Value.bool (false)) rfl (gf 200 (rfl : _ = Value.bool (false)) rfl (gf 200 (rfl : _ = Value.bool (false)) rfl (pf (rfl : _ = Value.bool (false)) rfl (rfl : _ = Value.bool (false)) (asg (rfl : _ = Value.bool (false)) (nn ?_))))))))))))); refine W_ret ?_; obtain rfl := Option.some.inj hr; exact done1 (Or.inl rfl) Try.results10 rfl ⟨_, _, rfl, rfl, j25, Vbool⟩
          ·have hr := ite_f j28 hr; refine gf 185 (rfl : _ = Value.bool (decide ((j0l.1.length : Int) = 1))) j28 (gf 185 (rfl : _ = Value.bool (decide ((j0l.1.length : Int) = 1))) j28 (gf 185 (rfl : _ = Value.bool (decide ((j0l.1.length : Int) = 1))) j28 (gf 185 (rfl : _ = Value.bool (decide ((j0l.1.length : Int) = 1))) j28 (gf 185 (rfl : _ = Value.bool (decide ((j0l.1.length : Int) = 1))) j28 (pf (rfl : _ = Value.bool (decide ((j0l.1.length : Int) = 1))) j28 (rfl : _ = Value.bool (false)) (mv (rfl : _ = Value.bool (false)) (gf 192 (rfl : _ = Value.bool (false)) rfl (gf 192 (rfl : _ = Value.bool (false)) rfl (gf 192 (rfl : _ = Value.bool (false)) rfl (gf 192 (rfl : _ = Value.bool (false)) rfl (gf 192 (rfl : _ = Value.bool (false)) rfl (gf 192 (rfl : _ = Value.bool (false)) rfl (pf (rfl : _ = Value.bool (false)) rfl (rfl : _ = Value.bool (false)) ?_))))))))))))); refine mv (rfl : _ = Value.bool (false)) (gf 200 (rfl : _ = Value.bool (false)) rfl (gf 200 (rfl : _ = Value.bool (false)) rfl (gf 200 (rfl : _ = Value.bool (false)) rfl (pf (rfl : _ = Value.bool (false)) rfl (rfl : _ = Value.bool (false)) (asg (rfl : _ = Value.bool (false)) (nn (W_ret ?_))))))); obtain rfl := Option.some.inj hr; exact done1 (Or.inl rfl) Try.results10 rfl ⟨_, _, rfl, rfl, j25, Vbool⟩
         ·have hr := ite_f j27 hr; refine gf 180 (rfl : _ = Value.bool (decide (j1l.2 = 0))) j27 (gf 180 (rfl : _ = Value.bool (decide (j1l.2 = 0))) j27 (gf 180 (rfl : _ = Value.bool (decide (j1l.2 = 0))) j27 (pf (rfl : _ = Value.bool (decide (j1l.2 = 0))) j27 (rfl : _ = Value.bool (false)) (mv (rfl : _ = Value.bool (false)) (gf 185 (rfl : _ = Value.bool (false)) rfl (gf 185 (rfl : _ = Value.bool (false)) rfl (gf 185 (rfl : _ = Value.bool (false)) rfl (gf 185 (rfl : _ = Value.bool (false)) rfl (gf 185 (rfl : _ = Value.bool (false)) rfl (pf (rfl : _ = Value.bool (false)) rfl (rfl : _ = Value.bool (false)) (mv (rfl : _ = Value.bool (false)) (gf 192 (rfl : _ = Value.bool (false)) rfl (gf 192 (rfl : _ = Value.bool (false)) rfl ?_))))))))))))); refine gf 192 (rfl : _ = Value.bool (false)) rfl (gf 192 (rfl : _ = Value.bool (false)) rfl (gf 192 (rfl : _ = Value.bool (false)) rfl (gf 192 (rfl : _ = Value.bool (false)) rfl (pf (rfl : _ = Value.bool (false)) rfl (rfl : _ = Value.bool (false)) (mv (rfl : _ = Value.bool (false)) (gf 200 (rfl : _ = Value.bool (false)) rfl (gf 200 (rfl : _ = Value.bool (false)) rfl (gf 200 (rfl : _ = Value.bool (false)) rfl (pf (rfl : _ = Value.bool (false)) rfl (rfl : _ = Value.bool (false)) (asg (rfl : _ = Value.bool (false)) (nn (W_ret ?_)))))))))))); obtain rfl := Option.some.inj hr; exact done1 (Or.inl rfl) Try.results10 rfl ⟨_, _, rfl, rfl, j25, Vbool⟩
        ·have hr := ite_f j26 hr; refine gf 176 (rfl : _ = Value.bool (decide (j0l.2 = 0))) j26 (gf 176 (rfl : _ = Value.bool (decide (j0l.2 = 0))) j26 (pf (rfl : _ = Value.bool (decide (j0l.2 = 0))) j26 (rfl : _ = Value.bool (false)) (mv (rfl : _ = Value.bool (false)) (gf 180 (rfl : _ = Value.bool (false)) rfl (gf 180 (rfl : _ = Value.bool (false)) rfl (gf 180 (rfl : _ = Value.bool (false)) rfl (pf (rfl : _ = Value.bool (false)) rfl (rfl : _ = Value.bool (false)) (mv (rfl : _ = Value.bool (false)) (gf 185 (rfl : _ = Value.bool (false)) rfl (gf 185 (rfl : _ = Value.bool (false)) rfl (gf 185 (rfl : _ = Value.bool (false)) rfl (gf 185 (rfl : _ = Value.bool (false)) rfl (gf 185 (rfl : _ = Value.bool (false)) rfl ?_))))))))))))); refine pf (rfl : _ = Value.bool (false)) rfl (rfl : _ = Value.bool (false)) (mv (rfl : _ = Value.bool (false)) (gf 192 (rfl : _ = Value.bool (false)) rfl (gf 192 (rfl : _ = Value.bool (false)) rfl (gf 192 (rfl : _ = Value.bool (false)) rfl (gf 192 (rfl : _ = Value.bool (false)) rfl (gf 192 (rfl : _ = Value.bool (false)) rfl (gf 192 (rfl : _ = Value.bool (false)) rfl (pf (rfl : _ = Value.bool (false)) rfl (rfl : _ = Value.bool (false)) (mv (rfl : _ = Value.bool (false)) (gf 200 (rfl : _ = Value.bool (false)) rfl (gf 200 (rfl : _ = Value.bool (false)) rfl (gf 200 (rfl : _ = Value.bool (false)) rfl (pf (rfl : _ = Value.bool (false)) rfl (rfl : _ = Value.bool (false)) ?_))))))))))))); refine asg (rfl : _ = Value.bool (false)) (nn (W_ret ?_)); obtain rfl := Option.some.inj hr; exact done1 (Or.inl rfl) Try.results10 rfl ⟨_, _, rfl, rfl, j25, Vbool⟩

theorem law08_deeds_ok (N : Nat) (s0 : St) (w0 : Value) (a0 : List (List Deed)) (h0 : V s0 w0 a0) (r : (List (List Deed))) (hr : law08_deeds N a0 = some r) :
    Calls Try.prog 12 #[w0] s0.w (Ret s0 fun v s => V s v r) := by
 unfold law08_deeds at hr
 have j0 := Ext.refl s0
 refine Calls_of (n := 49) (args := [w0]) Try.func12 rfl rfl (by simp) (sr (asg (rfl : _ = Value.slice none 0 0) (nn (sr (asg (rfl : _ = Value.slice none 0 0) (nn (W_seq (sr (asg (rfl : _ = Value.int .i64 (0)) (nn ?_))))))))))
 obtain ⟨j1, j2, j3⟩ := bind_some hr
 refine W_cut (fun f w => ∃ (s : St) (j4 : Value) (j5 : List (List Deed)), s.w = w ∧ Ext s0 s ∧ Le s0 s ∧ j5 = j1 ∧ f 3 = j4 ∧ Bld s s0.w.heap.size 59 j4 j5) ?_ ?_
 ·refine W_block (W_loop (fun m f w => ∃ (s : St) (j6 : Value) (j7 : List (List Deed)) (j8 : Int), s.w = w ∧ Ext s0 s ∧ Le s0 s ∧ law08_deeds_l1 N a0 m j7 j8 = some j1 ∧ f 3 = j6 ∧ Bld s s0.w.heap.size 59 j6 j7 ∧ f 4 = Value.int .i64 j8 ∧ f 0 = w0) N ⟨s0, (Value.slice none 0 0), ([]), 0, rfl, j0, (Le.refl _), j2, rfl, Bld.nil, rfl, rfl⟩ ?_)
  rintro j9 ja jb ⟨jc, j6, j7, j8, rfl, jd, je, hr, jf, jg, jh, ji⟩
  cases j9 with
  | zero => exact absurd hr (by simp [law08_deeds_l1])
  | succ j9 =>
   rw [law08_deeds_l1.eq_2] at hr
   refine W_seq (sr (mv jh (mv ji (L_len Try.underlying22 (rfl : _ = w0) (h0.mono je) (by decide) (L_lss (rfl : _ = Value.int .i64 (j8)) (rfl : _ = Value.int .i64 ((a0.length : Int))) (by decide) (nn ?_))))))
   refine W_cond _ (rfl : _ = Value.bool (decide (j8 < (a0.length : Int)))) (fun jj => ?_) (fun jj => ?_)
   ·have hr := ite_t jj hr
    refine W_skip (then_n (W_seq (W_block (sr (asg (rfl : _ = Value.slice none 0 0) (nn (W_seq (sr (asg (rfl : _ = Value.int .i64 (0)) (nn ?_))))))))))
    obtain ⟨jk, jl, jm⟩ := bind_some hr
    refine W_cut (fun f w => ∃ (s : St) (jn : Value) (jo : List Deed), s.w = w ∧ Ext s0 s ∧ Le jc s ∧ jo = jk ∧ f 5 = jn ∧ Bld s s0.w.heap.size 64 jn jo ∧ f 0 = w0 ∧ f 3 = j6 ∧ f 4 = Value.int .i64 (j8) ∧ Bld s s0.w.heap.size 59 j6 j7 ∧ (∀ k, (own jn) k → ¬ (own j6) k)) ?_ ?_
    ·refine W_block (W_loop (fun m f w => ∃ (s : St) (jp : Value) (jq : List Deed) (jr : Int), s.w = w ∧ Ext s0 s ∧ Le jc s ∧ law08_deeds_l2 N a0 j8 m jq jr = some jk ∧ f 5 = jp ∧ Bld s s0.w.heap.size 64 jp jq ∧ f 6 = Value.int .i64 jr ∧ f 0 = w0 ∧ f 3 = j6 ∧ f 4 = Value.int .i64 (j8) ∧ Bld s s0.w.heap.size 59 j6 j7 ∧ (∀ k, (own jp) k → ¬ (own j6) k)) N ⟨jc, (Value.slice none 0 0), ([]), 0, rfl, jd, (Le.refl _), jl, rfl, Bld.nil, rfl, ji, jf, jh, jg, (fun k h => absurd h own_nil)⟩ ?_)
     rintro js jt ju ⟨jv, jp, jq, jr, rfl, jw, jx, hr, jy, jz, k0, k1, k2, k3, k4, k5⟩
     cases js with
     | zero => exact absurd hr (by simp [law08_deeds_l2])
     | succ js =>
      rw [law08_deeds_l2.eq_2] at hr
      refine W_seq (sr (mv k0 (mv k1 (mv k3 ?_))))
      obtain ⟨k6, k7, hr⟩ := bind_some hr
      refine L_index Try.underlying22 ty65.inf (rfl : _ = w0) (h0.mono (je.trans jx)) (rfl : _ = Value.int .i64 (j8)) k7 (by decide) (fun k8 k9 => L_load ty65 (rfl : _ = k8) k9 (by decide) (fun ka kb => L_len Try.underlying65 (rfl : _ = ka) kb (by decide) (L_lss (rfl : _ = Value.int .i64 (jr)) (rfl : _ = Value.int .i64 ((k6.length : Int))) (by decide) (nn ?_))))
      refine W_cond _ (rfl : _ = Value.bool (decide (jr < (k6.length : Int)))) (fun kc => ?_) (fun kc => ?_)
      ·have hr := ite_t kc hr
       refine W_skip (then_n (W_seq (W_block (sr (mv k1 (mv k3 ?_))))))
       obtain ⟨kd, ke, hr⟩ := bind_some hr
       refine L_index Try.underlying22 ty65.inf (rfl : _ = w0) (h0.mono (je.trans jx)) (rfl : _ = Value.int .i64 (j8)) ke (by decide) (fun kf kg => L_load ty65 (rfl : _ = kf) kg (by decide) (fun kh ki => mv k0 ?_))
       obtain ⟨kj, kk, hr⟩ := bind_some hr
       refine L_index Try.underlying65 ty74.inf (rfl : _ = kh) ki (rfl : _ = Value.int .i64 (jr)) kk (by decide) (fun kl km => L_load ty74 (rfl : _ = kl) km (by decide) (fun kn ko => L_alloc (α := Deed) (x := ⟨0, 0, 0, 0, false⟩) zero74 Deed.zero_rel (by decide) (fun kp kq kr ks kt => ?_)))
       have ku := Tch.ext jw kr
       have kv : ∀ k, (own jp) k → ¬ (fun k => k = kq) k := fun k kw kx => by have ky := (fun k hk => ((jz).lt hk).2) k kw; have kz := ks; subst kx; omega
       have g0 : ∀ k, (own j6) k → ¬ (fun k => k = kq) k := fun k kw kx => by have ky := (fun k hk => ((k4).lt hk).2) k kw; have kz := ks; subst kx; omega
       refine L_store_ro ty74 (rfl : _ = Value.pointer (some ⟨kq, 0, none⟩)) (rfl : _ = kn) (ko.mono kr.le) (kt) (fun g1 g2 g3 => ?_)
       have g4 := Tch.trans ku g2 (fun k hk => Or.inr (by subst hk; exact (Nat.le_trans jw.size ks)))
       refine nn (W_region (mv jy (L_fieldAddr fld74_0 Deed.of_Kind (rfl : _ = Value.pointer (some ⟨kq, 0, none⟩)) g3 (by decide) (fun g5 g6 => li ty3 (rfl : _ = g5) g6 (L_fieldAddr fld74_1 Deed.of_Peer (rfl : _ = Value.pointer (some ⟨kq, 0, none⟩)) g3 (by decide) (fun g7 g8 => li ty3 (rfl : _ = g7) g8 (L_fieldAddr fld74_2 Deed.of_Tag (rfl : _ = Value.pointer (some ⟨kq, 0, none⟩)) g3 (by decide) (fun g9 ga => li ty3 (rfl : _ = g9) ga (L_fieldAddr fld74_3 Deed.of_Req (rfl : _ = Value.pointer (some ⟨kq, 0, none⟩)) g3 (by decide) (fun gb gc => li ty3 (rfl : _ = gb) gc (L_fieldAddr fld74_4 Deed.of_Sync (rfl : _ = Value.pointer (some ⟨kq, 0, none⟩)) g3 (by decide) (fun gd gg => L_load_bool ty4 (rfl : _ = gd) gg (by decide) (L_bld64_0_1_2_3_4 (s := g1) (rfl : _ = Value.int .i64 (kj.Kind)) (rfl : _ = Value.int .i64 (kj.Peer)) (rfl : _ = Value.int .i64 (kj.Tag)) (rfl : _ = Value.int .i64 (kj.Req)) (rfl : _ = Value.bool (kj.Sync)) (Vint : V _ _ (kj.Kind : Int)) (Vint : V _ _ (kj.Peer : Int)) (Vint : V _ _ (kj.Tag : Int)) (Vint : V _ _ (kj.Req : Int)) (Vbool : V _ _ (kj.Sync : Bool)) (by decide) ?_)))))))))))))
       intro gh gi
       refine L_buildSlice (xs := ([(⟨kj.Kind, kj.Peer, kj.Tag, kj.Req, kj.Sync⟩ : Deed)] : List Deed)) Try.underlying59 tyz64 (Parts_cons rfl (rfl : _ = gh) Parts_nil) (Vs.cons gi Vs.nil) rfl (by decide) (by decide) (fun gj gk gl gm gn => ?_)
       have go := Tch.ext g4 gl
       obtain ⟨gp, hr⟩ := chk_some hr
       refine L_append (xs := jq) (B := s0.w.heap.size) Try.underlying59 tyz64 (rfl : _ = jp) (rfl : _ = gk) ((((jz).ext kr).tch g2 (fun k hk => kv k hk)).ext gl) (go.size) gn gp.1 gp.2 (by decide) (fun gq gr gs => ?_)
       have gu := gs.tchM ((((jz).ext kr).tch g2 (fun k hk => kv k hk)).ext gl) go (Nat.le_refl _)
       have gv := gs.apart ((((k4).ext kr).tch g2 (fun k hk => g0 k hk)).ext gl) (fun k hk hm => k5 k hm hk)
       refine asg (rfl : _ = gq) (L_nil (block_n (then_n (W_region (mv k0 ?_)))))
       obtain ⟨gw, hr⟩ := chk_some hr
       exact L_add (rfl : _ = Value.int .i64 (jr)) (rfl : _ = Value.int .i64 (1)) gw (by decide) (asg (rfl : _ = Value.int .i64 (jr + 1)) (nn ⟨js, Nat.lt_succ_self _, ⟨gr, gq, (jq ++ ([(⟨kj.Kind, kj.Peer, kj.Tag, kj.Req, kj.Sync⟩ : Deed)] : List Deed)), (jr + 1), rfl, gu, (jx.trans (kr.le.trans (g2.le.trans (gl.le.trans gs.tch.le)))), hr, rfl, gs.bld, rfl, k1, k2, k3, ((((k4).ext kr).tch g2 (fun k hk => g0 k hk)).ext gl).tch gs.tch (fun k hk hm => k5 k hm hk), (fun k hk hm => gv k hm hk)⟩⟩))
      ·have hr := ite_f kc hr; refine W_exit (then_x (then_x (block_here ?_))); exact then_n ⟨jv, jp, jq, rfl, jw, jx, Option.some.inj hr, jy, jz, k1, k2, k3, k4, k5⟩
    ·rintro jp jq ⟨jr, jn, jo, rfl, js, jt, jl, ju, jv, jw, jx, jy, jz, k0⟩; subst jl; have hr := jm; (try dsimp only at hr); refine then_n (W_region (mv jx (mv ju (L_buildSlice (xs := ([jo] : List (List Deed))) Try.underlying29 tyz59 (Parts_cons rfl (rfl : _ = jn) Parts_nil) (Vs.cons (jv).toV Vs.nil) rfl (by decide) (by decide) (fun k1 k2 k3 k4 k5 => ?_))))); have k6 := Tch.ext js k3; obtain ⟨k7, hr⟩ := chk_some hr; refine L_append (xs := j7) (B := s0.w.heap.size) Try.underlying29 tyz59 (rfl : _ = j6) (rfl : _ = k2) ((jz).ext k3) (k6.size) k5 k7.1 k7.2 (by decide) (fun k8 k9 ka => ?_); have kb := ka.tchM ((jz).ext k3) k6 (Nat.le_refl _); refine asg (rfl : _ = k8) (L_nil (block_n (then_n (W_region (mv jy ?_))))); obtain ⟨kc, hr⟩ := chk_some hr; exact L_add (rfl : _ = Value.int .i64 (j8)) (rfl : _ = Value.int .i64 (1)) kc (by decide) (asg (rfl : _ = Value.int .i64 (j8 + 1)) (nn ⟨j9, Nat.lt_succ_self _, ⟨k9, k8, (j7 ++ ([jo] : List (List Deed))), (j8 + 1), rfl, kb, (je.trans (jt.trans (k3.le.trans ka.tch.le))), hr, rfl, ka.bld, rfl, jw⟩⟩))
   ·have hr := ite_f jj hr; refine W_exit (then_x (then_x (block_here ?_))); exact then_n ⟨jc, j6, j7, rfl, jd, je, Option.some.inj hr, jf, jg⟩
 ·rintro j6 j7 ⟨j8, j4, j5, rfl, j9, ja, j2, jb, jc⟩; subst j2; have hr := j3; (try dsimp only at hr); refine then_n (sr (mv jb (asg (rfl : _ = j4) (nn (W_ret ?_))))); obtain rfl := Option.some.inj hr; exact done1 (Or.inl rfl) Try.results12 rfl ⟨_, _, rfl, rfl, j9, (jc).toV⟩

theorem ref08_named_ok (N : Nat) (s0 : St) (w0 : Value) (a0 : Deed) (h0 : V s0 w0 a0) (r : Bool) (hr : ref08_named N a0 = some r) :
    Calls Try.prog 82 #[w0] s0.w (Ret s0 fun v s => V s v r) := by
 unfold ref08_named at hr
 have j0 := Ext.refl s0
 refine Calls_of (n := 11) (args := [w0]) Try.func82 rfl rfl (by simp) (sr (L_box (rfl : _ = w0) h0 (by decide) (fun j1 j2 j3 j4 => ?_)))
 have j5 := Tch.ext j0 j3
 refine asg (rfl : _ = Value.bool (false)) (nn (sr (L_fieldAddr fld74_0 Deed.of_Kind (rfl : _ = j2) j4 (by decide) (fun j6 j7 => li ty3 (rfl : _ = j6) j7 (L_eql (rfl : _ = Value.int .i64 (a0.Kind)) (rfl : _ = Value.int .i64 (3)) (by decide) (mv (rfl : _ = Value.bool (decide (a0.Kind = 3))) ?_))))))
 rcases Bool.eq_false_or_eq_true (decide (a0.Kind = 3)) with j8 | j8
 ·have hr := ite_t j8 hr; refine gf 6 (rfl : _ = Value.bool (decide (a0.Kind = 3))) j8 (gf 6 (rfl : _ = Value.bool (decide (a0.Kind = 3))) j8 (gf 6 (rfl : _ = Value.bool (decide (a0.Kind = 3))) j8 (pt (rfl : _ = Value.bool (decide (a0.Kind = 3))) j8 (rfl : _ = Value.bool (true)) (asg (rfl : _ = Value.bool (true)) (nn (W_ret ?_)))))); obtain rfl := Option.some.inj hr; exact done1 (Or.inl rfl) Try.results82 rfl ⟨_, _, rfl, rfl, j5, Vbool⟩
 ·have hr := ite_f j8 hr; refine gt 6 (rfl : _ = Value.bool (decide (a0.Kind = 3))) j8 (L_fieldAddr fld74_0 Deed.of_Kind (rfl : _ = j2) j4 (by decide) (fun j9 ja => gt 6 (rfl : _ = Value.bool (decide (a0.Kind = 3))) j8 (li ty3 (rfl : _ = j9) ja (gt 6 (rfl : _ = Value.bool (decide (a0.Kind = 3))) j8 (L_eql (rfl : _ = Value.int .i64 (a0.Kind)) (rfl : _ = Value.int .i64 (4)) (by decide) (pf (rfl : _ = Value.bool (decide (a0.Kind = 3))) j8 (rfl : _ = Value.bool (decide (a0.Kind = 4))) (asg (rfl : _ = Value.bool (decide (a0.Kind = 4))) (nn (W_ret ?_))))))))); obtain rfl := Option.some.inj hr; exact done1 (Or.inl rfl) Try.results82 rfl ⟨_, _, rfl, rfl, j5, Vbool⟩

set_option maxHeartbeats 1901000 in
theorem ref08_formed_ok (N : Nat) (s0 : St) (w0 : Value) (a0 : Deed) (h0 : V s0 w0 a0) (w1 : Value) (a1 : List Deed) (h1 : V s0 w1 a1) (a2 : Int) (r : Bool) (hr : ref08_formed N a0 a1 a2 = some r) :
    Calls Try.prog 72 #[w0, w1, .int .i64 a2] s0.w (Ret s0 fun v s => V s v r) := by
 unfold ref08_formed at hr
 have j0 := Ext.refl s0
 refine Calls_of (n := 173) (args := [w0, w1, .int .i64 a2]) Try.func72 rfl rfl (by simp) (sr (L_box (rfl : _ = w0) h0 (by decide) (fun j1 j2 j3 j4 => ?_)))
 have j5 := Tch.ext j0 j3
 refine asg (rfl : _ = Value.bool (false)) (nn (sr (asg (rfl : _ = Value.int .i64 (0)) (nn (W_seq (sr (asg (rfl : _ = Value.int .i64 (0)) (nn ?_))))))))
 obtain ⟨j6, j7, j8⟩ := bind_some hr
 refine W_cut (fun f w => ∃ (s : St) (j9 : Int), s.w = w ∧ Ext s0 s ∧ Le j1 s ∧ j9 = j6 ∧ f 7 = Value.int .i64 j9 ∧ f 1 = w1 ∧ f 2 = Value.int .i64 (a2) ∧ f 3 = j2) ?_ ?_
 ·refine W_block (W_loop (fun m f w => ∃ (s : St) (ja : Int) (jb : Int), s.w = w ∧ Ext s0 s ∧ Le j1 s ∧ ref08_formed_l1 N a1 m ja jb = some j6 ∧ f 7 = Value.int .i64 ja ∧ f 8 = Value.int .i64 jb ∧ f 1 = w1 ∧ f 2 = Value.int .i64 (a2) ∧ f 3 = j2) N ⟨j1, 0, 0, rfl, j5, (Le.refl _), j7, rfl, rfl, rfl, rfl, rfl⟩ ?_)
  rintro jc jd je ⟨jf, ja, jb, rfl, jg, jh, hr, ji, jj, jk, jl, jm⟩
  cases jc with
  | zero => exact absurd hr (by simp [ref08_formed_l1])
  | succ jc =>
   rw [ref08_formed_l1.eq_2] at hr
   refine W_seq (sr (mv jj (mv jk (L_len Try.underlying65 (rfl : _ = w1) (h1.mono (j3.le.trans jh)) (by decide) (L_lss (rfl : _ = Value.int .i64 (jb)) (rfl : _ = Value.int .i64 ((a1.length : Int))) (by decide) (nn ?_))))))
   refine W_cond _ (rfl : _ = Value.bool (decide (jb < (a1.length : Int)))) (fun jn => ?_) (fun jn => ?_)
   ·have hr := ite_t jn hr
    refine W_skip (then_n (W_seq (W_block (sr (mv jk (mv jj ?_))))))
    obtain ⟨jo, jp, hr⟩ := bind_some hr
    refine L_index Try.underlying65 ty74.inf (rfl : _ = w1) (h1.mono (j3.le.trans jh)) (rfl : _ = Value.int .i64 (jb)) jp (by decide) (fun jq jr => L_load ty74 (rfl : _ = jq) jr (by decide) (fun js jt => ?_))
    obtain ⟨ju, jv, hr⟩ := bind_some hr
    refine L_calls cal82 (args1 (rfl : _ = js)) (ref08_named_ok N _ _ _ jt ju jv) (by decide) (fun jw jx jy jz => ?_)
    have k0 := Tch.ext jg jy
    obtain rfl := jz.bool
    refine nn ?_
    refine W_cond _ (rfl : _ = Value.bool (ju)) (fun k1 => ?_) (fun k1 => ?_)
    ·have hr := ite_t k1 hr; refine W_region (mv ji ?_); obtain ⟨k2, hr⟩ := chk_some hr; refine L_add (rfl : _ = Value.int .i64 (ja)) (rfl : _ = Value.int .i64 (1)) k2 (by decide) (asg (rfl : _ = Value.int .i64 (ja + 1)) (L_nil (block_n (then_n (W_region (mv jj ?_)))))); obtain ⟨k3, hr⟩ := chk_some hr; exact L_add (rfl : _ = Value.int .i64 (jb)) (rfl : _ = Value.int .i64 (1)) k3 (by decide) (asg (rfl : _ = Value.int .i64 (jb + 1)) (nn ⟨jc, Nat.lt_succ_self _, ⟨jx, (ja + 1), (jb + 1), rfl, k0, (jh.trans jy.le), hr, rfl, rfl, jk, jl, jm⟩⟩))
    ·have hr := ite_f k1 hr; refine W_skip (block_n (then_n (W_region (mv jj ?_)))); obtain ⟨k2, hr⟩ := chk_some hr; exact L_add (rfl : _ = Value.int .i64 (jb)) (rfl : _ = Value.int .i64 (1)) k2 (by decide) (asg (rfl : _ = Value.int .i64 (jb + 1)) (nn ⟨jc, Nat.lt_succ_self _, ⟨jx, ja, (jb + 1), rfl, k0, (jh.trans jy.le), hr, ji, rfl, jk, jl, jm⟩⟩))
   ·have hr := ite_f jn hr; refine W_exit (then_x (then_x (block_here ?_))); exact then_n ⟨jf, ja, rfl, jg, jh, Option.some.inj hr, ji, jk, jl, jm⟩
 ·rintro ja jb ⟨jc, j9, rfl, jd, je, j7, jf, jg, jh, ji⟩
  subst j7
  have hr := j8
  try dsimp only at hr
  refine then_n ?_
  obtain ⟨jj, jk, jl⟩ := bind_some hr
  refine W_seq_cut (fun f w => ∃ (s : St) (jm : Bool), s.w = w ∧ Ext s0 s ∧ Le jc s ∧ jm = jj ∧ f 9 = Value.bool jm ∧ f 1 = w1 ∧ f 2 = Value.int .i64 (a2) ∧ f 3 = j2 ∧ f 7 = Value.int .i64 (j9)) ?_ ?_
  ·have hr := jk
   refine W_region (L_fieldAddr fld74_2 Deed.of_Tag ji (j4.mono je) (by decide) (fun jn jo => li ty3 (rfl : _ = jn) jo (L_geq (rfl : _ = Value.int .i64 (a0.Tag)) (rfl : _ = Value.int .i64 (0)) (by decide) (mv (rfl : _ = Value.bool (decide (0 ≤ a0.Tag))) ?_))))
   rcases Bool.eq_false_or_eq_true (decide (0 ≤ a0.Tag)) with jp | jp
   ·have hr := ite_t jp hr; exact gt 29 (rfl : _ = Value.bool (decide (0 ≤ a0.Tag))) jp (L_fieldAddr fld74_2 Deed.of_Tag ji (j4.mono je) (by decide) (fun jq jr => gt 29 (rfl : _ = Value.bool (decide (0 ≤ a0.Tag))) jp (li ty3 (rfl : _ = jq) jr (gt 29 (rfl : _ = Value.bool (decide (0 ≤ a0.Tag))) jp (L_leq (rfl : _ = Value.int .i64 (a0.Tag)) (rfl : _ = Value.int .i64 (1048576)) (by decide) (pt (rfl : _ = Value.bool (decide (0 ≤ a0.Tag))) jp (rfl : _ = Value.bool (decide (a0.Tag ≤ 1048576))) (asg (rfl : _ = Value.bool (decide (a0.Tag ≤ 1048576))) (nn ⟨jc, (decide (a0.Tag ≤ 1048576)), rfl, jd, (Le.refl _), Option.some.inj hr, rfl, jg, jh, ji, jf⟩))))))))
   ·have hr := ite_f jp hr; exact gf 29 (rfl : _ = Value.bool (decide (0 ≤ a0.Tag))) jp (gf 29 (rfl : _ = Value.bool (decide (0 ≤ a0.Tag))) jp (gf 29 (rfl : _ = Value.bool (decide (0 ≤ a0.Tag))) jp (pf (rfl : _ = Value.bool (decide (0 ≤ a0.Tag))) jp (rfl : _ = Value.bool (false)) (asg (rfl : _ = Value.bool (false)) (nn ⟨jc, false, rfl, jd, (Le.refl _), Option.some.inj hr, rfl, jg, jh, ji, jf⟩)))))
  ·rintro jn jo ⟨jp, jm, rfl, jq, jr, jk, js, jt, ju, jv, jw⟩
   subst jk
   have hr := jl
   try dsimp only at hr
   obtain ⟨jx, jy, jz⟩ := bind_some hr
   refine W_seq_cut (fun f w => ∃ (s : St) (k0 : Bool), s.w = w ∧ Ext s0 s ∧ Le jp s ∧ k0 = jx ∧ f 10 = Value.bool k0 ∧ f 1 = w1 ∧ f 3 = j2 ∧ f 7 = Value.int .i64 (j9) ∧ f 9 = Value.bool (jm)) ?_ ?_
   ·have hr := jy
    refine W_region (L_fieldAddr fld74_1 Deed.of_Peer jv (j4.mono (je.trans jr)) (by decide) (fun k1 k2 => li ty3 (rfl : _ = k1) k2 (L_geq (rfl : _ = Value.int .i64 (a0.Peer)) (rfl : _ = Value.int .i64 (0)) (by decide) (mv (rfl : _ = Value.bool (decide (0 ≤ a0.Peer))) ?_))))
    rcases Bool.eq_false_or_eq_true (decide (0 ≤ a0.Peer)) with k3 | k3
    ·have hr := ite_t k3 hr; exact gt 37 (rfl : _ = Value.bool (decide (0 ≤ a0.Peer))) k3 (L_fieldAddr fld74_1 Deed.of_Peer jv (j4.mono (je.trans jr)) (by decide) (fun k4 k5 => gt 37 (rfl : _ = Value.bool (decide (0 ≤ a0.Peer))) k3 (li ty3 (rfl : _ = k4) k5 (gt 37 (rfl : _ = Value.bool (decide (0 ≤ a0.Peer))) k3 (mv ju (gt 37 (rfl : _ = Value.bool (decide (0 ≤ a0.Peer))) k3 (L_lss (rfl : _ = Value.int .i64 (a0.Peer)) (rfl : _ = Value.int .i64 (a2)) (by decide) (pt (rfl : _ = Value.bool (decide (0 ≤ a0.Peer))) k3 (rfl : _ = Value.bool (decide (a0.Peer < a2))) (asg (rfl : _ = Value.bool (decide (a0.Peer < a2))) (nn ⟨jp, (decide (a0.Peer < a2)), rfl, jq, (Le.refl _), Option.some.inj hr, rfl, jt, jv, jw, js⟩))))))))))
    ·have hr := ite_f k3 hr; exact gf 37 (rfl : _ = Value.bool (decide (0 ≤ a0.Peer))) k3 (gf 37 (rfl : _ = Value.bool (decide (0 ≤ a0.Peer))) k3 (gf 37 (rfl : _ = Value.bool (decide (0 ≤ a0.Peer))) k3 (gf 37 (rfl : _ = Value.bool (decide (0 ≤ a0.Peer))) k3 (pf (rfl : _ = Value.bool (decide (0 ≤ a0.Peer))) k3 (rfl : _ = Value.bool (false)) (asg (rfl : _ = Value.bool (false)) (nn ⟨jp, false, rfl, jq, (Le.refl _), Option.some.inj hr, rfl, jt, jv, jw, js⟩))))))
   ·rintro k1 k2 ⟨k3, k0, rfl, k4, k5, jy, k6, k7, k8, k9, ka⟩
    subst jy
    have hr := jz
    try dsimp only at hr
    refine W_seq (sr (L_fieldAddr fld74_0 Deed.of_Kind k8 (j4.mono (je.trans (jr.trans k5))) (by decide) (fun kb kc => li ty3 (rfl : _ = kb) kc (nn (W_block (sr (L_eql (rfl : _ = Value.int .i64 (a0.Kind)) (rfl : _ = Value.int .i64 (1)) (by decide) (asg (rfl : _ = Value.bool (decide (a0.Kind = 1))) (nn ?_)))))))))
    refine W_cond _ (rfl : _ = Value.bool (decide (a0.Kind = 1))) (fun kd => ?_) (fun kd => ?_)
    ·have hr := ite_t kd hr
     refine sr (mv k6 (mv (rfl : _ = Value.bool (k0)) ?_))
     rcases Bool.eq_false_or_eq_true (k0) with ke | ke
     ·have hr := ite_t ke hr
      refine gt 48 (rfl : _ = Value.bool (k0)) ke (mv ka (pt (rfl : _ = Value.bool (k0)) ke (rfl : _ = Value.bool (jm)) (mv (rfl : _ = Value.bool (jm)) ?_)))
      rcases Bool.eq_false_or_eq_true (jm) with kf | kf
      ·have hr := ite_t kf hr; refine gt 51 (rfl : _ = Value.bool (jm)) kf (L_fieldAddr fld74_3 Deed.of_Req k8 (j4.mono (je.trans (jr.trans k5))) (by decide) (fun kg kh => gt 51 (rfl : _ = Value.bool (jm)) kf (li ty3 (rfl : _ = kg) kh (gt 51 (rfl : _ = Value.bool (jm)) kf (L_eql (rfl : _ = Value.int .i64 (a0.Req)) (rfl : _ = Value.int .i64 (0)) (by decide) (pt (rfl : _ = Value.bool (jm)) kf (rfl : _ = Value.bool (decide (a0.Req = 0))) (asg (rfl : _ = Value.bool (decide (a0.Req = 0))) (nn (W_ret (block_r (then_r ?_))))))))))); obtain rfl := Option.some.inj hr; exact done1 (Or.inl rfl) Try.results72 rfl ⟨_, _, rfl, rfl, k4, Vbool⟩
      ·have hr := ite_f kf hr; refine gf 51 (rfl : _ = Value.bool (jm)) kf (gf 51 (rfl : _ = Value.bool (jm)) kf (gf 51 (rfl : _ = Value.bool (jm)) kf (pf (rfl : _ = Value.bool (jm)) kf (rfl : _ = Value.bool (false)) (asg (rfl : _ = Value.bool (false)) (nn (W_ret (block_r (then_r ?_)))))))); obtain rfl := Option.some.inj hr; exact done1 (Or.inl rfl) Try.results72 rfl ⟨_, _, rfl, rfl, k4, Vbool⟩
     ·have hr := ite_f ke hr; refine gf 48 (rfl : _ = Value.bool (k0)) ke (pf (rfl : _ = Value.bool (k0)) ke (rfl : _ = Value.bool (false)) (mv (rfl : _ = Value.bool (false)) (gf 51 (rfl : _ = Value.bool (false)) rfl (gf 51 (rfl : _ = Value.bool (false)) rfl (gf 51 (rfl : _ = Value.bool (false)) rfl (pf (rfl : _ = Value.bool (false)) rfl (rfl : _ = Value.bool (false)) (asg (rfl : _ = Value.bool (false)) (nn (W_ret (block_r (then_r ?_))))))))))); obtain rfl := Option.some.inj hr; exact done1 (Or.inl rfl) Try.results72 rfl ⟨_, _, rfl, rfl, k4, Vbool⟩
    ·have hr := ite_f kd hr
     refine sr (L_eql (rfl : _ = Value.int .i64 (a0.Kind)) (rfl : _ = Value.int .i64 (3)) (by decide) (asg (rfl : _ = Value.bool (decide (a0.Kind = 3))) (nn ?_)))
     refine W_cond _ (rfl : _ = Value.bool (decide (a0.Kind = 3))) (fun ke => ?_) (fun ke => ?_)
     ·have hr := ite_t ke hr
      refine sr (mv k6 (mv (rfl : _ = Value.bool (k0)) ?_))
      rcases Bool.eq_false_or_eq_true (k0) with kf | kf
      ·have hr := ite_t kf hr
       refine gt 59 (rfl : _ = Value.bool (k0)) kf (mv ka (pt (rfl : _ = Value.bool (k0)) kf (rfl : _ = Value.bool (jm)) (mv (rfl : _ = Value.bool (jm)) ?_)))
       rcases Bool.eq_false_or_eq_true (jm) with kg | kg
       ·have hr := ite_t kg hr
        refine gt 62 (rfl : _ = Value.bool (jm)) kg (L_fieldAddr fld74_3 Deed.of_Req k8 (j4.mono (je.trans (jr.trans k5))) (by decide) (fun kh ki => gt 62 (rfl : _ = Value.bool (jm)) kg (li ty3 (rfl : _ = kh) ki (gt 62 (rfl : _ = Value.bool (jm)) kg (mv k9 (gt 62 (rfl : _ = Value.bool (jm)) kg (L_eql (rfl : _ = Value.int .i64 (a0.Req)) (rfl : _ = Value.int .i64 (j9)) (by decide) (pt (rfl : _ = Value.bool (jm)) kg (rfl : _ = Value.bool (decide (a0.Req = j9))) (mv (rfl : _ = Value.bool (decide (a0.Req = j9))) ?_)))))))))
        rcases Bool.eq_false_or_eq_true (decide (a0.Req = j9)) with kj | kj
        ·have hr := ite_t kj hr; refine gt 68 (rfl : _ = Value.bool (decide (a0.Req = j9))) kj (L_fieldAddr fld74_4 Deed.of_Sync k8 (j4.mono (je.trans (jr.trans k5))) (by decide) (fun kk kl => gt 68 (rfl : _ = Value.bool (decide (a0.Req = j9))) kj (L_load_bool ty4 (rfl : _ = kk) kl (by decide) (gt 68 (rfl : _ = Value.bool (decide (a0.Req = j9))) kj (L_not (rfl : _ = Value.bool (a0.Sync)) (by decide) (pt (rfl : _ = Value.bool (decide (a0.Req = j9))) kj (rfl : _ = Value.bool (!a0.Sync)) (asg (rfl : _ = Value.bool (!a0.Sync)) (nn (W_ret (block_r (then_r ?_))))))))))); obtain rfl := Option.some.inj hr; exact done1 (Or.inl rfl) Try.results72 rfl ⟨_, _, rfl, rfl, k4, Vbool⟩
        ·have hr := ite_f kj hr; refine gf 68 (rfl : _ = Value.bool (decide (a0.Req = j9))) kj (gf 68 (rfl : _ = Value.bool (decide (a0.Req = j9))) kj (gf 68 (rfl : _ = Value.bool (decide (a0.Req = j9))) kj (pf (rfl : _ = Value.bool (decide (a0.Req = j9))) kj (rfl : _ = Value.bool (false)) (asg (rfl : _ = Value.bool (false)) (nn (W_ret (block_r (then_r ?_)))))))); obtain rfl := Option.some.inj hr; exact done1 (Or.inl rfl) Try.results72 rfl ⟨_, _, rfl, rfl, k4, Vbool⟩
       ·have hr := ite_f kg hr; refine gf 62 (rfl : _ = Value.bool (jm)) kg (gf 62 (rfl : _ = Value.bool (jm)) kg (gf 62 (rfl : _ = Value.bool (jm)) kg (gf 62 (rfl : _ = Value.bool (jm)) kg (pf (rfl : _ = Value.bool (jm)) kg (rfl : _ = Value.bool (false)) (mv (rfl : _ = Value.bool (false)) (gf 68 (rfl : _ = Value.bool (false)) rfl (gf 68 (rfl : _ = Value.bool (false)) rfl (gf 68 (rfl : _ = Value.bool (false)) rfl (pf (rfl : _ = Value.bool (false)) rfl (rfl : _ = Value.bool (false)) (asg (rfl : _ = Value.bool (false)) (nn (W_ret (block_r ?_))))))))))))); refine then_r ?_; obtain rfl := Option.some.inj hr; exact done1 (Or.inl rfl) Try.results72 rfl ⟨_, _, rfl, rfl, k4, Vbool⟩
      ·have hr := ite_f kf hr; refine gf 59 (rfl : _ = Value.bool (k0)) kf (pf (rfl : _ = Value.bool (k0)) kf (rfl : _ = Value.bool (false)) (mv (rfl : _ = Value.bool (false)) (gf 62 (rfl : _ = Value.bool (false)) rfl (gf 62 (rfl : _ = Value.bool (false)) rfl (gf 62 (rfl : _ = Value.bool (false)) rfl (gf 62 (rfl : _ = Value.bool (false)) rfl (pf (rfl : _ = Value.bool (false)) rfl (rfl : _ = Value.bool (false)) (mv (rfl : _ = Value.bool (false)) (gf 68 (rfl : _ = Value.bool (false)) rfl (gf 68 (rfl : _ = Value.bool (false)) rfl (gf 68 (rfl : _ = Value.bool (false)) rfl (pf (rfl : _ = Value.bool (false)) rfl (rfl : _ = Value.bool (false)) (asg (rfl : _ = Value.bool (false)) ?_))))))))))))); refine nn (W_ret (block_r (then_r ?_))); obtain rfl := Option.some.inj hr; exact done1 (Or.inl rfl) Try.results72 rfl ⟨_, _, rfl, rfl, k4, Vbool⟩
     ·have hr := ite_f ke hr
      refine W_seq (sr (L_eql (rfl : _ = Value.int .i64 (a0.Kind)) (rfl : _ = Value.int .i64 (2)) (by decide) (asg (rfl : _ = Value.bool (decide (a0.Kind = 2))) (nn ?_))))
      refine W_cond _ (rfl : _ = Value.bool (decide (a0.Kind = 2))) (fun kf => ?_) (fun kf => ?_)
      ·have hr := ite_t kf hr
       refine W_skip (then_n ?_)
       refine W_cond _ (rfl : _ = Value.bool (decide (a0.Kind = 2))) (fun _ => ?_) (fun h => absurd (h.symm.trans kf) (by decide))
       refine sr (asg (rfl : _ = Value.int .i64 (0)) (nn (W_seq (sr (L_fieldAddr fld74_0 Deed.of_Kind k8 (j4.mono (je.trans (jr.trans k5))) (by decide) (fun kg kh => li ty3 (rfl : _ = kg) kh (L_eql (rfl : _ = Value.int .i64 (a0.Kind)) (rfl : _ = Value.int .i64 (4)) (by decide) (nn ?_))))))))
       refine W_cond _ (rfl : _ = Value.bool (decide (a0.Kind = 4))) (fun ki => ?_) (fun ki => ?_)
       ·have hr := ite_t ki hr
        refine W_region (mv k9 (asg (rfl : _ = Value.int .i64 (j9)) (nn (sr (mv k6 (mv (rfl : _ = Value.bool (k0)) ?_))))))
        rcases Bool.eq_false_or_eq_true (k0) with kj | kj
        ·have hr := ite_t kj hr
         refine gf 81 (rfl : _ = Value.bool (k0)) kj (gf 81 (rfl : _ = Value.bool (k0)) kj (gf 81 (rfl : _ = Value.bool (k0)) kj (pt (rfl : _ = Value.bool (k0)) kj (rfl : _ = Value.bool (true)) (mv (rfl : _ = Value.bool (true)) (gt 86 (rfl : _ = Value.bool (true)) rfl (mv ka (gt 86 (rfl : _ = Value.bool (true)) rfl (mv (rfl : _ = Value.bool (jm)) ?_))))))))
         rcases Bool.eq_false_or_eq_true (jm) with kk | kk
         ·have hr := ite_t kk hr
          refine gf 88 (rfl : _ = Value.bool (jm)) kk (gf 88 (rfl : _ = Value.bool (jm)) kk (gf 88 (rfl : _ = Value.bool (jm)) kk (gt 86 (rfl : _ = Value.bool (true)) rfl (pt (rfl : _ = Value.bool (jm)) kk (rfl : _ = Value.bool (true)) (pt (rfl : _ = Value.bool (true)) rfl (rfl : _ = Value.bool (true)) (mv (rfl : _ = Value.bool (true)) (gt 94 (rfl : _ = Value.bool (true)) rfl (L_fieldAddr fld74_3 Deed.of_Req k8 (j4.mono (je.trans (jr.trans k5))) (by decide) (fun kl km => gt 94 (rfl : _ = Value.bool (true)) rfl (li ty3 (rfl : _ = kl) km (gt 94 (rfl : _ = Value.bool (true)) rfl (mv (rfl : _ = Value.int .i64 (j9)) (gt 94 (rfl : _ = Value.bool (true)) rfl ?_)))))))))))))
          refine L_eql (rfl : _ = Value.int .i64 (a0.Req)) (rfl : _ = Value.int .i64 (j9)) (by decide) (pt (rfl : _ = Value.bool (true)) rfl (rfl : _ = Value.bool (decide (a0.Req = j9))) (mv (rfl : _ = Value.bool (decide (a0.Req = j9))) ?_))
          rcases Bool.eq_false_or_eq_true (decide (a0.Req = j9)) with kn | kn
          ·have hr := ite_t kn hr; refine gt 100 (rfl : _ = Value.bool (decide (a0.Req = j9))) kn (L_fieldAddr fld74_4 Deed.of_Sync k8 (j4.mono (je.trans (jr.trans k5))) (by decide) (fun ko kp => gt 100 (rfl : _ = Value.bool (decide (a0.Req = j9))) kn (L_load_bool ty4 (rfl : _ = ko) kp (by decide) (gt 100 (rfl : _ = Value.bool (decide (a0.Req = j9))) kn (L_not (rfl : _ = Value.bool (a0.Sync)) (by decide) (pt (rfl : _ = Value.bool (decide (a0.Req = j9))) kn (rfl : _ = Value.bool (!a0.Sync)) (asg (rfl : _ = Value.bool (!a0.Sync)) (nn (W_ret (block_r (then_r ?_))))))))))); obtain rfl := Option.some.inj hr; exact done1 (Or.inl rfl) Try.results72 rfl ⟨_, _, rfl, rfl, k4, Vbool⟩
          ·have hr := ite_f kn hr; refine gf 100 (rfl : _ = Value.bool (decide (a0.Req = j9))) kn (gf 100 (rfl : _ = Value.bool (decide (a0.Req = j9))) kn (gf 100 (rfl : _ = Value.bool (decide (a0.Req = j9))) kn (pf (rfl : _ = Value.bool (decide (a0.Req = j9))) kn (rfl : _ = Value.bool (false)) (asg (rfl : _ = Value.bool (false)) (nn (W_ret (block_r (then_r ?_)))))))); obtain rfl := Option.some.inj hr; exact done1 (Or.inl rfl) Try.results72 rfl ⟨_, _, rfl, rfl, k4, Vbool⟩
         ·have hr := ite_f kk hr
          refine gt 88 (rfl : _ = Value.bool (jm)) kk (L_fieldAddr fld74_2 Deed.of_Tag k8 (j4.mono (je.trans (jr.trans k5))) (by decide) (fun kl km => gt 88 (rfl : _ = Value.bool (jm)) kk (li ty3 (rfl : _ = kl) km (gt 88 (rfl : _ = Value.bool (jm)) kk (L_eql (rfl : _ = Value.int .i64 (a0.Tag)) (rfl : _ = Value.int .i64 (-1)) (by decide) (gt 86 (rfl : _ = Value.bool (true)) rfl (pf (rfl : _ = Value.bool (jm)) kk (rfl : _ = Value.bool (decide (a0.Tag = (-1)))) (pt (rfl : _ = Value.bool (true)) rfl (rfl : _ = Value.bool (decide (a0.Tag = (-1)))) (mv (rfl : _ = Value.bool (decide (a0.Tag = (-1)))) ?_)))))))))
          rcases Bool.eq_false_or_eq_true (decide (a0.Tag = (-1))) with kn | kn
          ·have hr := ite_t kn hr
           refine gt 94 (rfl : _ = Value.bool (decide (a0.Tag = (-1)))) kn (L_fieldAddr fld74_3 Deed.of_Req k8 (j4.mono (je.trans (jr.trans k5))) (by decide) (fun ko kp => gt 94 (rfl : _ = Value.bool (decide (a0.Tag = (-1)))) kn (li ty3 (rfl : _ = ko) kp (gt 94 (rfl : _ = Value.bool (decide (a0.Tag = (-1)))) kn (mv (rfl : _ = Value.int .i64 (j9)) (gt 94 (rfl : _ = Value.bool (decide (a0.Tag = (-1)))) kn (L_eql (rfl : _ = Value.int .i64 (a0.Req)) (rfl : _ = Value.int .i64 (j9)) (by decide) (pt (rfl : _ = Value.bool (decide (a0.Tag = (-1)))) kn (rfl : _ = Value.bool (decide (a0.Req = j9))) (mv (rfl : _ = Value.bool (decide (a0.Req = j9))) ?_)))))))))
           rcases Bool.eq_false_or_eq_true (decide (a0.Req = j9)) with kq | kq
           ·have hr := ite_t kq hr; refine gt 100 (rfl : _ = Value.bool (decide (a0.Req = j9))) kq (L_fieldAddr fld74_4 Deed.of_Sync k8 (j4.mono (je.trans (jr.trans k5))) (by decide) (fun kr ks => gt 100 (rfl : _ = Value.bool (decide (a0.Req = j9))) kq (L_load_bool ty4 (rfl : _ = kr) ks (by decide) (gt 100 (rfl : _ = Value.bool (decide (a0.Req = j9))) kq (L_not (rfl : _ = Value.bool (a0.Sync)) (by decide) (pt (rfl : _ = Value.bool (decide (a0.Req = j9))) kq (rfl : _ = Value.bool (!a0.Sync)) (asg (rfl : _ = Value.bool (!a0.Sync)) (nn (W_ret (block_r (then_r ?_))))))))))); obtain rfl := Option.some.inj hr; exact done1 (Or.inl rfl) Try.results72 rfl ⟨_, _, rfl, rfl, k4, Vbool⟩
           ·have hr := ite_f kq hr; refine gf 100 (rfl : _ = Value.bool (decide (a0.Req = j9))) kq (gf 100 (rfl : _ = Value.bool (decide (a0.Req = j9))) kq (gf 100 (rfl : _ = Value.bool (decide (a0.Req = j9))) kq (pf (rfl : _ = Value.bool (decide (a0.Req = j9))) kq (rfl : _ = Value.bool (false)) (asg (rfl : _ = Value.bool (false)) (nn (W_ret (block_r (then_r ?_)))))))); obtain rfl := Option.some.inj hr; exact done1 (Or.inl rfl) Try.results72 rfl ⟨_, _, rfl, rfl, k4, Vbool⟩
          ·have hr := ite_f kn hr; refine gf 94 (rfl : _ = Value.bool (decide (a0.Tag = (-1)))) kn (gf 94 (rfl : _ = Value.bool (decide (a0.Tag = (-1)))) kn (gf 94 (rfl : _ = Value.bool (decide (a0.Tag = (-1)))) kn (gf 94 (rfl : _ = Value.bool (decide (a0.Tag = (-1)))) kn (pf (rfl : _ = Value.bool (decide (a0.Tag = (-1)))) kn (rfl : _ = Value.bool (false)) (mv (rfl : _ = Value.bool (false)) (gf 100 (rfl : _ = Value.bool (false)) rfl (gf 100 (rfl : _ = Value.bool (false)) rfl (gf 100 (rfl : _ = Value.bool (false)) rfl (pf (rfl : _ = Value.bool (false)) rfl (rfl : _ = Value.bool (false)) (asg (rfl : _ = Value.bool (false)) (nn (W_ret (block_r ?_))))))))))))); refine then_r ?_; obtain rfl := Option.some.inj hr; exact done1 (Or.inl rfl) Try.results72 rfl ⟨_, _, rfl, rfl, k4, Vbool⟩
        ·have hr := ite_f kj hr
         refine gt 81 (rfl : _ = Value.bool (k0)) kj (L_fieldAddr fld74_1 Deed.of_Peer k8 (j4.mono (je.trans (jr.trans k5))) (by decide) (fun kk kl => gt 81 (rfl : _ = Value.bool (k0)) kj (li ty3 (rfl : _ = kk) kl (gt 81 (rfl : _ = Value.bool (k0)) kj (L_eql (rfl : _ = Value.int .i64 (a0.Peer)) (rfl : _ = Value.int .i64 (-1)) (by decide) (pf (rfl : _ = Value.bool (k0)) kj (rfl : _ = Value.bool (decide (a0.Peer = (-1)))) (mv (rfl : _ = Value.bool (decide (a0.Peer = (-1)))) ?_)))))))
         rcases Bool.eq_false_or_eq_true (decide (a0.Peer = (-1))) with km | km
         ·have hr := ite_t km hr
          refine gt 86 (rfl : _ = Value.bool (decide (a0.Peer = (-1)))) km (mv ka (gt 86 (rfl : _ = Value.bool (decide (a0.Peer = (-1)))) km (mv (rfl : _ = Value.bool (jm)) ?_)))
          rcases Bool.eq_false_or_eq_true (jm) with kn | kn
          ·have hr := ite_t kn hr
           refine gf 88 (rfl : _ = Value.bool (jm)) kn (gf 88 (rfl : _ = Value.bool (jm)) kn (gf 88 (rfl : _ = Value.bool (jm)) kn (gt 86 (rfl : _ = Value.bool (decide (a0.Peer = (-1)))) km (pt (rfl : _ = Value.bool (jm)) kn (rfl : _ = Value.bool (true)) (pt (rfl : _ = Value.bool (decide (a0.Peer = (-1)))) km (rfl : _ = Value.bool (true)) (mv (rfl : _ = Value.bool (true)) (gt 94 (rfl : _ = Value.bool (true)) rfl (L_fieldAddr fld74_3 Deed.of_Req k8 (j4.mono (je.trans (jr.trans k5))) (by decide) (fun ko kp => gt 94 (rfl : _ = Value.bool (true)) rfl (li ty3 (rfl : _ = ko) kp (gt 94 (rfl : _ = Value.bool (true)) rfl (mv (rfl : _ = Value.int .i64 (j9)) (gt 94 (rfl : _ = Value.bool (true)) rfl ?_)))))))))))))
           refine L_eql (rfl : _ = Value.int .i64 (a0.Req)) (rfl : _ = Value.int .i64 (j9)) (by decide) (pt (rfl : _ = Value.bool (true)) rfl (rfl : _ = Value.bool (decide (a0.Req = j9))) (mv (rfl : _ = Value.bool (decide (a0.Req = j9))) ?_))
           rcases Bool.eq_false_or_eq_true (decide (a0.Req = j9)) with kq | kq
           ·have hr := ite_t kq hr; refine gt 100 (rfl : _ = Value.bool (decide (a0.Req = j9))) kq (L_fieldAddr fld74_4 Deed.of_Sync k8 (j4.mono (je.trans (jr.trans k5))) (by decide) (fun kr ks => gt 100 (rfl : _ = Value.bool (decide (a0.Req = j9))) kq (L_load_bool ty4 (rfl : _ = kr) ks (by decide) (gt 100 (rfl : _ = Value.bool (decide (a0.Req = j9))) kq (L_not (rfl : _ = Value.bool (a0.Sync)) (by decide) (pt (rfl : _ = Value.bool (decide (a0.Req = j9))) kq (rfl : _ = Value.bool (!a0.Sync)) (asg (rfl : _ = Value.bool (!a0.Sync)) (nn (W_ret (block_r (then_r ?_))))))))))); obtain rfl := Option.some.inj hr; exact done1 (Or.inl rfl) Try.results72 rfl ⟨_, _, rfl, rfl, k4, Vbool⟩
           ·have hr := ite_f kq hr; refine gf 100 (rfl : _ = Value.bool (decide (a0.Req = j9))) kq (gf 100 (rfl : _ = Value.bool (decide (a0.Req = j9))) kq (gf 100 (rfl : _ = Value.bool (decide (a0.Req = j9))) kq (pf (rfl : _ = Value.bool (decide (a0.Req = j9))) kq (rfl : _ = Value.bool (false)) (asg (rfl : _ = Value.bool (false)) (nn (W_ret (block_r (then_r ?_)))))))); obtain rfl := Option.some.inj hr; exact done1 (Or.inl rfl) Try.results72 rfl ⟨_, _, rfl, rfl, k4, Vbool⟩
          ·have hr := ite_f kn hr
           refine gt 88 (rfl : _ = Value.bool (jm)) kn (L_fieldAddr fld74_2 Deed.of_Tag k8 (j4.mono (je.trans (jr.trans k5))) (by decide) (fun ko kp => gt 88 (rfl : _ = Value.bool (jm)) kn (li ty3 (rfl : _ = ko) kp (gt 88 (rfl : _ = Value.bool (jm)) kn (L_eql (rfl : _ = Value.int .i64 (a0.Tag)) (rfl : _ = Value.int .i64 (-1)) (by decide) (gt 86 (rfl : _ = Value.bool (decide (a0.Peer = (-1)))) km (pf (rfl : _ = Value.bool (jm)) kn (rfl : _ = Value.bool (decide (a0.Tag = (-1)))) (pt (rfl : _ = Value.bool (decide (a0.Peer = (-1)))) km (rfl : _ = Value.bool (decide (a0.Tag = (-1)))) (mv (rfl : _ = Value.bool (decide (a0.Tag = (-1)))) ?_)))))))))
           rcases Bool.eq_false_or_eq_true (decide (a0.Tag = (-1))) with kq | kq
           ·have hr := ite_t kq hr
            refine gt 94 (rfl : _ = Value.bool (decide (a0.Tag = (-1)))) kq (L_fieldAddr fld74_3 Deed.of_Req k8 (j4.mono (je.trans (jr.trans k5))) (by decide) (fun kr ks => gt 94 (rfl : _ = Value.bool (decide (a0.Tag = (-1)))) kq (li ty3 (rfl : _ = kr) ks (gt 94 (rfl : _ = Value.bool (decide (a0.Tag = (-1)))) kq (mv (rfl : _ = Value.int .i64 (j9)) (gt 94 (rfl : _ = Value.bool (decide (a0.Tag = (-1)))) kq (L_eql (rfl : _ = Value.int .i64 (a0.Req)) (rfl : _ = Value.int .i64 (j9)) (by decide) (pt (rfl : _ = Value.bool (decide (a0.Tag = (-1)))) kq (rfl : _ = Value.bool (decide (a0.Req = j9))) (mv (rfl : _ = Value.bool (decide (a0.Req = j9))) ?_)))))))))
            rcases Bool.eq_false_or_eq_true (decide (a0.Req = j9)) with kt | kt
            ·have hr := ite_t kt hr; refine gt 100 (rfl : _ = Value.bool (decide (a0.Req = j9))) kt (L_fieldAddr fld74_4 Deed.of_Sync k8 (j4.mono (je.trans (jr.trans k5))) (by decide) (fun ku kv => gt 100 (rfl : _ = Value.bool (decide (a0.Req = j9))) kt (L_load_bool ty4 (rfl : _ = ku) kv (by decide) (gt 100 (rfl : _ = Value.bool (decide (a0.Req = j9))) kt (L_not (rfl : _ = Value.bool (a0.Sync)) (by decide) (pt (rfl : _ = Value.bool (decide (a0.Req = j9))) kt (rfl : _ = Value.bool (!a0.Sync)) (asg (rfl : _ = Value.bool (!a0.Sync)) (nn (W_ret (block_r (then_r ?_))))))))))); obtain rfl := Option.some.inj hr; exact done1 (Or.inl rfl) Try.results72 rfl ⟨_, _, rfl, rfl, k4, Vbool⟩
            ·have hr := ite_f kt hr; refine gf 100 (rfl : _ = Value.bool (decide (a0.Req = j9))) kt (gf 100 (rfl : _ = Value.bool (decide (a0.Req = j9))) kt (gf 100 (rfl : _ = Value.bool (decide (a0.Req = j9))) kt (pf (rfl : _ = Value.bool (decide (a0.Req = j9))) kt (rfl : _ = Value.bool (false)) (asg (rfl : _ = Value.bool (false)) (nn (W_ret (block_r (then_r ?_)))))))); obtain rfl := Option.some.inj hr; exact done1 (Or.inl rfl) Try.results72 rfl ⟨_, _, rfl, rfl, k4, Vbool⟩
           ·have hr := ite_f kq hr; refine gf 94 (rfl : _ = Value.bool (decide (a0.Tag = (-1)))) kq (gf 94 (rfl : _ = Value.bool (decide (a0.Tag = (-1)))) kq (gf 94 (rfl : _ = Value.bool (decide (a0.Tag = (-1)))) kq (gf 94 (rfl : _ = Value.bool (decide (a0.Tag = (-1)))) kq (pf (rfl : _ = Value.bool (decide (a0.Tag = (-1)))) kq (rfl : _ = Value.bool (false)) (mv (rfl : _ = Value.bool (false)) (gf 100 (rfl : _ = Value.bool (false)) rfl (gf 100 (rfl : _ = Value.bool (false)) rfl (gf 100 (rfl : _ = Value.bool (false)) rfl (pf (rfl : _ = Value.bool (false)) rfl (rfl : _ = Value.bool (false)) (asg (rfl : _ = Value.bool (false)) (nn (W_ret (block_r ?_))))))))))))); refine then_r ?_; obtain rfl := Option.some.inj hr; exact done1 (Or.inl rfl) Try.results72 rfl ⟨_, _, rfl, rfl, k4, Vbool⟩
         ·have hr := ite_f km hr; refine gf 86 (rfl : _ = Value.bool (decide (a0.Peer = (-1)))) km (gf 86 (rfl : _ = Value.bool (decide (a0.Peer = (-1)))) km (L_gu (e := 88) (by rfl) (rfl : _ = undef) (by decide) (L_gu (e := 88) (by rfl) (rfl : _ = undef) (by decide) (L_gu (e := 88) (by rfl) (rfl : _ = undef) (by decide) (gf 86 (rfl : _ = Value.bool (decide (a0.Peer = (-1)))) km (pf (rfl : _ = Value.bool (decide (a0.Peer = (-1)))) km (rfl : _ = Value.bool (false)) (mv (rfl : _ = Value.bool (false)) (gf 94 (rfl : _ = Value.bool (false)) rfl (gf 94 (rfl : _ = Value.bool (false)) rfl (gf 94 (rfl : _ = Value.bool (false)) rfl (gf 94 (rfl : _ = Value.bool (false)) rfl (pf (rfl : _ = Value.bool (false)) rfl (rfl : _ = Value.bool (false)) (mv (rfl : _ = Value.bool (false)) ?_))))))))))))); refine gf 100 (rfl : _ = Value.bool (false)) rfl (gf 100 (rfl : _ = Value.bool (false)) rfl (gf 100 (rfl : _ = Value.bool (false)) rfl (pf (rfl : _ = Value.bool (false)) rfl (rfl : _ = Value.bool (false)) (asg (rfl : _ = Value.bool (false)) (nn (W_ret (block_r (then_r ?_)))))))); obtain rfl := Option.some.inj hr; exact done1 (Or.inl rfl) Try.results72 rfl ⟨_, _, rfl, rfl, k4, Vbool⟩
       ·have hr := ite_f ki hr
        refine W_skip (then_n (sr (mv k6 (mv (rfl : _ = Value.bool (k0)) ?_))))
        rcases Bool.eq_false_or_eq_true (k0) with kj | kj
        ·have hr := ite_t kj hr
         refine gf 81 (rfl : _ = Value.bool (k0)) kj (gf 81 (rfl : _ = Value.bool (k0)) kj (gf 81 (rfl : _ = Value.bool (k0)) kj (pt (rfl : _ = Value.bool (k0)) kj (rfl : _ = Value.bool (true)) (mv (rfl : _ = Value.bool (true)) (gt 86 (rfl : _ = Value.bool (true)) rfl (mv ka (gt 86 (rfl : _ = Value.bool (true)) rfl (mv (rfl : _ = Value.bool (jm)) ?_))))))))
         rcases Bool.eq_false_or_eq_true (jm) with kk | kk
         ·have hr := ite_t kk hr
          refine gf 88 (rfl : _ = Value.bool (jm)) kk (gf 88 (rfl : _ = Value.bool (jm)) kk (gf 88 (rfl : _ = Value.bool (jm)) kk (gt 86 (rfl : _ = Value.bool (true)) rfl (pt (rfl : _ = Value.bool (jm)) kk (rfl : _ = Value.bool (true)) (pt (rfl : _ = Value.bool (true)) rfl (rfl : _ = Value.bool (true)) (mv (rfl : _ = Value.bool (true)) (gt 94 (rfl : _ = Value.bool (true)) rfl (L_fieldAddr fld74_3 Deed.of_Req k8 (j4.mono (je.trans (jr.trans k5))) (by decide) (fun kl km => gt 94 (rfl : _ = Value.bool (true)) rfl (li ty3 (rfl : _ = kl) km (gt 94 (rfl : _ = Value.bool (true)) rfl (mv (rfl : _ = Value.int .i64 (0)) (gt 94 (rfl : _ = Value.bool (true)) rfl ?_)))))))))))))
          refine L_eql (rfl : _ = Value.int .i64 (a0.Req)) (rfl : _ = Value.int .i64 (0)) (by decide) (pt (rfl : _ = Value.bool (true)) rfl (rfl : _ = Value.bool (decide (a0.Req = 0))) (mv (rfl : _ = Value.bool (decide (a0.Req = 0))) ?_))
          rcases Bool.eq_false_or_eq_true (decide (a0.Req = 0)) with kn | kn
          ·have hr := ite_t kn hr; refine gt 100 (rfl : _ = Value.bool (decide (a0.Req = 0))) kn (L_fieldAddr fld74_4 Deed.of_Sync k8 (j4.mono (je.trans (jr.trans k5))) (by decide) (fun ko kp => gt 100 (rfl : _ = Value.bool (decide (a0.Req = 0))) kn (L_load_bool ty4 (rfl : _ = ko) kp (by decide) (gt 100 (rfl : _ = Value.bool (decide (a0.Req = 0))) kn (L_not (rfl : _ = Value.bool (a0.Sync)) (by decide) (pt (rfl : _ = Value.bool (decide (a0.Req = 0))) kn (rfl : _ = Value.bool (!a0.Sync)) (asg (rfl : _ = Value.bool (!a0.Sync)) (nn (W_ret (block_r (then_r ?_))))))))))); obtain rfl := Option.some.inj hr; exact done1 (Or.inl rfl) Try.results72 rfl ⟨_, _, rfl, rfl, k4, Vbool⟩
          ·have hr := ite_f kn hr; refine gf 100 (rfl : _ = Value.bool (decide (a0.Req = 0))) kn (gf 100 (rfl : _ = Value.bool (decide (a0.Req = 0))) kn (gf 100 (rfl : _ = Value.bool (decide (a0.Req = 0))) kn (pf (rfl : _ = Value.bool (decide (a0.Req = 0))) kn (rfl : _ = Value.bool (false)) (asg (rfl : _ = Value.bool (false)) (nn (W_ret (block_r (then_r ?_)))))))); obtain rfl := Option.some.inj hr; exact done1 (Or.inl rfl) Try.results72 rfl ⟨_, _, rfl, rfl, k4, Vbool⟩
         ·have hr := ite_f kk hr
          refine gt 88 (rfl : _ = Value.bool (jm)) kk (L_fieldAddr fld74_2 Deed.of_Tag k8 (j4.mono (je.trans (jr.trans k5))) (by decide) (fun kl km => gt 88 (rfl : _ = Value.bool (jm)) kk (li ty3 (rfl : _ = kl) km (gt 88 (rfl : _ = Value.bool (jm)) kk (L_eql (rfl : _ = Value.int .i64 (a0.Tag)) (rfl : _ = Value.int .i64 (-1)) (by decide) (gt 86 (rfl : _ = Value.bool (true)) rfl (pf (rfl : _ = Value.bool (jm)) kk (rfl : _ = Value.bool (decide (a0.Tag = (-1)))) (pt (rfl : _ = Value.bool (true)) rfl (rfl : _ = Value.bool (decide (a0.Tag = (-1)))) (mv (rfl : _ = Value.bool (decide (a0.Tag = (-1)))) ?_)))))))))
          rcases Bool.eq_false_or_eq_true (decide (a0.Tag = (-1))) with kn | kn
          ·have hr := ite_t kn hr
           refine gt 94 (rfl : _ = Value.bool (decide (a0.Tag = (-1)))) kn (L_fieldAddr fld74_3 Deed.of_Req k8 (j4.mono (je.trans (jr.trans k5))) (by decide) (fun ko kp => gt 94 (rfl : _ = Value.bool (decide (a0.Tag = (-1)))) kn (li ty3 (rfl : _ = ko) kp (gt 94 (rfl : _ = Value.bool (decide (a0.Tag = (-1)))) kn (mv (rfl : _ = Value.int .i64 (0)) (gt 94 (rfl : _ = Value.bool (decide (a0.Tag = (-1)))) kn (L_eql (rfl : _ = Value.int .i64 (a0.Req)) (rfl : _ = Value.int .i64 (0)) (by decide) (pt (rfl : _ = Value.bool (decide (a0.Tag = (-1)))) kn (rfl : _ = Value.bool (decide (a0.Req = 0))) (mv (rfl : _ = Value.bool (decide (a0.Req = 0))) ?_)))))))))
           rcases Bool.eq_false_or_eq_true (decide (a0.Req = 0)) with kq | kq
           ·have hr := ite_t kq hr; refine gt 100 (rfl : _ = Value.bool (decide (a0.Req = 0))) kq (L_fieldAddr fld74_4 Deed.of_Sync k8 (j4.mono (je.trans (jr.trans k5))) (by decide) (fun kr ks => gt 100 (rfl : _ = Value.bool (decide (a0.Req = 0))) kq (L_load_bool ty4 (rfl : _ = kr) ks (by decide) (gt 100 (rfl : _ = Value.bool (decide (a0.Req = 0))) kq (L_not (rfl : _ = Value.bool (a0.Sync)) (by decide) (pt (rfl : _ = Value.bool (decide (a0.Req = 0))) kq (rfl : _ = Value.bool (!a0.Sync)) (asg (rfl : _ = Value.bool (!a0.Sync)) (nn (W_ret (block_r (then_r ?_))))))))))); obtain rfl := Option.some.inj hr; exact done1 (Or.inl rfl) Try.results72 rfl ⟨_, _, rfl, rfl, k4, Vbool⟩
           ·have hr := ite_f kq hr; refine gf 100 (rfl : _ = Value.bool (decide (a0.Req = 0))) kq (gf 100 (rfl : _ = Value.bool (decide (a0.Req = 0))) kq (gf 100 (rfl : _ = Value.bool (decide (a0.Req = 0))) kq (pf (rfl : _ = Value.bool (decide (a0.Req = 0))) kq (rfl : _ = Value.bool (false)) (asg (rfl : _ = Value.bool (false)) (nn (W_ret (block_r (then_r ?_)))))))); obtain rfl := Option.some.inj hr; exact done1 (Or.inl rfl) Try.results72 rfl ⟨_, _, rfl, rfl, k4, Vbool⟩
          ·have hr := ite_f kn hr; refine gf 94 (rfl : _ = Value.bool (decide (a0.Tag = (-1)))) kn (gf 94 (rfl : _ = Value.bool (decide (a0.Tag = (-1)))) kn (gf 94 (rfl : _ = Value.bool (decide (a0.Tag = (-1)))) kn (gf 94 (rfl : _ = Value.bool (decide (a0.Tag = (-1)))) kn (pf (rfl : _ = Value.bool (decide (a0.Tag = (-1)))) kn (rfl : _ = Value.bool (false)) (mv (rfl : _ = Value.bool (false)) (gf 100 (rfl : _ = Value.bool (false)) rfl (gf 100 (rfl : _ = Value.bool (false)) rfl (gf 100 (rfl : _ = Value.bool (false)) rfl (pf (rfl : _ = Value.bool (false)) rfl (rfl : _ = Value.bool (false)) (asg (rfl : _ = Value.bool (false)) (nn (W_ret (block_r ?_))))))))))))); refine then_r ?_; obtain rfl := Option.some.inj hr; exact done1 (Or.inl rfl) Try.results72 rfl ⟨_, _, rfl, rfl, k4, Vbool⟩
        ·have hr := ite_f kj hr
         refine gt 81 (rfl : _ = Value.bool (k0)) kj (L_fieldAddr fld74_1 Deed.of_Peer k8 (j4.mono (je.trans (jr.trans k5))) (by decide) (fun kk kl => gt 81 (rfl : _ = Value.bool (k0)) kj (li ty3 (rfl : _ = kk) kl (gt 81 (rfl : _ = Value.bool (k0)) kj (L_eql (rfl : _ = Value.int .i64 (a0.Peer)) (rfl : _ = Value.int .i64 (-1)) (by decide) (pf (rfl : _ = Value.bool (k0)) kj (rfl : _ = Value.bool (decide (a0.Peer = (-1)))) (mv (rfl : _ = Value.bool (decide (a0.Peer = (-1)))) ?_)))))))
         rcases Bool.eq_false_or_eq_true (decide (a0.Peer = (-1))) with km | km
         ·have hr := ite_t km hr
          refine gt 86 (rfl : _ = Value.bool (decide (a0.Peer = (-1)))) km (mv ka (gt 86 (rfl : _ = Value.bool (decide (a0.Peer = (-1)))) km (mv (rfl : _ = Value.bool (jm)) ?_)))
          rcases Bool.eq_false_or_eq_true (jm) with kn | kn
          ·have hr := ite_t kn hr
           refine gf 88 (rfl : _ = Value.bool (jm)) kn (gf 88 (rfl : _ = Value.bool (jm)) kn (gf 88 (rfl : _ = Value.bool (jm)) kn (gt 86 (rfl : _ = Value.bool (decide (a0.Peer = (-1)))) km (pt (rfl : _ = Value.bool (jm)) kn (rfl : _ = Value.bool (true)) (pt (rfl : _ = Value.bool (decide (a0.Peer = (-1)))) km (rfl : _ = Value.bool (true)) (mv (rfl : _ = Value.bool (true)) (gt 94 (rfl : _ = Value.bool (true)) rfl (L_fieldAddr fld74_3 Deed.of_Req k8 (j4.mono (je.trans (jr.trans k5))) (by decide) (fun ko kp => gt 94 (rfl : _ = Value.bool (true)) rfl (li ty3 (rfl : _ = ko) kp (gt 94 (rfl : _ = Value.bool (true)) rfl (mv (rfl : _ = Value.int .i64 (0)) (gt 94 (rfl : _ = Value.bool (true)) rfl ?_)))))))))))))
           refine L_eql (rfl : _ = Value.int .i64 (a0.Req)) (rfl : _ = Value.int .i64 (0)) (by decide) (pt (rfl : _ = Value.bool (true)) rfl (rfl : _ = Value.bool (decide (a0.Req = 0))) (mv (rfl : _ = Value.bool (decide (a0.Req = 0))) ?_))
           rcases Bool.eq_false_or_eq_true (decide (a0.Req = 0)) with kq | kq
           ·have hr := ite_t kq hr; refine gt 100 (rfl : _ = Value.bool (decide (a0.Req = 0))) kq (L_fieldAddr fld74_4 Deed.of_Sync k8 (j4.mono (je.trans (jr.trans k5))) (by decide) (fun kr ks => gt 100 (rfl : _ = Value.bool (decide (a0.Req = 0))) kq (L_load_bool ty4 (rfl : _ = kr) ks (by decide) (gt 100 (rfl : _ = Value.bool (decide (a0.Req = 0))) kq (L_not (rfl : _ = Value.bool (a0.Sync)) (by decide) (pt (rfl : _ = Value.bool (decide (a0.Req = 0))) kq (rfl : _ = Value.bool (!a0.Sync)) (asg (rfl : _ = Value.bool (!a0.Sync)) (nn (W_ret (block_r (then_r ?_))))))))))); obtain rfl := Option.some.inj hr; exact done1 (Or.inl rfl) Try.results72 rfl ⟨_, _, rfl, rfl, k4, Vbool⟩
           ·have hr := ite_f kq hr; refine gf 100 (rfl : _ = Value.bool (decide (a0.Req = 0))) kq (gf 100 (rfl : _ = Value.bool (decide (a0.Req = 0))) kq (gf 100 (rfl : _ = Value.bool (decide (a0.Req = 0))) kq (pf (rfl : _ = Value.bool (decide (a0.Req = 0))) kq (rfl : _ = Value.bool (false)) (asg (rfl : _ = Value.bool (false)) (nn (W_ret (block_r (then_r ?_)))))))); obtain rfl := Option.some.inj hr; exact done1 (Or.inl rfl) Try.results72 rfl ⟨_, _, rfl, rfl, k4, Vbool⟩
          ·have hr := ite_f kn hr
           refine gt 88 (rfl : _ = Value.bool (jm)) kn (L_fieldAddr fld74_2 Deed.of_Tag k8 (j4.mono (je.trans (jr.trans k5))) (by decide) (fun ko kp => gt 88 (rfl : _ = Value.bool (jm)) kn (li ty3 (rfl : _ = ko) kp (gt 88 (rfl : _ = Value.bool (jm)) kn (L_eql (rfl : _ = Value.int .i64 (a0.Tag)) (rfl : _ = Value.int .i64 (-1)) (by decide) (gt 86 (rfl : _ = Value.bool (decide (a0.Peer = (-1)))) km (pf (rfl : _ = Value.bool (jm)) kn (rfl : _ = Value.bool (decide (a0.Tag = (-1)))) (pt (rfl : _ = Value.bool (decide (a0.Peer = (-1)))) km (rfl : _ = Value.bool (decide (a0.Tag = (-1)))) (mv (rfl : _ = Value.bool (decide (a0.Tag = (-1)))) ?_)))))))))
           rcases Bool.eq_false_or_eq_true (decide (a0.Tag = (-1))) with kq | kq
           ·have hr := ite_t kq hr
            refine gt 94 (rfl : _ = Value.bool (decide (a0.Tag = (-1)))) kq (L_fieldAddr fld74_3 Deed.of_Req k8 (j4.mono (je.trans (jr.trans k5))) (by decide) (fun kr ks => gt 94 (rfl : _ = Value.bool (decide (a0.Tag = (-1)))) kq (li ty3 (rfl : _ = kr) ks (gt 94 (rfl : _ = Value.bool (decide (a0.Tag = (-1)))) kq (mv (rfl : _ = Value.int .i64 (0)) (gt 94 (rfl : _ = Value.bool (decide (a0.Tag = (-1)))) kq (L_eql (rfl : _ = Value.int .i64 (a0.Req)) (rfl : _ = Value.int .i64 (0)) (by decide) (pt (rfl : _ = Value.bool (decide (a0.Tag = (-1)))) kq (rfl : _ = Value.bool (decide (a0.Req = 0))) (mv (rfl : _ = Value.bool (decide (a0.Req = 0))) ?_)))))))))
            rcases Bool.eq_false_or_eq_true (decide (a0.Req = 0)) with kt | kt
            ·have hr := ite_t kt hr; refine gt 100 (rfl : _ = Value.bool (decide (a0.Req = 0))) kt (L_fieldAddr fld74_4 Deed.of_Sync k8 (j4.mono (je.trans (jr.trans k5))) (by decide) (fun ku kv => gt 100 (rfl : _ = Value.bool (decide (a0.Req = 0))) kt (L_load_bool ty4 (rfl : _ = ku) kv (by decide) (gt 100 (rfl : _ = Value.bool (decide (a0.Req = 0))) kt (L_not (rfl : _ = Value.bool (a0.Sync)) (by decide) (pt (rfl : _ = Value.bool (decide (a0.Req = 0))) kt (rfl : _ = Value.bool (!a0.Sync)) (asg (rfl : _ = Value.bool (!a0.Sync)) (nn (W_ret (block_r (then_r ?_))))))))))); obtain rfl := Option.some.inj hr; exact done1 (Or.inl rfl) Try.results72 rfl ⟨_, _, rfl, rfl, k4, Vbool⟩
            ·have hr := ite_f kt hr; refine gf 100 (rfl : _ = Value.bool (decide (a0.Req = 0))) kt (gf 100 (rfl : _ = Value.bool (decide (a0.Req = 0))) kt (gf 100 (rfl : _ = Value.bool (decide (a0.Req = 0))) kt (pf (rfl : _ = Value.bool (decide (a0.Req = 0))) kt (rfl : _ = Value.bool (false)) (asg (rfl : _ = Value.bool (false)) (nn (W_ret (block_r (then_r ?_)))))))); obtain rfl := Option.some.inj hr; exact done1 (Or.inl rfl) Try.results72 rfl ⟨_, _, rfl, rfl, k4, Vbool⟩
           ·have hr := ite_f kq hr; refine gf 94 (rfl : _ = Value.bool (decide (a0.Tag = (-1)))) kq (gf 94 (rfl : _ = Value.bool (decide (a0.Tag = (-1)))) kq (gf 94 (rfl : _ = Value.bool (decide (a0.Tag = (-1)))) kq (gf 94 (rfl : _ = Value.bool (decide (a0.Tag = (-1)))) kq (pf (rfl : _ = Value.bool (decide (a0.Tag = (-1)))) kq (rfl : _ = Value.bool (false)) (mv (rfl : _ = Value.bool (false)) (gf 100 (rfl : _ = Value.bool (false)) rfl (gf 100 (rfl : _ = Value.bool (false)) rfl (gf 100 (rfl : _ = Value.bool (false)) rfl (pf (rfl : _ = Value.bool (false)) rfl (rfl : _ = Value.bool (false)) (asg (rfl : _ = Value.bool (false)) (nn (W_ret (block_r ?_))))))))))))); refine then_r ?_; obtain rfl := Option.some.inj hr; exact done1 (Or.inl rfl) Try.results72 rfl ⟨_, _, rfl, rfl, k4, Vbool⟩
         ·have hr := ite_f km hr; refine gf 86 (rfl : _ = Value.bool (decide (a0.Peer = (-1)))) km (gf 86 (rfl : _ = Value.bool (decide (a0.Peer = (-1)))) km (L_gu (e := 88) (by rfl) (rfl : _ = undef) (by decide) (L_gu (e := 88) (by rfl) (rfl : _ = undef) (by decide) (L_gu (e := 88) (by rfl) (rfl : _ = undef) (by decide) (gf 86 (rfl : _ = Value.bool (decide (a0.Peer = (-1)))) km (pf (rfl : _ = Value.bool (decide (a0.Peer = (-1)))) km (rfl : _ = Value.bool (false)) (mv (rfl : _ = Value.bool (false)) (gf 94 (rfl : _ = Value.bool (false)) rfl (gf 94 (rfl : _ = Value.bool (false)) rfl (gf 94 (rfl : _ = Value.bool (false)) rfl (gf 94 (rfl : _ = Value.bool (false)) rfl (pf (rfl : _ = Value.bool (false)) rfl (rfl : _ = Value.bool (false)) (mv (rfl : _ = Value.bool (false)) ?_))))))))))))); refine gf 100 (rfl : _ = Value.bool (false)) rfl (gf 100 (rfl : _ = Value.bool (false)) rfl (gf 100 (rfl : _ = Value.bool (false)) rfl (pf (rfl : _ = Value.bool (false)) rfl (rfl : _ = Value.bool (false)) (asg (rfl : _ = Value.bool (false)) (nn (W_ret (block_r (then_r ?_)))))))); obtain rfl := Option.some.inj hr; exact done1 (Or.inl rfl) Try.results72 rfl ⟨_, _, rfl, rfl, k4, Vbool⟩
      ·have hr := ite_f kf hr
       refine W_region (L_eql (rfl : _ = Value.int .i64 (a0.Kind)) (rfl : _ = Value.int .i64 (4)) (by decide) (asg (rfl : _ = Value.bool (decide (a0.Kind = 4))) (nn ?_)))
       refine W_cond _ (rfl : _ = Value.bool (decide (a0.Kind = 4))) (fun kg => ?_) (fun kg => ?_)
       ·have hr := ite_t kg hr
        refine sr (asg (rfl : _ = Value.int .i64 (0)) (nn (W_seq (sr (L_fieldAddr fld74_0 Deed.of_Kind k8 (j4.mono (je.trans (jr.trans k5))) (by decide) (fun kh ki => li ty3 (rfl : _ = kh) ki (L_eql (rfl : _ = Value.int .i64 (a0.Kind)) (rfl : _ = Value.int .i64 (4)) (by decide) (nn ?_))))))))
        refine W_cond _ (rfl : _ = Value.bool (decide (a0.Kind = 4))) (fun _ => ?_) (fun h => absurd (h.symm.trans kg) (by decide))
        refine W_region (mv k9 (asg (rfl : _ = Value.int .i64 (j9)) (nn (sr (mv k6 (mv (rfl : _ = Value.bool (k0)) ?_))))))
        rcases Bool.eq_false_or_eq_true (k0) with kj | kj
        ·have hr := ite_t kj hr
         refine gf 81 (rfl : _ = Value.bool (k0)) kj (gf 81 (rfl : _ = Value.bool (k0)) kj (gf 81 (rfl : _ = Value.bool (k0)) kj (pt (rfl : _ = Value.bool (k0)) kj (rfl : _ = Value.bool (true)) (mv (rfl : _ = Value.bool (true)) (gt 86 (rfl : _ = Value.bool (true)) rfl (mv ka (gt 86 (rfl : _ = Value.bool (true)) rfl (mv (rfl : _ = Value.bool (jm)) ?_))))))))
         rcases Bool.eq_false_or_eq_true (jm) with kk | kk
         ·have hr := ite_t kk hr
          refine gf 88 (rfl : _ = Value.bool (jm)) kk (gf 88 (rfl : _ = Value.bool (jm)) kk (gf 88 (rfl : _ = Value.bool (jm)) kk (gt 86 (rfl : _ = Value.bool (true)) rfl (pt (rfl : _ = Value.bool (jm)) kk (rfl : _ = Value.bool (true)) (pt (rfl : _ = Value.bool (true)) rfl (rfl : _ = Value.bool (true)) (mv (rfl : _ = Value.bool (true)) (gt 94 (rfl : _ = Value.bool (true)) rfl (L_fieldAddr fld74_3 Deed.of_Req k8 (j4.mono (je.trans (jr.trans k5))) (by decide) (fun kl km => gt 94 (rfl : _ = Value.bool (true)) rfl (li ty3 (rfl : _ = kl) km (gt 94 (rfl : _ = Value.bool (true)) rfl (mv (rfl : _ = Value.int .i64 (j9)) (gt 94 (rfl : _ = Value.bool (true)) rfl ?_)))))))))))))
          refine L_eql (rfl : _ = Value.int .i64 (a0.Req)) (rfl : _ = Value.int .i64 (j9)) (by decide) (pt (rfl : _ = Value.bool (true)) rfl (rfl : _ = Value.bool (decide (a0.Req = j9))) (mv (rfl : _ = Value.bool (decide (a0.Req = j9))) ?_))
          rcases Bool.eq_false_or_eq_true (decide (a0.Req = j9)) with kn | kn
          ·have hr := ite_t kn hr; refine gt 100 (rfl : _ = Value.bool (decide (a0.Req = j9))) kn (L_fieldAddr fld74_4 Deed.of_Sync k8 (j4.mono (je.trans (jr.trans k5))) (by decide) (fun ko kp => gt 100 (rfl : _ = Value.bool (decide (a0.Req = j9))) kn (L_load_bool ty4 (rfl : _ = ko) kp (by decide) (gt 100 (rfl : _ = Value.bool (decide (a0.Req = j9))) kn (L_not (rfl : _ = Value.bool (a0.Sync)) (by decide) (pt (rfl : _ = Value.bool (decide (a0.Req = j9))) kn (rfl : _ = Value.bool (!a0.Sync)) (asg (rfl : _ = Value.bool (!a0.Sync)) (nn (W_ret (block_r (then_r ?_))))))))))); obtain rfl := Option.some.inj hr; exact done1 (Or.inl rfl) Try.results72 rfl ⟨_, _, rfl, rfl, k4, Vbool⟩
          ·have hr := ite_f kn hr; refine gf 100 (rfl : _ = Value.bool (decide (a0.Req = j9))) kn (gf 100 (rfl : _ = Value.bool (decide (a0.Req = j9))) kn (gf 100 (rfl : _ = Value.bool (decide (a0.Req = j9))) kn (pf (rfl : _ = Value.bool (decide (a0.Req = j9))) kn (rfl : _ = Value.bool (false)) (asg (rfl : _ = Value.bool (false)) (nn (W_ret (block_r (then_r ?_)))))))); obtain rfl := Option.some.inj hr; exact done1 (Or.inl rfl) Try.results72 rfl ⟨_, _, rfl, rfl, k4, Vbool⟩
         ·have hr := ite_f kk hr
          refine gt 88 (rfl : _ = Value.bool (jm)) kk (L_fieldAddr fld74_2 Deed.of_Tag k8 (j4.mono (je.trans (jr.trans k5))) (by decide) (fun kl km => gt 88 (rfl : _ = Value.bool (jm)) kk (li ty3 (rfl : _ = kl) km (gt 88 (rfl : _ = Value.bool (jm)) kk (L_eql (rfl : _ = Value.int .i64 (a0.Tag)) (rfl : _ = Value.int .i64 (-1)) (by decide) (gt 86 (rfl : _ = Value.bool (true)) rfl (pf (rfl : _ = Value.bool (jm)) kk (rfl : _ = Value.bool (decide (a0.Tag = (-1)))) (pt (rfl : _ = Value.bool (true)) rfl (rfl : _ = Value.bool (decide (a0.Tag = (-1)))) (mv (rfl : _ = Value.bool (decide (a0.Tag = (-1)))) ?_)))))))))
          rcases Bool.eq_false_or_eq_true (decide (a0.Tag = (-1))) with kn | kn
          ·have hr := ite_t kn hr
           refine gt 94 (rfl : _ = Value.bool (decide (a0.Tag = (-1)))) kn (L_fieldAddr fld74_3 Deed.of_Req k8 (j4.mono (je.trans (jr.trans k5))) (by decide) (fun ko kp => gt 94 (rfl : _ = Value.bool (decide (a0.Tag = (-1)))) kn (li ty3 (rfl : _ = ko) kp (gt 94 (rfl : _ = Value.bool (decide (a0.Tag = (-1)))) kn (mv (rfl : _ = Value.int .i64 (j9)) (gt 94 (rfl : _ = Value.bool (decide (a0.Tag = (-1)))) kn (L_eql (rfl : _ = Value.int .i64 (a0.Req)) (rfl : _ = Value.int .i64 (j9)) (by decide) (pt (rfl : _ = Value.bool (decide (a0.Tag = (-1)))) kn (rfl : _ = Value.bool (decide (a0.Req = j9))) (mv (rfl : _ = Value.bool (decide (a0.Req = j9))) ?_)))))))))
           rcases Bool.eq_false_or_eq_true (decide (a0.Req = j9)) with kq | kq
           ·have hr := ite_t kq hr; refine gt 100 (rfl : _ = Value.bool (decide (a0.Req = j9))) kq (L_fieldAddr fld74_4 Deed.of_Sync k8 (j4.mono (je.trans (jr.trans k5))) (by decide) (fun kr ks => gt 100 (rfl : _ = Value.bool (decide (a0.Req = j9))) kq (L_load_bool ty4 (rfl : _ = kr) ks (by decide) (gt 100 (rfl : _ = Value.bool (decide (a0.Req = j9))) kq (L_not (rfl : _ = Value.bool (a0.Sync)) (by decide) (pt (rfl : _ = Value.bool (decide (a0.Req = j9))) kq (rfl : _ = Value.bool (!a0.Sync)) (asg (rfl : _ = Value.bool (!a0.Sync)) (nn (W_ret (block_r (then_r ?_))))))))))); obtain rfl := Option.some.inj hr; exact done1 (Or.inl rfl) Try.results72 rfl ⟨_, _, rfl, rfl, k4, Vbool⟩
           ·have hr := ite_f kq hr; refine gf 100 (rfl : _ = Value.bool (decide (a0.Req = j9))) kq (gf 100 (rfl : _ = Value.bool (decide (a0.Req = j9))) kq (gf 100 (rfl : _ = Value.bool (decide (a0.Req = j9))) kq (pf (rfl : _ = Value.bool (decide (a0.Req = j9))) kq (rfl : _ = Value.bool (false)) (asg (rfl : _ = Value.bool (false)) (nn (W_ret (block_r (then_r ?_)))))))); obtain rfl := Option.some.inj hr; exact done1 (Or.inl rfl) Try.results72 rfl ⟨_, _, rfl, rfl, k4, Vbool⟩
          ·have hr := ite_f kn hr; refine gf 94 (rfl : _ = Value.bool (decide (a0.Tag = (-1)))) kn (gf 94 (rfl : _ = Value.bool (decide (a0.Tag = (-1)))) kn (gf 94 (rfl : _ = Value.bool (decide (a0.Tag = (-1)))) kn (gf 94 (rfl : _ = Value.bool (decide (a0.Tag = (-1)))) kn (pf (rfl : _ = Value.bool (decide (a0.Tag = (-1)))) kn (rfl : _ = Value.bool (false)) (mv (rfl : _ = Value.bool (false)) (gf 100 (rfl : _ = Value.bool (false)) rfl (gf 100 (rfl : _ = Value.bool (false)) rfl (gf 100 (rfl : _ = Value.bool (false)) rfl (pf (rfl : _ = Value.bool (false)) rfl (rfl : _ = Value.bool (false)) (asg (rfl : _ = Value.bool (false)) (nn (W_ret (block_r ?_))))))))))))); refine then_r ?_; obtain rfl := Option.some.inj hr; exact done1 (Or.inl rfl) Try.results72 rfl ⟨_, _, rfl, rfl, k4, Vbool⟩
        ·have hr := ite_f kj hr
         refine gt 81 (rfl : _ = Value.bool (k0)) kj (L_fieldAddr fld74_1 Deed.of_Peer k8 (j4.mono (je.trans (jr.trans k5))) (by decide) (fun kk kl => gt 81 (rfl : _ = Value.bool (k0)) kj (li ty3 (rfl : _ = kk) kl (gt 81 (rfl : _ = Value.bool (k0)) kj (L_eql (rfl : _ = Value.int .i64 (a0.Peer)) (rfl : _ = Value.int .i64 (-1)) (by decide) (pf (rfl : _ = Value.bool (k0)) kj (rfl : _ = Value.bool (decide (a0.Peer = (-1)))) (mv (rfl : _ = Value.bool (decide (a0.Peer = (-1)))) ?_)))))))
         rcases Bool.eq_false_or_eq_true (decide (a0.Peer = (-1))) with km | km
         ·have hr := ite_t km hr
          refine gt 86 (rfl : _ = Value.bool (decide (a0.Peer = (-1)))) km (mv ka (gt 86 (rfl : _ = Value.bool (decide (a0.Peer = (-1)))) km (mv (rfl : _ = Value.bool (jm)) ?_)))
          rcases Bool.eq_false_or_eq_true (jm) with kn | kn
          ·have hr := ite_t kn hr
           refine gf 88 (rfl : _ = Value.bool (jm)) kn (gf 88 (rfl : _ = Value.bool (jm)) kn (gf 88 (rfl : _ = Value.bool (jm)) kn (gt 86 (rfl : _ = Value.bool (decide (a0.Peer = (-1)))) km (pt (rfl : _ = Value.bool (jm)) kn (rfl : _ = Value.bool (true)) (pt (rfl : _ = Value.bool (decide (a0.Peer = (-1)))) km (rfl : _ = Value.bool (true)) (mv (rfl : _ = Value.bool (true)) (gt 94 (rfl : _ = Value.bool (true)) rfl (L_fieldAddr fld74_3 Deed.of_Req k8 (j4.mono (je.trans (jr.trans k5))) (by decide) (fun ko kp => gt 94 (rfl : _ = Value.bool (true)) rfl (li ty3 (rfl : _ = ko) kp (gt 94 (rfl : _ = Value.bool (true)) rfl (mv (rfl : _ = Value.int .i64 (j9)) (gt 94 (rfl : _ = Value.bool (true)) rfl ?_)))))))))))))
           refine L_eql (rfl : _ = Value.int .i64 (a0.Req)) (rfl : _ = Value.int .i64 (j9)) (by decide) (pt (rfl : _ = Value.bool (true)) rfl (rfl : _ = Value.bool (decide (a0.Req = j9))) (mv (rfl : _ = Value.bool (decide (a0.Req = j9))) ?_))
           rcases Bool.eq_false_or_eq_true (decide (a0.Req = j9)) with kq | kq
           ·have hr := ite_t kq hr; refine gt 100 (rfl : _ = Value.bool (decide (a0.Req = j9))) kq (L_fieldAddr fld74_4 Deed.of_Sync k8 (j4.mono (je.trans (jr.trans k5))) (by decide) (fun kr ks => gt 100 (rfl : _ = Value.bool (decide (a0.Req = j9))) kq (L_load_bool ty4 (rfl : _ = kr) ks (by decide) (gt 100 (rfl : _ = Value.bool (decide (a0.Req = j9))) kq (L_not (rfl : _ = Value.bool (a0.Sync)) (by decide) (pt (rfl : _ = Value.bool (decide (a0.Req = j9))) kq (rfl : _ = Value.bool (!a0.Sync)) (asg (rfl : _ = Value.bool (!a0.Sync)) (nn (W_ret (block_r (then_r ?_))))))))))); obtain rfl := Option.some.inj hr; exact done1 (Or.inl rfl) Try.results72 rfl ⟨_, _, rfl, rfl, k4, Vbool⟩
           ·have hr := ite_f kq hr; refine gf 100 (rfl : _ = Value.bool (decide (a0.Req = j9))) kq (gf 100 (rfl : _ = Value.bool (decide (a0.Req = j9))) kq (gf 100 (rfl : _ = Value.bool (decide (a0.Req = j9))) kq (pf (rfl : _ = Value.bool (decide (a0.Req = j9))) kq (rfl : _ = Value.bool (false)) (asg (rfl : _ = Value.bool (false)) (nn (W_ret (block_r (then_r ?_)))))))); obtain rfl := Option.some.inj hr; exact done1 (Or.inl rfl) Try.results72 rfl ⟨_, _, rfl, rfl, k4, Vbool⟩
          ·have hr := ite_f kn hr
           refine gt 88 (rfl : _ = Value.bool (jm)) kn (L_fieldAddr fld74_2 Deed.of_Tag k8 (j4.mono (je.trans (jr.trans k5))) (by decide) (fun ko kp => gt 88 (rfl : _ = Value.bool (jm)) kn (li ty3 (rfl : _ = ko) kp (gt 88 (rfl : _ = Value.bool (jm)) kn (L_eql (rfl : _ = Value.int .i64 (a0.Tag)) (rfl : _ = Value.int .i64 (-1)) (by decide) (gt 86 (rfl : _ = Value.bool (decide (a0.Peer = (-1)))) km (pf (rfl : _ = Value.bool (jm)) kn (rfl : _ = Value.bool (decide (a0.Tag = (-1)))) (pt (rfl : _ = Value.bool (decide (a0.Peer = (-1)))) km (rfl : _ = Value.bool (decide (a0.Tag = (-1)))) (mv (rfl : _ = Value.bool (decide (a0.Tag = (-1)))) ?_)))))))))
           rcases Bool.eq_false_or_eq_true (decide (a0.Tag = (-1))) with kq | kq
           ·have hr := ite_t kq hr
            refine gt 94 (rfl : _ = Value.bool (decide (a0.Tag = (-1)))) kq (L_fieldAddr fld74_3 Deed.of_Req k8 (j4.mono (je.trans (jr.trans k5))) (by decide) (fun kr ks => gt 94 (rfl : _ = Value.bool (decide (a0.Tag = (-1)))) kq (li ty3 (rfl : _ = kr) ks (gt 94 (rfl : _ = Value.bool (decide (a0.Tag = (-1)))) kq (mv (rfl : _ = Value.int .i64 (j9)) (gt 94 (rfl : _ = Value.bool (decide (a0.Tag = (-1)))) kq (L_eql (rfl : _ = Value.int .i64 (a0.Req)) (rfl : _ = Value.int .i64 (j9)) (by decide) (pt (rfl : _ = Value.bool (decide (a0.Tag = (-1)))) kq (rfl : _ = Value.bool (decide (a0.Req = j9))) (mv (rfl : _ = Value.bool (decide (a0.Req = j9))) ?_)))))))))
            rcases Bool.eq_false_or_eq_true (decide (a0.Req = j9)) with kt | kt
            ·have hr := ite_t kt hr; refine gt 100 (rfl : _ = Value.bool (decide (a0.Req = j9))) kt (L_fieldAddr fld74_4 Deed.of_Sync k8 (j4.mono (je.trans (jr.trans k5))) (by decide) (fun ku kv => gt 100 (rfl : _ = Value.bool (decide (a0.Req = j9))) kt (L_load_bool ty4 (rfl : _ = ku) kv (by decide) (gt 100 (rfl : _ = Value.bool (decide (a0.Req = j9))) kt (L_not (rfl : _ = Value.bool (a0.Sync)) (by decide) (pt (rfl : _ = Value.bool (decide (a0.Req = j9))) kt (rfl : _ = Value.bool (!a0.Sync)) (asg (rfl : _ = Value.bool (!a0.Sync)) (nn (W_ret (block_r (then_r ?_))))))))))); obtain rfl := Option.some.inj hr; exact done1 (Or.inl rfl) Try.results72 rfl ⟨_, _, rfl, rfl, k4, Vbool⟩
            ·have hr := ite_f kt hr; refine gf 100 (rfl : _ = Value.bool (decide (a0.Req = j9))) kt (gf 100 (rfl : _ = Value.bool (decide (a0.Req = j9))) kt (gf 100 (rfl : _ = Value.bool (decide (a0.Req = j9))) kt (pf (rfl : _ = Value.bool (decide (a0.Req = j9))) kt (rfl : _ = Value.bool (false)) (asg (rfl : _ = Value.bool (false)) (nn (W_ret (block_r (then_r ?_)))))))); obtain rfl := Option.some.inj hr; exact done1 (Or.inl rfl) Try.results72 rfl ⟨_, _, rfl, rfl, k4, Vbool⟩
           ·have hr := ite_f kq hr; refine gf 94 (rfl : _ = Value.bool (decide (a0.Tag = (-1)))) kq (gf 94 (rfl : _ = Value.bool (decide (a0.Tag = (-1)))) kq (gf 94 (rfl : _ = Value.bool (decide (a0.Tag = (-1)))) kq (gf 94 (rfl : _ = Value.bool (decide (a0.Tag = (-1)))) kq (pf (rfl : _ = Value.bool (decide (a0.Tag = (-1)))) kq (rfl : _ = Value.bool (false)) (mv (rfl : _ = Value.bool (false)) (gf 100 (rfl : _ = Value.bool (false)) rfl (gf 100 (rfl : _ = Value.bool (false)) rfl (gf 100 (rfl : _ = Value.bool (false)) rfl (pf (rfl : _ = Value.bool (false)) rfl (rfl : _ = Value.bool (false)) (asg (rfl : _ = Value.bool (false)) (nn (W_ret (block_r ?_))))))))))))); refine then_r ?_; obtain rfl := Option.some.inj hr; exact done1 (Or.inl rfl) Try.results72 rfl ⟨_, _, rfl, rfl, k4, Vbool⟩
         ·have hr := ite_f km hr; refine gf 86 (rfl : _ = Value.bool (decide (a0.Peer = (-1)))) km (gf 86 (rfl : _ = Value.bool (decide (a0.Peer = (-1)))) km (L_gu (e := 88) (by rfl) (rfl : _ = undef) (by decide) (L_gu (e := 88) (by rfl) (rfl : _ = undef) (by decide) (L_gu (e := 88) (by rfl) (rfl : _ = undef) (by decide) (gf 86 (rfl : _ = Value.bool (decide (a0.Peer = (-1)))) km (pf (rfl : _ = Value.bool (decide (a0.Peer = (-1)))) km (rfl : _ = Value.bool (false)) (mv (rfl : _ = Value.bool (false)) (gf 94 (rfl : _ = Value.bool (false)) rfl (gf 94 (rfl : _ = Value.bool (false)) rfl (gf 94 (rfl : _ = Value.bool (false)) rfl (gf 94 (rfl : _ = Value.bool (false)) rfl (pf (rfl : _ = Value.bool (false)) rfl (rfl : _ = Value.bool (false)) (mv (rfl : _ = Value.bool (false)) ?_))))))))))))); refine gf 100 (rfl : _ = Value.bool (false)) rfl (gf 100 (rfl : _ = Value.bool (false)) rfl (gf 100 (rfl : _ = Value.bool (false)) rfl (pf (rfl : _ = Value.bool (false)) rfl (rfl : _ = Value.bool (false)) (asg (rfl : _ = Value.bool (false)) (nn (W_ret (block_r (then_r ?_)))))))); obtain rfl := Option.some.inj hr; exact done1 (Or.inl rfl) Try.results72 rfl ⟨_, _, rfl, rfl, k4, Vbool⟩
       ·have hr := ite_f kg hr
        refine sr (L_eql (rfl : _ = Value.int .i64 (a0.Kind)) (rfl : _ = Value.int .i64 (5)) (by decide) (asg (rfl : _ = Value.bool (decide (a0.Kind = 5))) (nn ?_)))
        refine W_cond _ (rfl : _ = Value.bool (decide (a0.Kind = 5))) (fun kh => ?_) (fun kh => ?_)
        ·have hr := ite_t kh hr
         refine W_seq (sr (asg (rfl : _ = Value.int .i64 (0)) (nn ?_)))
         obtain ⟨ki, kj, kk⟩ := bind_some hr
         refine W_cut (fun f w => ∃ (s : St), s.w = w ∧ Ext s0 s ∧ Le k3 s ∧ Sum.inl () = ki ∧ f 3 = j2 ∧ f 7 = Value.int .i64 (j9)) ?_ ?_
         ·refine W_block (W_loop (fun m f w => ∃ (s : St) (kl : Int), s.w = w ∧ Ext s0 s ∧ Le k3 s ∧ ref08_formed_l2 N a0 a1 m kl = some ki ∧ f 12 = Value.int .i64 kl ∧ f 1 = w1 ∧ f 3 = j2 ∧ f 7 = Value.int .i64 (j9)) N ⟨k3, 0, rfl, k4, (Le.refl _), kj, rfl, k7, k8, k9⟩ ?_)
          rintro km kn ko ⟨kp, kl, rfl, kq, kr, hr, ks, kt, ku, kv⟩
          cases km with
          | zero => exact absurd hr (by simp [ref08_formed_l2])
          | succ km =>
           rw [ref08_formed_l2.eq_2] at hr
           refine W_seq (sr (mv ks (mv kt (L_len Try.underlying65 (rfl : _ = w1) (h1.mono (j3.le.trans (je.trans (jr.trans (k5.trans kr))))) (by decide) (L_lss (rfl : _ = Value.int .i64 (kl)) (rfl : _ = Value.int .i64 ((a1.length : Int))) (by decide) (nn ?_))))))
           refine W_cond _ (rfl : _ = Value.bool (decide (kl < (a1.length : Int)))) (fun kw => ?_) (fun kw => ?_)
           ·have hr := ite_t kw hr
            refine W_skip (then_n (W_seq (W_block ?_)))
            obtain ⟨kx, ky, kz⟩ := bind_some hr
            refine W_seq_cut (fun f w => ∃ (s : St) (g0 : Bool), s.w = w ∧ Ext s0 s ∧ Le kp s ∧ g0 = kx ∧ f 128 = Value.bool g0 ∧ f 1 = w1 ∧ f 3 = j2 ∧ f 7 = Value.int .i64 (j9) ∧ f 12 = Value.int .i64 (kl)) ?_ ?_
            ·have hr := ky
             obtain ⟨g1, g2, hr⟩ := bind_some hr
             rcases Bool.eq_false_or_eq_true (decide (g1.Kind = 5)) with g3 | g3
             ·have hr := ite_t g3 hr
              obtain ⟨g4, g5, hr⟩ := bind_some hr
              refine W_draws mixed (by kernel_rfl) [PV.data (a1 : List Deed), PV.eq (Value.int .i64 (kl)), PV.ptr (g1 : Deed), PV.ptr (g1.Kind : Int), PV.eq (Value.int .i64 (g1.Kind)), PV.eq (Value.bool (decide (g1.Kind = 5))), PV.eq (Value.bool (decide (g1.Kind = 5))), PV.data (a1 : List Deed), PV.eq (Value.int .i64 (kl)), PV.ptr (g4 : Deed), PV.ptr (g4.Req : Int), PV.eq (Value.int .i64 (g4.Req)), PV.ptr (a0.Req : Int), PV.eq (Value.int .i64 (a0.Req)), PV.eq (Value.bool (decide (g4.Req = a0.Req))), PV.eq (Value.bool (decide (g4.Req = a0.Req)))] (Steps_cons ?_ (Steps_cons ?_ (Steps_cons ?_ (Steps_cons ?_ (Steps_cons ?_ (Steps_cons ?_ (Steps_cons ?_ (Steps_cons ?_ (Steps_cons ?_ (Steps_cons ?_ (Steps_cons ?_ (Steps_cons ?_ (Steps_cons ?_ (Steps_cons ?_ (Steps_cons ?_ (Steps_cons ?_ Steps_nil)))))))))))))))) ?_
              ·intro g6 g7 g8 g9 ga Q gb; have gc : g6 1 = w1 := (ga 1 (by kernel_rfl)).trans kt; exact mv gc (fin gb (h1.mono (j3.le.trans (je.trans (jr.trans (k5.trans (kr.trans g8.le)))))))
              ·intro g6 g7 g8 g9 ga Q gb; have gc : g6 12 = Value.int .i64 (kl) := (ga 12 (by kernel_rfl)).trans ks; exact mv gc (fin gb rfl)
              ·intro g6 g7 g8 g9 ga Q gb; have gc : V _ (g6 113) (a1 : List Deed) := g9 0 113 (by kernel_rfl) (by kernel_rfl); obtain ⟨gd, gg, gh⟩ : ∃ v, _ = v ∧ V _ v _ := ⟨_, rfl, gc⟩; have gi : g6 114 = Value.int .i64 (kl) := g9 1 114 (by kernel_rfl) (by kernel_rfl); exact L_index Try.underlying65 ty74.inf gg gh gi g2 (by decide) (fun gj gk => fin gb gk)
              ·intro g6 g7 g8 g9 ga Q gb; have gc : Ptr _ (g6 115) (g1 : Deed) := g9 2 115 (by kernel_rfl) (by kernel_rfl); obtain ⟨gd, gg, gh⟩ : ∃ v, _ = v ∧ Ptr _ v _ := ⟨_, rfl, gc⟩; exact L_fieldAddr fld74_0 Deed.of_Kind gg gh (by decide) (fun gi gj => fin gb gj)
              ·intro g6 g7 g8 g9 ga Q gb; have gc : Ptr _ (g6 116) (g1.Kind : Int) := g9 3 116 (by kernel_rfl) (by kernel_rfl); obtain ⟨gd, gg, gh⟩ : ∃ v, _ = v ∧ Ptr _ v _ := ⟨_, rfl, gc⟩; exact li ty3 gg gh (fin gb rfl)
              ·intro g6 g7 g8 g9 ga Q gb; have gc : g6 117 = Value.int .i64 (g1.Kind) := g9 4 117 (by kernel_rfl) (by kernel_rfl); exact L_eql gc (rfl : _ = Value.int .i64 (5)) (by decide) (fin gb rfl)
              ·intro g6 g7 g8 g9 ga Q gb; have gc : g6 118 = Value.bool (decide (g1.Kind = 5)) := g9 5 118 (by kernel_rfl) (by kernel_rfl); exact mv gc (fin gb rfl)
              ·intro g6 g7 g8 g9 ga Q gb; have gc : g6 1 = w1 := (ga 1 (by kernel_rfl)).trans kt; have gd : g6 119 = Value.bool (decide (g1.Kind = 5)) := g9 6 119 (by kernel_rfl) (by kernel_rfl); exact gt 119 gd g3 (mv gc (fin gb (h1.mono (j3.le.trans (je.trans (jr.trans (k5.trans (kr.trans g8.le))))))))
              ·intro g6 g7 g8 g9 ga Q gb; have gc : g6 12 = Value.int .i64 (kl) := (ga 12 (by kernel_rfl)).trans ks; have gd : g6 119 = Value.bool (decide (g1.Kind = 5)) := g9 6 119 (by kernel_rfl) (by kernel_rfl); exact gt 119 gd g3 (mv gc (fin gb rfl))
              ·intro g6 g7 g8 g9 ga Q gb; have gc : g6 119 = Value.bool (decide (g1.Kind = 5)) := g9 6 119 (by kernel_rfl) (by kernel_rfl); have gd : V _ (g6 120) (a1 : List Deed) := g9 7 120 (by kernel_rfl) (by kernel_rfl); obtain ⟨gg, gh, gi⟩ : ∃ v, _ = v ∧ V _ v _ := ⟨_, rfl, gd⟩; have gj : g6 121 = Value.int .i64 (kl) := g9 8 121 (by kernel_rfl) (by kernel_rfl); exact gt 119 gc g3 (L_index Try.underlying65 ty74.inf gh gi gj g5 (by decide) (fun gk gl => fin gb gl))
              ·intro g6 g7 g8 g9 ga Q gb; have gc : g6 119 = Value.bool (decide (g1.Kind = 5)) := g9 6 119 (by kernel_rfl) (by kernel_rfl); have gd : Ptr _ (g6 122) (g4 : Deed) := g9 9 122 (by kernel_rfl) (by kernel_rfl); obtain ⟨gg, gh, gi⟩ : ∃ v, _ = v ∧ Ptr _ v _ := ⟨_, rfl, gd⟩; exact gt 119 gc g3 (L_fieldAddr fld74_3 Deed.of_Req gh gi (by decide) (fun gj gk => fin gb gk))
              ·intro g6 g7 g8 g9 ga Q gb; have gc : g6 119 = Value.bool (decide (g1.Kind = 5)) := g9 6 119 (by kernel_rfl) (by kernel_rfl); have gd : Ptr _ (g6 123) (g4.Req : Int) := g9 10 123 (by kernel_rfl) (by kernel_rfl); obtain ⟨gg, gh, gi⟩ : ∃ v, _ = v ∧ Ptr _ v _ := ⟨_, rfl, gd⟩; exact gt 119 gc g3 (li ty3 gh gi (fin gb rfl))
              ·intro g6 g7 g8 g9 ga Q gb; have gc : g6 3 = j2 := (ga 3 (by kernel_rfl)).trans ku; have gd : g6 119 = Value.bool (decide (g1.Kind = 5)) := g9 6 119 (by kernel_rfl) (by kernel_rfl); exact gt 119 gd g3 (L_fieldAddr fld74_3 Deed.of_Req gc (j4.mono (je.trans (jr.trans (k5.trans (kr.trans g8.le))))) (by decide) (fun gg gh => fin gb gh))
              ·intro g6 g7 g8 g9 ga Q gb; have gc : g6 119 = Value.bool (decide (g1.Kind = 5)) := g9 6 119 (by kernel_rfl) (by kernel_rfl); have gd : Ptr _ (g6 125) (a0.Req : Int) := g9 12 125 (by kernel_rfl) (by kernel_rfl); obtain ⟨gg, gh, gi⟩ : ∃ v, _ = v ∧ Ptr _ v _ := ⟨_, rfl, gd⟩; exact gt 119 gc g3 (li ty3 gh gi (fin gb rfl))
              ·intro g6 g7 g8 g9 ga Q gb; have gc : g6 119 = Value.bool (decide (g1.Kind = 5)) := g9 6 119 (by kernel_rfl) (by kernel_rfl); have gd : g6 124 = Value.int .i64 (g4.Req) := g9 11 124 (by kernel_rfl) (by kernel_rfl); have gg : g6 126 = Value.int .i64 (a0.Req) := g9 13 126 (by kernel_rfl) (by kernel_rfl); exact gt 119 gc g3 (L_eql gd gg (by decide) (fin gb rfl))
              ·intro g6 g7 g8 g9 ga Q gb; have gc : g6 119 = Value.bool (decide (g1.Kind = 5)) := g9 6 119 (by kernel_rfl) (by kernel_rfl); have gd : g6 127 = Value.bool (decide (g4.Req = a0.Req)) := g9 14 127 (by kernel_rfl) (by kernel_rfl); exact pt gc g3 gd (fin gb rfl)
              ·intro g6 g7 g8 g9 ga; have gb := Tch.ext kq g8; have gc : g6 1 = w1 := (ga 1 (by kernel_rfl)).trans kt; have gd : g6 3 = j2 := (ga 3 (by kernel_rfl)).trans ku; have gg : g6 7 = Value.int .i64 (j9) := (ga 7 (by kernel_rfl)).trans kv; have gh : g6 12 = Value.int .i64 (kl) := (ga 12 (by kernel_rfl)).trans ks; have gi : g6 128 = Value.bool (decide (g4.Req = a0.Req)) := g9 15 128 (by kernel_rfl); exact then_n ⟨g7, (decide (g4.Req = a0.Req)), rfl, gb, g8.le, Option.some.inj hr, gi, gc, gd, gg, gh⟩
             ·have hr := ite_f g3 hr
              refine W_draws mixed (by kernel_rfl) [PV.data (a1 : List Deed), PV.eq (Value.int .i64 (kl)), PV.ptr (g1 : Deed), PV.ptr (g1.Kind : Int), PV.eq (Value.int .i64 (g1.Kind)), PV.eq (Value.bool (decide (g1.Kind = 5))), PV.eq (Value.bool (decide (g1.Kind = 5))), PV.eq (undef), PV.eq (undef), PV.eq (undef), PV.eq (undef), PV.eq (undef), PV.eq (undef), PV.eq (undef), PV.eq (undef), PV.eq (Value.bool (false))] (Steps_cons ?_ (Steps_cons ?_ (Steps_cons ?_ (Steps_cons ?_ (Steps_cons ?_ (Steps_cons ?_ (Steps_cons ?_ (Steps_cons ?_ (Steps_cons ?_ (Steps_cons ?_ (Steps_cons ?_ (Steps_cons ?_ (Steps_cons ?_ (Steps_cons ?_ (Steps_cons ?_ (Steps_cons ?_ Steps_nil)))))))))))))))) ?_
              ·intro g4 g5 g6 g7 g8 Q g9; have ga : g4 1 = w1 := (g8 1 (by kernel_rfl)).trans kt; exact mv ga (fin g9 (h1.mono (j3.le.trans (je.trans (jr.trans (k5.trans (kr.trans g6.le)))))))
              ·intro g4 g5 g6 g7 g8 Q g9; have ga : g4 12 = Value.int .i64 (kl) := (g8 12 (by kernel_rfl)).trans ks; exact mv ga (fin g9 rfl)
              ·intro g4 g5 g6 g7 g8 Q g9; have ga : V _ (g4 113) (a1 : List Deed) := g7 0 113 (by kernel_rfl) (by kernel_rfl); obtain ⟨gb, gc, gd⟩ : ∃ v, _ = v ∧ V _ v _ := ⟨_, rfl, ga⟩; have gg : g4 114 = Value.int .i64 (kl) := g7 1 114 (by kernel_rfl) (by kernel_rfl); exact L_index Try.underlying65 ty74.inf gc gd gg g2 (by decide) (fun gh gi => fin g9 gi)
              ·intro g4 g5 g6 g7 g8 Q g9; have ga : Ptr _ (g4 115) (g1 : Deed) := g7 2 115 (by kernel_rfl) (by kernel_rfl); obtain ⟨gb, gc, gd⟩ : ∃ v, _ = v ∧ Ptr _ v _ := ⟨_, rfl, ga⟩; exact L_fieldAddr fld74_0 Deed.of_Kind gc gd (by decide) (fun gg gh => fin g9 gh)
              ·intro g4 g5 g6 g7 g8 Q g9; have ga : Ptr _ (g4 116) (g1.Kind : Int) := g7 3 116 (by kernel_rfl) (by kernel_rfl); obtain ⟨gb, gc, gd⟩ : ∃ v, _ = v ∧ Ptr _ v _ := ⟨_, rfl, ga⟩; exact li ty3 gc gd (fin g9 rfl)
              ·intro g4 g5 g6 g7 g8 Q g9; have ga : g4 117 = Value.int .i64 (g1.Kind) := g7 4 117 (by kernel_rfl) (by kernel_rfl); exact L_eql ga (rfl : _ = Value.int .i64 (5)) (by decide) (fin g9 rfl)
              ·intro g4 g5 g6 g7 g8 Q g9; have ga : g4 118 = Value.bool (decide (g1.Kind = 5)) := g7 5 118 (by kernel_rfl) (by kernel_rfl); exact mv ga (fin g9 rfl)
              ·intro g4 g5 g6 g7 g8 Q g9; have ga : g4 119 = Value.bool (decide (g1.Kind = 5)) := g7 6 119 (by kernel_rfl) (by kernel_rfl); exact gf 119 ga g3 (fin g9 rfl)
              ·intro g4 g5 g6 g7 g8 Q g9; have ga : g4 119 = Value.bool (decide (g1.Kind = 5)) := g7 6 119 (by kernel_rfl) (by kernel_rfl); exact gf 119 ga g3 (fin g9 rfl)
              ·intro g4 g5 g6 g7 g8 Q g9; have ga : g4 119 = Value.bool (decide (g1.Kind = 5)) := g7 6 119 (by kernel_rfl) (by kernel_rfl); exact gf 119 ga g3 (fin g9 rfl)
              ·intro g4 g5 g6 g7 g8 Q g9; have ga : g4 119 = Value.bool (decide (g1.Kind = 5)) := g7 6 119 (by kernel_rfl) (by kernel_rfl); exact gf 119 ga g3 (fin g9 rfl)
              ·intro g4 g5 g6 g7 g8 Q g9; have ga : g4 119 = Value.bool (decide (g1.Kind = 5)) := g7 6 119 (by kernel_rfl) (by kernel_rfl); exact gf 119 ga g3 (fin g9 rfl)
              ·intro g4 g5 g6 g7 g8 Q g9; have ga : g4 119 = Value.bool (decide (g1.Kind = 5)) := g7 6 119 (by kernel_rfl) (by kernel_rfl); exact gf 119 ga g3 (fin g9 rfl)
              ·intro g4 g5 g6 g7 g8 Q g9; have ga : g4 119 = Value.bool (decide (g1.Kind = 5)) := g7 6 119 (by kernel_rfl) (by kernel_rfl); exact gf 119 ga g3 (fin g9 rfl)
              ·intro g4 g5 g6 g7 g8 Q g9; have ga : g4 119 = Value.bool (decide (g1.Kind = 5)) := g7 6 119 (by kernel_rfl) (by kernel_rfl); exact gf 119 ga g3 (fin g9 rfl)
              ·intro g4 g5 g6 g7 g8 Q g9; have ga : g4 119 = Value.bool (decide (g1.Kind = 5)) := g7 6 119 (by kernel_rfl) (by kernel_rfl); exact pf ga g3 (rfl : _ = Value.bool (false)) (fin g9 rfl)
              ·intro g4 g5 g6 g7 g8; have g9 := Tch.ext kq g6; have ga : g4 1 = w1 := (g8 1 (by kernel_rfl)).trans kt; have gb : g4 3 = j2 := (g8 3 (by kernel_rfl)).trans ku; have gc : g4 7 = Value.int .i64 (j9) := (g8 7 (by kernel_rfl)).trans kv; have gd : g4 12 = Value.int .i64 (kl) := (g8 12 (by kernel_rfl)).trans ks; have gg : g4 128 = Value.bool (false) := g7 15 128 (by kernel_rfl); exact then_n ⟨g5, false, rfl, g9, g6.le, Option.some.inj hr, gg, ga, gb, gc, gd⟩
            ·rintro g1 g2 ⟨g3, g0, rfl, g4, g5, ky, g6, g7, g8, g9, ga⟩
             subst ky
             have hr := kz
             try dsimp only at hr
             refine W_cond _ g6 (fun gb => ?_) (fun gb => ?_)
             ·have hr := ite_t gb hr; refine sr (asg (rfl : _ = Value.bool (false)) (nn (W_ret (block_r (then_r (then_r (block_r ?_))))))); obtain rfl := Option.some.inj hr; have hr := kk; (try dsimp only at hr); refine then_r (then_r (block_r (then_r ?_))); obtain rfl := Option.some.inj hr; exact done1 (Or.inl rfl) Try.results72 rfl ⟨_, _, rfl, rfl, g4, Vbool⟩
             ·have hr := ite_f gb hr; refine W_skip (block_n (then_n (W_region (mv ga ?_)))); obtain ⟨gc, hr⟩ := chk_some hr; exact L_add (rfl : _ = Value.int .i64 (kl)) (rfl : _ = Value.int .i64 (1)) gc (by decide) (asg (rfl : _ = Value.int .i64 (kl + 1)) (nn ⟨km, Nat.lt_succ_self _, ⟨g3, (kl + 1), rfl, g4, (kr.trans g5), hr, rfl, g7, g8, g9⟩⟩))
           ·have hr := ite_f kw hr; refine W_exit (then_x (then_x (block_here ?_))); exact then_n ⟨kp, rfl, kq, kr, Option.some.inj hr, ku, kv⟩
         ·rintro kl km ⟨kn, rfl, ko, kp, kj, kq, kr⟩
          subst kj
          have hr := kk
          try dsimp only at hr
          refine then_n (sr (L_fieldAddr fld74_3 Deed.of_Req kq (j4.mono (je.trans (jr.trans (k5.trans kp)))) (by decide) (fun ks kt => li ty3 (rfl : _ = ks) kt (L_geq (rfl : _ = Value.int .i64 (a0.Req)) (rfl : _ = Value.int .i64 (0)) (by decide) (mv (rfl : _ = Value.bool (decide (0 ≤ a0.Req))) ?_)))))
          rcases Bool.eq_false_or_eq_true (decide (0 ≤ a0.Req)) with ku | ku
          ·have hr := ite_t ku hr
           refine gt 132 (rfl : _ = Value.bool (decide (0 ≤ a0.Req))) ku (L_fieldAddr fld74_3 Deed.of_Req kq (j4.mono (je.trans (jr.trans (k5.trans kp)))) (by decide) (fun kv kw => gt 132 (rfl : _ = Value.bool (decide (0 ≤ a0.Req))) ku (li ty3 (rfl : _ = kv) kw (gt 132 (rfl : _ = Value.bool (decide (0 ≤ a0.Req))) ku (mv kr (gt 132 (rfl : _ = Value.bool (decide (0 ≤ a0.Req))) ku (L_lss (rfl : _ = Value.int .i64 (a0.Req)) (rfl : _ = Value.int .i64 (j9)) (by decide) (pt (rfl : _ = Value.bool (decide (0 ≤ a0.Req))) ku (rfl : _ = Value.bool (decide (a0.Req < j9))) (mv (rfl : _ = Value.bool (decide (a0.Req < j9))) ?_)))))))))
           rcases Bool.eq_false_or_eq_true (decide (a0.Req < j9)) with kx | kx
           ·have hr := ite_t kx hr
            refine gt 138 (rfl : _ = Value.bool (decide (a0.Req < j9))) kx (L_fieldAddr fld74_1 Deed.of_Peer kq (j4.mono (je.trans (jr.trans (k5.trans kp)))) (by decide) (fun ky kz => gt 138 (rfl : _ = Value.bool (decide (a0.Req < j9))) kx (li ty3 (rfl : _ = ky) kz (gt 138 (rfl : _ = Value.bool (decide (a0.Req < j9))) kx (L_eql (rfl : _ = Value.int .i64 (a0.Peer)) (rfl : _ = Value.int .i64 (0)) (by decide) (pt (rfl : _ = Value.bool (decide (a0.Req < j9))) kx (rfl : _ = Value.bool (decide (a0.Peer = 0))) (mv (rfl : _ = Value.bool (decide (a0.Peer = 0))) ?_)))))))
            rcases Bool.eq_false_or_eq_true (decide (a0.Peer = 0)) with g0 | g0
            ·have hr := ite_t g0 hr
             refine gt 143 (rfl : _ = Value.bool (decide (a0.Peer = 0))) g0 (L_fieldAddr fld74_2 Deed.of_Tag kq (j4.mono (je.trans (jr.trans (k5.trans kp)))) (by decide) (fun g1 g2 => gt 143 (rfl : _ = Value.bool (decide (a0.Peer = 0))) g0 (li ty3 (rfl : _ = g1) g2 (gt 143 (rfl : _ = Value.bool (decide (a0.Peer = 0))) g0 (L_eql (rfl : _ = Value.int .i64 (a0.Tag)) (rfl : _ = Value.int .i64 (0)) (by decide) (pt (rfl : _ = Value.bool (decide (a0.Peer = 0))) g0 (rfl : _ = Value.bool (decide (a0.Tag = 0))) (mv (rfl : _ = Value.bool (decide (a0.Tag = 0))) ?_)))))))
             rcases Bool.eq_false_or_eq_true (decide (a0.Tag = 0)) with g3 | g3
             ·have hr := ite_t g3 hr; refine gt 148 (rfl : _ = Value.bool (decide (a0.Tag = 0))) g3 (L_fieldAddr fld74_4 Deed.of_Sync kq (j4.mono (je.trans (jr.trans (k5.trans kp)))) (by decide) (fun g4 g5 => gt 148 (rfl : _ = Value.bool (decide (a0.Tag = 0))) g3 (L_load_bool ty4 (rfl : _ = g4) g5 (by decide) (gt 148 (rfl : _ = Value.bool (decide (a0.Tag = 0))) g3 (L_not (rfl : _ = Value.bool (a0.Sync)) (by decide) (pt (rfl : _ = Value.bool (decide (a0.Tag = 0))) g3 (rfl : _ = Value.bool (!a0.Sync)) (asg (rfl : _ = Value.bool (!a0.Sync)) (nn (W_ret (block_r (then_r ?_))))))))))); obtain rfl := Option.some.inj hr; exact done1 (Or.inl rfl) Try.results72 rfl ⟨_, _, rfl, rfl, ko, Vbool⟩
             ·have hr := ite_f g3 hr; refine gf 148 (rfl : _ = Value.bool (decide (a0.Tag = 0))) g3 (gf 148 (rfl : _ = Value.bool (decide (a0.Tag = 0))) g3 (gf 148 (rfl : _ = Value.bool (decide (a0.Tag = 0))) g3 (pf (rfl : _ = Value.bool (decide (a0.Tag = 0))) g3 (rfl : _ = Value.bool (false)) (asg (rfl : _ = Value.bool (false)) (nn (W_ret (block_r (then_r ?_)))))))); obtain rfl := Option.some.inj hr; exact done1 (Or.inl rfl) Try.results72 rfl ⟨_, _, rfl, rfl, ko, Vbool⟩
            ·have hr := ite_f g0 hr; refine gf 143 (rfl : _ = Value.bool (decide (a0.Peer = 0))) g0 (gf 143 (rfl : _ = Value.bool (decide (a0.Peer = 0))) g0 (gf 143 (rfl : _ = Value.bool (decide (a0.Peer = 0))) g0 (pf (rfl : _ = Value.bool (decide (a0.Peer = 0))) g0 (rfl : _ = Value.bool (false)) (mv (rfl : _ = Value.bool (false)) (gf 148 (rfl : _ = Value.bool (false)) rfl (gf 148 (rfl : _ = Value.bool (false)) rfl (gf 148 (rfl : _ = Value.bool (false)) rfl (pf (rfl : _ = Value.bool (false)) rfl (rfl : _ = Value.bool (false)) (asg (rfl : _ = Value.bool (false)) (nn (W_ret (block_r (then_r ?_))))))))))))); obtain rfl := Option.some.inj hr; exact done1 (Or.inl rfl) Try.results72 rfl ⟨_, _, rfl, rfl, ko, Vbool⟩
           ·have hr := ite_f kx hr; refine gf 138 (rfl : _ = Value.bool (decide (a0.Req < j9))) kx (gf 138 (rfl : _ = Value.bool (decide (a0.Req < j9))) kx (gf 138 (rfl : _ = Value.bool (decide (a0.Req < j9))) kx (pf (rfl : _ = Value.bool (decide (a0.Req < j9))) kx (rfl : _ = Value.bool (false)) (mv (rfl : _ = Value.bool (false)) (gf 143 (rfl : _ = Value.bool (false)) rfl (gf 143 (rfl : _ = Value.bool (false)) rfl (gf 143 (rfl : _ = Value.bool (false)) rfl (pf (rfl : _ = Value.bool (false)) rfl (rfl : _ = Value.bool (false)) (mv (rfl : _ = Value.bool (false)) (gf 148 (rfl : _ = Value.bool (false)) rfl (gf 148 (rfl : _ = Value.bool (false)) rfl (gf 148 (rfl : _ = Value.bool (false)) rfl (pf (rfl : _ = Value.bool (false)) rfl (rfl : _ = Value.bool (false)) ?_))))))))))))); refine asg (rfl : _ = Value.bool (false)) (nn (W_ret (block_r (then_r ?_)))); obtain rfl := Option.some.inj hr; exact done1 (Or.inl rfl) Try.results72 rfl ⟨_, _, rfl, rfl, ko, Vbool⟩
          ·have hr := ite_f ku hr; refine gf 132 (rfl : _ = Value.bool (decide (0 ≤ a0.Req))) ku (gf 132 (rfl : _ = Value.bool (decide (0 ≤ a0.Req))) ku (gf 132 (rfl : _ = Value.bool (decide (0 ≤ a0.Req))) ku (gf 132 (rfl : _ = Value.bool (decide (0 ≤ a0.Req))) ku (pf (rfl : _ = Value.bool (decide (0 ≤ a0.Req))) ku (rfl : _ = Value.bool (false)) (mv (rfl : _ = Value.bool (false)) (gf 138 (rfl : _ = Value.bool (false)) rfl (gf 138 (rfl : _ = Value.bool (false)) rfl (gf 138 (rfl : _ = Value.bool (false)) rfl (pf (rfl : _ = Value.bool (false)) rfl (rfl : _ = Value.bool (false)) (mv (rfl : _ = Value.bool (false)) (gf 143 (rfl : _ = Value.bool (false)) rfl (gf 143 (rfl : _ = Value.bool (false)) rfl (gf 143 (rfl : _ = Value.bool (false)) rfl ?_))))))))))))); refine pf (rfl : _ = Value.bool (false)) rfl (rfl : _ = Value.bool (false)) (mv (rfl : _ = Value.bool (false)) (gf 148 (rfl : _ = Value.bool (false)) rfl (gf 148 (rfl : _ = Value.bool (false)) rfl (gf 148 (rfl : _ = Value.bool (false)) rfl (pf (rfl : _ = Value.bool (false)) rfl (rfl : _ = Value.bool (false)) (asg (rfl : _ = Value.bool (false)) (nn (W_ret (block_r (then_r ?_)))))))))); obtain rfl := Option.some.inj hr; exact done1 (Or.inl rfl) Try.results72 rfl ⟨_, _, rfl, rfl, ko, Vbool⟩
        ·have hr := ite_f kh hr
         refine sr (L_eql (rfl : _ = Value.int .i64 (a0.Kind)) (rfl : _ = Value.int .i64 (6)) (by decide) (asg (rfl : _ = Value.bool (decide (a0.Kind = 6))) (nn ?_)))
         refine W_cond _ (rfl : _ = Value.bool (decide (a0.Kind = 6))) (fun ki => ?_) (fun ki => ?_)
         ·have hr := ite_t ki hr
          refine sr (L_fieldAddr fld74_1 Deed.of_Peer k8 (j4.mono (je.trans (jr.trans k5))) (by decide) (fun kj kk => li ty3 (rfl : _ = kj) kk (L_eql (rfl : _ = Value.int .i64 (a0.Peer)) (rfl : _ = Value.int .i64 (0)) (by decide) (mv (rfl : _ = Value.bool (decide (a0.Peer = 0))) ?_))))
          rcases Bool.eq_false_or_eq_true (decide (a0.Peer = 0)) with kl | kl
          ·have hr := ite_t kl hr
           refine gt 158 (rfl : _ = Value.bool (decide (a0.Peer = 0))) kl (L_fieldAddr fld74_2 Deed.of_Tag k8 (j4.mono (je.trans (jr.trans k5))) (by decide) (fun km kn => gt 158 (rfl : _ = Value.bool (decide (a0.Peer = 0))) kl (li ty3 (rfl : _ = km) kn (gt 158 (rfl : _ = Value.bool (decide (a0.Peer = 0))) kl (L_eql (rfl : _ = Value.int .i64 (a0.Tag)) (rfl : _ = Value.int .i64 (0)) (by decide) (pt (rfl : _ = Value.bool (decide (a0.Peer = 0))) kl (rfl : _ = Value.bool (decide (a0.Tag = 0))) (mv (rfl : _ = Value.bool (decide (a0.Tag = 0))) ?_)))))))
           rcases Bool.eq_false_or_eq_true (decide (a0.Tag = 0)) with ko | ko
           ·have hr := ite_t ko hr
            refine gt 163 (rfl : _ = Value.bool (decide (a0.Tag = 0))) ko (L_fieldAddr fld74_3 Deed.of_Req k8 (j4.mono (je.trans (jr.trans k5))) (by decide) (fun kp kq => gt 163 (rfl : _ = Value.bool (decide (a0.Tag = 0))) ko (li ty3 (rfl : _ = kp) kq (gt 163 (rfl : _ = Value.bool (decide (a0.Tag = 0))) ko (L_eql (rfl : _ = Value.int .i64 (a0.Req)) (rfl : _ = Value.int .i64 (0)) (by decide) (pt (rfl : _ = Value.bool (decide (a0.Tag = 0))) ko (rfl : _ = Value.bool (decide (a0.Req = 0))) (mv (rfl : _ = Value.bool (decide (a0.Req = 0))) ?_)))))))
            rcases Bool.eq_false_or_eq_true (decide (a0.Req = 0)) with kr | kr
            ·have hr := ite_t kr hr; refine gt 168 (rfl : _ = Value.bool (decide (a0.Req = 0))) kr (L_fieldAddr fld74_4 Deed.of_Sync k8 (j4.mono (je.trans (jr.trans k5))) (by decide) (fun ks kt => gt 168 (rfl : _ = Value.bool (decide (a0.Req = 0))) kr (L_load_bool ty4 (rfl : _ = ks) kt (by decide) (gt 168 (rfl : _ = Value.bool (decide (a0.Req = 0))) kr (L_not (rfl : _ = Value.bool (a0.Sync)) (by decide) (pt (rfl : _ = Value.bool (decide (a0.Req = 0))) kr (rfl : _ = Value.bool (!a0.Sync)) (asg (rfl : _ = Value.bool (!a0.Sync)) (nn (W_ret (block_r (then_r ?_))))))))))); obtain rfl := Option.some.inj hr; exact done1 (Or.inl rfl) Try.results72 rfl ⟨_, _, rfl, rfl, k4, Vbool⟩
            ·have hr := ite_f kr hr; refine gf 168 (rfl : _ = Value.bool (decide (a0.Req = 0))) kr (gf 168 (rfl : _ = Value.bool (decide (a0.Req = 0))) kr (gf 168 (rfl : _ = Value.bool (decide (a0.Req = 0))) kr (pf (rfl : _ = Value.bool (decide (a0.Req = 0))) kr (rfl : _ = Value.bool (false)) (asg (rfl : _ = Value.bool (false)) (nn (W_ret (block_r (then_r ?_)))))))); obtain rfl := Option.some.inj hr; exact done1 (Or.inl rfl) Try.results72 rfl ⟨_, _, rfl, rfl, k4, Vbool⟩
           ·have hr := ite_f ko hr; refine gf 163 (rfl : _ = Value.bool (decide (a0.Tag = 0))) ko (gf 163 (rfl : _ = Value.bool (decide (a0.Tag = 0))) ko (gf 163 (rfl : _ = Value.bool (decide (a0.Tag = 0))) ko (pf (rfl : _ = Value.bool (decide (a0.Tag = 0))) ko (rfl : _ = Value.bool (false)) (mv (rfl : _ = Value.bool (false)) (gf 168 (rfl : _ = Value.bool (false)) rfl (gf 168 (rfl : _ = Value.bool (false)) rfl (gf 168 (rfl : _ = Value.bool (false)) rfl (pf (rfl : _ = Value.bool (false)) rfl (rfl : _ = Value.bool (false)) (asg (rfl : _ = Value.bool (false)) (nn (W_ret (block_r (then_r ?_))))))))))))); obtain rfl := Option.some.inj hr; exact done1 (Or.inl rfl) Try.results72 rfl ⟨_, _, rfl, rfl, k4, Vbool⟩
          ·have hr := ite_f kl hr; refine gf 158 (rfl : _ = Value.bool (decide (a0.Peer = 0))) kl (gf 158 (rfl : _ = Value.bool (decide (a0.Peer = 0))) kl (gf 158 (rfl : _ = Value.bool (decide (a0.Peer = 0))) kl (pf (rfl : _ = Value.bool (decide (a0.Peer = 0))) kl (rfl : _ = Value.bool (false)) (mv (rfl : _ = Value.bool (false)) (gf 163 (rfl : _ = Value.bool (false)) rfl (gf 163 (rfl : _ = Value.bool (false)) rfl (gf 163 (rfl : _ = Value.bool (false)) rfl (pf (rfl : _ = Value.bool (false)) rfl (rfl : _ = Value.bool (false)) (mv (rfl : _ = Value.bool (false)) (gf 168 (rfl : _ = Value.bool (false)) rfl (gf 168 (rfl : _ = Value.bool (false)) rfl (gf 168 (rfl : _ = Value.bool (false)) rfl (pf (rfl : _ = Value.bool (false)) rfl (rfl : _ = Value.bool (false)) ?_))))))))))))); refine asg (rfl : _ = Value.bool (false)) (nn (W_ret (block_r (then_r ?_)))); obtain rfl := Option.some.inj hr; exact done1 (Or.inl rfl) Try.results72 rfl ⟨_, _, rfl, rfl, k4, Vbool⟩
         ·have hr := ite_f ki hr; refine W_skip (block_n (then_n (sr (asg (rfl : _ = Value.bool (false)) (nn (W_ret ?_)))))); obtain rfl := Option.some.inj hr; exact done1 (Or.inl rfl) Try.results72 rfl ⟨_, _, rfl, rfl, k4, Vbool⟩

theorem ref08_Check_ok (N : Nat) (s0 : St) (w0 : Value) (a0 : List (List Deed)) (h0 : V s0 w0 a0) (r : Int) (hr : ref08_Check N a0 = some r) :
    Calls Try.prog 42 #[w0] s0.w (Ret s0 fun v s => V s v r) := by
 unfold ref08_Check at hr
 have j0 := Ext.refl s0
 refine Calls_of (n := 58) (args := [w0]) Try.func42 rfl rfl (by simp) (sr (asg (rfl : _ = Value.int .i64 (0)) (nn (W_seq ?_))))
 obtain ⟨j1, j2, j3⟩ := bind_some hr
 refine W_seq_cut (fun f w => ∃ (s : St) (j4 : Bool), s.w = w ∧ Ext s0 s ∧ Le s0 s ∧ j4 = j1 ∧ f 13 = Value.bool j4 ∧ f 0 = w0) ?_ ?_
 ·have hr := j2
  refine W_region (mv (rfl : _ = w0) (L_len Try.underlying22 (rfl : _ = w0) h0 (by decide) (L_lss (rfl : _ = Value.int .i64 ((a0.length : Int))) (rfl : _ = Value.int .i64 (1)) (by decide) (mv (rfl : _ = Value.bool (decide ((a0.length : Int) < 1))) ?_))))
  rcases Bool.eq_false_or_eq_true (decide ((a0.length : Int) < 1)) with j5 | j5
  ·have hr := ite_t j5 hr; exact gf 9 (rfl : _ = Value.bool (decide ((a0.length : Int) < 1))) j5 (gf 9 (rfl : _ = Value.bool (decide ((a0.length : Int) < 1))) j5 (gf 9 (rfl : _ = Value.bool (decide ((a0.length : Int) < 1))) j5 (pt (rfl : _ = Value.bool (decide ((a0.length : Int) < 1))) j5 (rfl : _ = Value.bool (true)) (nn ⟨s0, true, rfl, j0, (Le.refl _), Option.some.inj hr, rfl, rfl⟩))))
  ·have hr := ite_f j5 hr; exact gt 9 (rfl : _ = Value.bool (decide ((a0.length : Int) < 1))) j5 (mv (rfl : _ = w0) (gt 9 (rfl : _ = Value.bool (decide ((a0.length : Int) < 1))) j5 (L_len Try.underlying22 (rfl : _ = w0) h0 (by decide) (gt 9 (rfl : _ = Value.bool (decide ((a0.length : Int) < 1))) j5 (L_gtr (rfl : _ = Value.int .i64 ((a0.length : Int))) (rfl : _ = Value.int .i64 (64)) (by decide) (pf (rfl : _ = Value.bool (decide ((a0.length : Int) < 1))) j5 (rfl : _ = Value.bool (decide (64 < (a0.length : Int)))) (nn ⟨s0, (decide (64 < (a0.length : Int))), rfl, j0, (Le.refl _), Option.some.inj hr, rfl, rfl⟩)))))))
 ·rintro j5 j6 ⟨j7, j4, rfl, j8, j9, j2, ja, jb⟩
  subst j2
  have hr := j3
  try dsimp only at hr
  refine W_cond _ ja (fun jc => ?_) (fun jc => ?_)
  ·have hr := ite_t jc hr; refine sr (asg (rfl : _ = Value.int .i64 (3)) (nn (W_ret (then_r ?_)))); obtain rfl := Option.some.inj hr; exact done1 (Or.inl rfl) Try.results42 rfl ⟨_, _, rfl, rfl, j8, Vint⟩
  ·have hr := ite_f jc hr
   refine W_skip (then_n (W_seq (sr (asg (rfl : _ = Value.int .i64 (0)) (nn ?_)))))
   obtain ⟨jd, je, jf⟩ := bind_some hr
   refine W_cut (fun f w => ∃ (s : St), s.w = w ∧ Ext s0 s ∧ Le j7 s ∧ Sum.inl () = jd ∧ f 0 = w0) ?_ ?_
   ·refine W_block (W_loop (fun m f w => ∃ (s : St) (jg : Int), s.w = w ∧ Ext s0 s ∧ Le j7 s ∧ ref08_Check_l1 N a0 m jg = some jd ∧ f 3 = Value.int .i64 jg ∧ f 0 = w0) N ⟨j7, 0, rfl, j8, (Le.refl _), je, rfl, jb⟩ ?_)
    rintro jh ji jj ⟨jk, jg, rfl, jl, jm, hr, jn, jo⟩
    cases jh with
    | zero => exact absurd hr (by simp [ref08_Check_l1])
    | succ jh =>
     rw [ref08_Check_l1.eq_2] at hr
     refine W_seq (sr (mv jn (mv jo (L_len Try.underlying22 (rfl : _ = w0) (h0.mono (j9.trans jm)) (by decide) (L_lss (rfl : _ = Value.int .i64 (jg)) (rfl : _ = Value.int .i64 ((a0.length : Int))) (by decide) (nn ?_))))))
     refine W_cond _ (rfl : _ = Value.bool (decide (jg < (a0.length : Int)))) (fun jp => ?_) (fun jp => ?_)
     ·have hr := ite_t jp hr
      refine W_skip (then_n (W_seq (W_block (sr (mv jo (mv jn ?_))))))
      obtain ⟨jq, jr, hr⟩ := bind_some hr
      refine L_index Try.underlying22 ty65.inf (rfl : _ = w0) (h0.mono (j9.trans jm)) (rfl : _ = Value.int .i64 (jg)) jr (by decide) (fun js jt => L_load ty65 (rfl : _ = js) jt (by decide) (fun ju jv => L_len Try.underlying65 (rfl : _ = ju) jv (by decide) (L_gtr (rfl : _ = Value.int .i64 ((jq.length : Int))) (rfl : _ = Value.int .i64 (200)) (by decide) (nn ?_))))
      refine W_cond _ (rfl : _ = Value.bool (decide (200 < (jq.length : Int)))) (fun jw => ?_) (fun jw => ?_)
      ·have hr := ite_t jw hr; refine sr (asg (rfl : _ = Value.int .i64 (9)) (nn (W_ret (block_r (then_r (then_r (block_r ?_))))))); obtain rfl := Option.some.inj hr; have hr := jf; (try dsimp only at hr); refine then_r (then_r ?_); obtain rfl := Option.some.inj hr; exact done1 (Or.inl rfl) Try.results42 rfl ⟨_, _, rfl, rfl, jl, Vint⟩
      ·have hr := ite_f jw hr; refine W_skip (block_n (then_n (W_region (mv jn ?_)))); obtain ⟨jx, hr⟩ := chk_some hr; exact L_add (rfl : _ = Value.int .i64 (jg)) (rfl : _ = Value.int .i64 (1)) jx (by decide) (asg (rfl : _ = Value.int .i64 (jg + 1)) (nn ⟨jh, Nat.lt_succ_self _, ⟨jk, (jg + 1), rfl, jl, jm, hr, rfl, jo⟩⟩))
     ·have hr := ite_f jp hr; refine W_exit (then_x (then_x (block_here ?_))); exact then_n ⟨jk, rfl, jl, jm, Option.some.inj hr, jo⟩
   ·rintro jg jh ⟨ji, rfl, jj, jk, je, jl⟩
    subst je
    have hr := jf
    try dsimp only at hr
    refine then_n (W_seq (sr (asg (rfl : _ = Value.int .i64 (0)) (nn ?_))))
    obtain ⟨jm, jn, jo⟩ := bind_some hr
    refine W_cut (fun f w => ∃ (s : St), s.w = w ∧ Ext s0 s ∧ Le ji s ∧ Sum.inl () = jm) ?_ ?_
    ·refine W_block (W_loop (fun m f w => ∃ (s : St) (jp : Int), s.w = w ∧ Ext s0 s ∧ Le ji s ∧ ref08_Check_l2 N a0 m jp = some jm ∧ f 4 = Value.int .i64 jp ∧ f 0 = w0) N ⟨ji, 0, rfl, jj, (Le.refl _), jn, rfl, jl⟩ ?_)
     rintro jq jr js ⟨jt, jp, rfl, ju, jv, hr, jw, jx⟩
     cases jq with
     | zero => exact absurd hr (by simp [ref08_Check_l2])
     | succ jq =>
      rw [ref08_Check_l2.eq_2] at hr
      refine W_seq (sr (mv jw (mv jx (L_len Try.underlying22 (rfl : _ = w0) (h0.mono (j9.trans (jk.trans jv))) (by decide) (L_lss (rfl : _ = Value.int .i64 (jp)) (rfl : _ = Value.int .i64 ((a0.length : Int))) (by decide) (nn ?_))))))
      refine W_cond _ (rfl : _ = Value.bool (decide (jp < (a0.length : Int)))) (fun jy => ?_) (fun jy => ?_)
      ·have hr := ite_t jy hr
       refine W_skip (then_n (W_seq (W_block (sr (asg (rfl : _ = Value.int .i64 (0)) (nn ?_))))))
       obtain ⟨jz, k0, k1⟩ := bind_some hr
       refine W_cut (fun f w => ∃ (s : St), s.w = w ∧ Ext s0 s ∧ Le jt s ∧ Sum.inl () = jz ∧ f 0 = w0 ∧ f 4 = Value.int .i64 (jp)) ?_ ?_
       ·refine W_block (W_loop (fun m f w => ∃ (s : St) (k2 : Int), s.w = w ∧ Ext s0 s ∧ Le jt s ∧ ref08_Check_l3 N a0 jp m k2 = some jz ∧ f 5 = Value.int .i64 k2 ∧ f 0 = w0 ∧ f 4 = Value.int .i64 (jp)) N ⟨jt, 0, rfl, ju, (Le.refl _), k0, rfl, jx, jw⟩ ?_)
        rintro k3 k4 k5 ⟨k6, k2, rfl, k7, k8, hr, k9, ka, kb⟩
        cases k3 with
        | zero => exact absurd hr (by simp [ref08_Check_l3])
        | succ k3 =>
         rw [ref08_Check_l3.eq_2] at hr
         refine W_seq (sr (mv k9 (mv ka (mv kb ?_))))
         obtain ⟨kc, kd, hr⟩ := bind_some hr
         refine L_index Try.underlying22 ty65.inf (rfl : _ = w0) (h0.mono (j9.trans (jk.trans (jv.trans k8)))) (rfl : _ = Value.int .i64 (jp)) kd (by decide) (fun ke kf => L_load ty65 (rfl : _ = ke) kf (by decide) (fun kg kh => L_len Try.underlying65 (rfl : _ = kg) kh (by decide) (L_lss (rfl : _ = Value.int .i64 (k2)) (rfl : _ = Value.int .i64 ((kc.length : Int))) (by decide) (nn ?_))))
         refine W_cond _ (rfl : _ = Value.bool (decide (k2 < (kc.length : Int)))) (fun ki => ?_) (fun ki => ?_)
         ·have hr := ite_t ki hr
          refine W_skip (then_n (W_seq (W_block (W_seq ?_))))
          obtain ⟨kj, kk, hr⟩ := bind_some hr
          obtain ⟨kl, km, hr⟩ := bind_some hr
          obtain ⟨kn, ko, hr⟩ := bind_some hr
          obtain ⟨kp, kq, hr⟩ := bind_some hr
          obtain ⟨kr, ks, hr⟩ := bind_some hr
          refine W_draws mixed (by kernel_rfl) [PV.data (a0 : List (List Deed)), PV.eq (Value.int .i64 (jp)), PV.ptr (kj : List Deed), PV.data (kj : List Deed), PV.eq (Value.int .i64 (k2)), PV.ptr (kl : Deed), PV.data (kl : Deed), PV.data (a0 : List (List Deed)), PV.eq (Value.int .i64 (jp)), PV.ptr (kn : List Deed), PV.data (kn : List Deed), PV.eq (Value.int .i64 (k2)), PV.data (kp : List Deed), PV.data (a0 : List (List Deed)), PV.eq (Value.int .i64 ((a0.length : Int))), PV.eq (Value.bool (kr)), PV.eq (Value.bool (!kr))] (Steps_cons ?_ (Steps_cons ?_ (Steps_cons ?_ (Steps_cons ?_ (Steps_cons ?_ (Steps_cons ?_ (Steps_cons ?_ (Steps_cons ?_ (Steps_cons ?_ (Steps_cons ?_ (Steps_cons ?_ (Steps_cons ?_ (Steps_cons ?_ (Steps_cons ?_ (Steps_cons ?_ (Steps_cons ?_ (Steps_cons ?_ Steps_nil))))))))))))))))) ?_
          ·intro kt ku kv kw kx Q ky; have kz : kt 0 = w0 := (kx 0 (by kernel_rfl)).trans ka; exact mv kz (fin ky (h0.mono (j9.trans (jk.trans (jv.trans (k8.trans kv.le))))))
          ·intro kt ku kv kw kx Q ky; have kz : kt 4 = Value.int .i64 (jp) := (kx 4 (by kernel_rfl)).trans kb; exact mv kz (fin ky rfl)
          ·intro kt ku kv kw kx Q ky; have kz : V _ (kt 41) (a0 : List (List Deed)) := kw 0 41 (by kernel_rfl) (by kernel_rfl); obtain ⟨g0, g1, g2⟩ : ∃ v, _ = v ∧ V _ v _ := ⟨_, rfl, kz⟩; have g3 : kt 42 = Value.int .i64 (jp) := kw 1 42 (by kernel_rfl) (by kernel_rfl); exact L_index Try.underlying22 ty65.inf g1 g2 g3 kk (by decide) (fun g4 g5 => fin ky g5)
          ·intro kt ku kv kw kx Q ky; have kz : Ptr _ (kt 43) (kj : List Deed) := kw 2 43 (by kernel_rfl) (by kernel_rfl); obtain ⟨g0, g1, g2⟩ : ∃ v, _ = v ∧ Ptr _ v _ := ⟨_, rfl, kz⟩; exact L_load ty65 g1 g2 (by decide) (fun g3 g4 => fin ky g4)
          ·intro kt ku kv kw kx Q ky; have kz : kt 5 = Value.int .i64 (k2) := (kx 5 (by kernel_rfl)).trans k9; exact mv kz (fin ky rfl)
          ·intro kt ku kv kw kx Q ky; have kz : V _ (kt 44) (kj : List Deed) := kw 3 44 (by kernel_rfl) (by kernel_rfl); obtain ⟨g0, g1, g2⟩ : ∃ v, _ = v ∧ V _ v _ := ⟨_, rfl, kz⟩; have g3 : kt 45 = Value.int .i64 (k2) := kw 4 45 (by kernel_rfl) (by kernel_rfl); exact L_index Try.underlying65 ty74.inf g1 g2 g3 km (by decide) (fun g4 g5 => fin ky g5)
          ·intro kt ku kv kw kx Q ky; have kz : Ptr _ (kt 46) (kl : Deed) := kw 5 46 (by kernel_rfl) (by kernel_rfl); obtain ⟨g0, g1, g2⟩ : ∃ v, _ = v ∧ Ptr _ v _ := ⟨_, rfl, kz⟩; exact L_load ty74 g1 g2 (by decide) (fun g3 g4 => fin ky g4)
          ·intro kt ku kv kw kx Q ky; have kz : kt 0 = w0 := (kx 0 (by kernel_rfl)).trans ka; exact mv kz (fin ky (h0.mono (j9.trans (jk.trans (jv.trans (k8.trans kv.le))))))
          ·intro kt ku kv kw kx Q ky; have kz : kt 4 = Value.int .i64 (jp) := (kx 4 (by kernel_rfl)).trans kb; exact mv kz (fin ky rfl)
          ·intro kt ku kv kw kx Q ky; have kz : V _ (kt 48) (a0 : List (List Deed)) := kw 7 48 (by kernel_rfl) (by kernel_rfl); obtain ⟨g0, g1, g2⟩ : ∃ v, _ = v ∧ V _ v _ := ⟨_, rfl, kz⟩; have g3 : kt 49 = Value.int .i64 (jp) := kw 8 49 (by kernel_rfl) (by kernel_rfl); exact L_index Try.underlying22 ty65.inf g1 g2 g3 ko (by decide) (fun g4 g5 => fin ky g5)
          ·intro kt ku kv kw kx Q ky; have kz : Ptr _ (kt 50) (kn : List Deed) := kw 9 50 (by kernel_rfl) (by kernel_rfl); obtain ⟨g0, g1, g2⟩ : ∃ v, _ = v ∧ Ptr _ v _ := ⟨_, rfl, kz⟩; exact L_load ty65 g1 g2 (by decide) (fun g3 g4 => fin ky g4)
          ·intro kt ku kv kw kx Q ky; have kz : kt 5 = Value.int .i64 (k2) := (kx 5 (by kernel_rfl)).trans k9; exact mv kz (fin ky rfl)
          ·intro kt ku kv kw kx Q ky; have kz : V _ (kt 51) (kn : List Deed) := kw 10 51 (by kernel_rfl) (by kernel_rfl); obtain ⟨g0, g1, g2⟩ : ∃ v, _ = v ∧ V _ v _ := ⟨_, rfl, kz⟩; have g3 : kt 52 = Value.int .i64 (k2) := kw 11 52 (by kernel_rfl) (by kernel_rfl); exact L_slice_h Try.underlying65 ty74.inf g1 g2 g3 kq (by decide) (fun g4 g5 => fin ky g5)
          ·intro kt ku kv kw kx Q ky; have kz : kt 0 = w0 := (kx 0 (by kernel_rfl)).trans ka; exact mv kz (fin ky (h0.mono (j9.trans (jk.trans (jv.trans (k8.trans kv.le))))))
          ·intro kt ku kv kw kx Q ky; have kz : V _ (kt 54) (a0 : List (List Deed)) := kw 13 54 (by kernel_rfl) (by kernel_rfl); obtain ⟨g0, g1, g2⟩ : ∃ v, _ = v ∧ V _ v _ := ⟨_, rfl, kz⟩; exact L_len Try.underlying22 g1 g2 (by decide) (fin ky rfl)
          ·intro kt ku kv kw kx Q ky; have kz : V _ (kt 47) (kl : Deed) := kw 6 47 (by kernel_rfl) (by kernel_rfl); obtain ⟨g0, g1, g2⟩ : ∃ v, _ = v ∧ V _ v _ := ⟨_, rfl, kz⟩; have g3 : V _ (kt 53) (kp : List Deed) := kw 12 53 (by kernel_rfl) (by kernel_rfl); obtain ⟨g4, g5, g6⟩ : ∃ v, _ = v ∧ V _ v _ := ⟨_, rfl, g3⟩; have g7 : kt 55 = Value.int .i64 ((a0.length : Int)) := kw 14 55 (by kernel_rfl) (by kernel_rfl); refine L_calls cal72 (args3 g1 g5 g7) (ref08_formed_ok N _ _ _ g2 _ _ g6 (a0.length : Int) kr ks) (by decide) (fun g8 g9 ga gb => ?_); have gc := Tch.ext (Ext.refl ku) ga; obtain rfl := gb.bool; exact L_nil (ky _ _ gc rfl)
          ·intro kt ku kv kw kx Q ky; have kz : kt 56 = Value.bool (kr) := kw 15 56 (by kernel_rfl) (by kernel_rfl); exact L_not kz (by decide) (fin ky rfl)
          ·intro kt ku kv kw kx
           have ky := Tch.ext k7 kv
           have kz : kt 0 = w0 := (kx 0 (by kernel_rfl)).trans ka
           have g0 : kt 4 = Value.int .i64 (jp) := (kx 4 (by kernel_rfl)).trans kb
           have g1 : kt 5 = Value.int .i64 (k2) := (kx 5 (by kernel_rfl)).trans k9
           have g2 : kt 57 = Value.bool (!kr) := kw 16 57 (by kernel_rfl)
           refine then_n ?_
           refine W_cond _ g2 (fun g3 => ?_) (fun g3 => ?_)
           ·have hr := ite_t g3 hr; refine sr (asg (rfl : _ = Value.int .i64 (2)) (nn (W_ret (block_r (then_r (then_r (block_r ?_))))))); obtain rfl := Option.some.inj hr; have hr := k1; (try dsimp only at hr); refine then_r (block_r (then_r (then_r (block_r ?_)))); obtain rfl := Option.some.inj hr; have hr := jo; (try dsimp only at hr); refine then_r (then_r ?_); obtain rfl := Option.some.inj hr; exact done1 (Or.inl rfl) Try.results42 rfl ⟨_, _, rfl, rfl, ky, Vint⟩
           ·have hr := ite_f g3 hr; refine W_skip (block_n (then_n (W_region (mv g1 ?_)))); obtain ⟨g4, hr⟩ := chk_some hr; exact L_add (rfl : _ = Value.int .i64 (k2)) (rfl : _ = Value.int .i64 (1)) g4 (by decide) (asg (rfl : _ = Value.int .i64 (k2 + 1)) (nn ⟨k3, Nat.lt_succ_self _, ⟨ku, (k2 + 1), rfl, ky, (k8.trans kv.le), hr, rfl, kz, g0⟩⟩))
         ·have hr := ite_f ki hr; refine W_exit (then_x (then_x (block_here ?_))); exact then_n ⟨k6, rfl, k7, k8, Option.some.inj hr, ka, kb⟩
       ·rintro k2 k3 ⟨k4, rfl, k5, k6, k0, k7, k8⟩; subst k0; have hr := k1; (try dsimp only at hr); refine block_n (then_n (W_region (mv k8 ?_))); obtain ⟨k9, hr⟩ := chk_some hr; exact L_add (rfl : _ = Value.int .i64 (jp)) (rfl : _ = Value.int .i64 (1)) k9 (by decide) (asg (rfl : _ = Value.int .i64 (jp + 1)) (nn ⟨jq, Nat.lt_succ_self _, ⟨k4, (jp + 1), rfl, k5, (jv.trans k6), hr, rfl, k7⟩⟩))
      ·have hr := ite_f jy hr; refine W_exit (then_x (then_x (block_here ?_))); exact then_n ⟨jt, rfl, ju, jv, Option.some.inj hr⟩
    ·rintro jp jq ⟨jr, rfl, js, jt, jn⟩; subst jn; have hr := jo; (try dsimp only at hr); refine then_n (sr (asg (rfl : _ = Value.int .i64 (0)) (nn (W_ret ?_)))); obtain rfl := Option.some.inj hr; exact done1 (Or.inl rfl) Try.results42 rfl ⟨_, _, rfl, rfl, js, Vint⟩

theorem ref08_receives_ok (N : Nat) (s0 : St) (w0 : Value) (a0 : Deed) (h0 : V s0 w0 a0) (r : Bool) (hr : ref08_receives N a0 = some r) :
    Calls Try.prog 43 #[w0] s0.w (Ret s0 fun v s => V s v r) := by
 unfold ref08_receives at hr
 have j0 := Ext.refl s0
 refine Calls_of (n := 11) (args := [w0]) Try.func43 rfl rfl (by simp) (sr (L_box (rfl : _ = w0) h0 (by decide) (fun j1 j2 j3 j4 => ?_)))
 have j5 := Tch.ext j0 j3
 refine asg (rfl : _ = Value.bool (false)) (nn (sr (L_fieldAddr fld74_0 Deed.of_Kind (rfl : _ = j2) j4 (by decide) (fun j6 j7 => li ty3 (rfl : _ = j6) j7 (L_eql (rfl : _ = Value.int .i64 (a0.Kind)) (rfl : _ = Value.int .i64 (2)) (by decide) (mv (rfl : _ = Value.bool (decide (a0.Kind = 2))) ?_))))))
 rcases Bool.eq_false_or_eq_true (decide (a0.Kind = 2)) with j8 | j8
 ·have hr := ite_t j8 hr; refine gf 6 (rfl : _ = Value.bool (decide (a0.Kind = 2))) j8 (gf 6 (rfl : _ = Value.bool (decide (a0.Kind = 2))) j8 (gf 6 (rfl : _ = Value.bool (decide (a0.Kind = 2))) j8 (pt (rfl : _ = Value.bool (decide (a0.Kind = 2))) j8 (rfl : _ = Value.bool (true)) (asg (rfl : _ = Value.bool (true)) (nn (W_ret ?_)))))); obtain rfl := Option.some.inj hr; exact done1 (Or.inl rfl) Try.results43 rfl ⟨_, _, rfl, rfl, j5, Vbool⟩
 ·have hr := ite_f j8 hr; refine gt 6 (rfl : _ = Value.bool (decide (a0.Kind = 2))) j8 (L_fieldAddr fld74_0 Deed.of_Kind (rfl : _ = j2) j4 (by decide) (fun j9 ja => gt 6 (rfl : _ = Value.bool (decide (a0.Kind = 2))) j8 (li ty3 (rfl : _ = j9) ja (gt 6 (rfl : _ = Value.bool (decide (a0.Kind = 2))) j8 (L_eql (rfl : _ = Value.int .i64 (a0.Kind)) (rfl : _ = Value.int .i64 (4)) (by decide) (pf (rfl : _ = Value.bool (decide (a0.Kind = 2))) j8 (rfl : _ = Value.bool (decide (a0.Kind = 4))) (asg (rfl : _ = Value.bool (decide (a0.Kind = 4))) (nn (W_ret ?_))))))))); obtain rfl := Option.some.inj hr; exact done1 (Or.inl rfl) Try.results43 rfl ⟨_, _, rfl, rfl, j5, Vbool⟩

theorem ref08_open_ok (N : Nat) (s0 : St) (w0 : Value) (a0 : List (List Deed)) (h0 : V s0 w0 a0) (r : Bool) (hr : ref08_open N a0 = some r) :
    Calls Try.prog 65 #[w0] s0.w (Ret s0 fun v s => V s v r) := by
 unfold ref08_open at hr
 have j0 := Ext.refl s0
 refine Calls_of (n := 39) (args := [w0]) Try.func65 rfl rfl (by simp) (sr (asg (rfl : _ = Value.bool (false)) (nn (W_seq (sr (asg (rfl : _ = Value.int .i64 (0)) (nn ?_)))))))
 obtain ⟨j1, j2, j3⟩ := bind_some hr
 refine W_cut (fun f w => ∃ (s : St), s.w = w ∧ Ext s0 s ∧ Le s0 s ∧ Sum.inl () = j1) ?_ ?_
 ·refine W_block (W_loop (fun m f w => ∃ (s : St) (j4 : Int), s.w = w ∧ Ext s0 s ∧ Le s0 s ∧ ref08_open_l1 N a0 m j4 = some j1 ∧ f 3 = Value.int .i64 j4 ∧ f 0 = w0) N ⟨s0, 0, rfl, j0, (Le.refl _), j2, rfl, rfl⟩ ?_)
  rintro j5 j6 j7 ⟨j8, j4, rfl, j9, ja, hr, jb, jc⟩
  cases j5 with
  | zero => exact absurd hr (by simp [ref08_open_l1])
  | succ j5 =>
   rw [ref08_open_l1.eq_2] at hr
   refine W_seq (sr (mv jb (mv jc (L_len Try.underlying22 (rfl : _ = w0) (h0.mono ja) (by decide) (L_lss (rfl : _ = Value.int .i64 (j4)) (rfl : _ = Value.int .i64 ((a0.length : Int))) (by decide) (nn ?_))))))
   refine W_cond _ (rfl : _ = Value.bool (decide (j4 < (a0.length : Int)))) (fun jd => ?_) (fun jd => ?_)
   ·have hr := ite_t jd hr
    refine W_skip (then_n (W_seq (W_block (sr (asg (rfl : _ = Value.int .i64 (0)) (nn ?_))))))
    obtain ⟨je, jf, jg⟩ := bind_some hr
    refine W_cut (fun f w => ∃ (s : St), s.w = w ∧ Ext s0 s ∧ Le j8 s ∧ Sum.inl () = je ∧ f 0 = w0 ∧ f 3 = Value.int .i64 (j4)) ?_ ?_
    ·refine W_block (W_loop (fun m f w => ∃ (s : St) (jh : Int), s.w = w ∧ Ext s0 s ∧ Le j8 s ∧ ref08_open_l2 N a0 j4 m jh = some je ∧ f 4 = Value.int .i64 jh ∧ f 0 = w0 ∧ f 3 = Value.int .i64 (j4)) N ⟨j8, 0, rfl, j9, (Le.refl _), jf, rfl, jc, jb⟩ ?_)
     rintro ji jj jk ⟨jl, jh, rfl, jm, jn, hr, jo, jp, jq⟩
     cases ji with
     | zero => exact absurd hr (by simp [ref08_open_l2])
     | succ ji =>
      rw [ref08_open_l2.eq_2] at hr
      refine W_seq (sr (mv jo (mv jp (mv jq ?_))))
      obtain ⟨jr, js, hr⟩ := bind_some hr
      refine L_index Try.underlying22 ty65.inf (rfl : _ = w0) (h0.mono (ja.trans jn)) (rfl : _ = Value.int .i64 (j4)) js (by decide) (fun jt ju => L_load ty65 (rfl : _ = jt) ju (by decide) (fun jv jw => L_len Try.underlying65 (rfl : _ = jv) jw (by decide) (L_lss (rfl : _ = Value.int .i64 (jh)) (rfl : _ = Value.int .i64 ((jr.length : Int))) (by decide) (nn ?_))))
      refine W_cond _ (rfl : _ = Value.bool (decide (jh < (jr.length : Int)))) (fun jx => ?_) (fun jx => ?_)
      ·have hr := ite_t jx hr
       refine W_skip (then_n (W_seq (W_block ?_)))
       obtain ⟨jy, jz, k0⟩ := bind_some hr
       refine W_seq_cut (fun f w => ∃ (s : St) (k1 : Bool), s.w = w ∧ Ext s0 s ∧ Le jl s ∧ k1 = jy ∧ f 38 = Value.bool k1 ∧ f 0 = w0 ∧ f 3 = Value.int .i64 (j4) ∧ f 4 = Value.int .i64 (jh)) ?_ ?_
       ·have hr := jz
        refine W_region (mv jp (mv jq ?_))
        obtain ⟨k2, k3, hr⟩ := bind_some hr
        refine L_index Try.underlying22 ty65.inf (rfl : _ = w0) (h0.mono (ja.trans jn)) (rfl : _ = Value.int .i64 (j4)) k3 (by decide) (fun k4 k5 => L_load ty65 (rfl : _ = k4) k5 (by decide) (fun k6 k7 => mv jo ?_))
        obtain ⟨k8, k9, hr⟩ := bind_some hr
        refine L_index Try.underlying65 ty74.inf (rfl : _ = k6) k7 (rfl : _ = Value.int .i64 (jh)) k9 (by decide) (fun ka kb => L_load ty74 (rfl : _ = ka) kb (by decide) (fun kc kd => ?_))
        obtain ⟨ke, kf, hr⟩ := bind_some hr
        refine L_calls cal43 (args1 (rfl : _ = kc)) (ref08_receives_ok N _ _ _ kd ke kf) (by decide) (fun kg kh ki kj => ?_)
        have kk := Tch.ext jm ki
        obtain rfl := kj.bool
        refine mv (rfl : _ = Value.bool (ke)) ?_
        rcases Bool.eq_false_or_eq_true (ke) with kl | kl
        ·have hr := ite_t kl hr; refine gt 28 (rfl : _ = Value.bool (ke)) kl (mv jp (gt 28 (rfl : _ = Value.bool (ke)) kl (mv jq (gt 28 (rfl : _ = Value.bool (ke)) kl ?_)))); obtain ⟨km, kn, hr⟩ := bind_some hr; refine L_index Try.underlying22 ty65.inf (rfl : _ = w0) (h0.mono (ja.trans (jn.trans ki.le))) (rfl : _ = Value.int .i64 (j4)) kn (by decide) (fun ko kp => gt 28 (rfl : _ = Value.bool (ke)) kl (L_load ty65 (rfl : _ = ko) kp (by decide) (fun kq kr => gt 28 (rfl : _ = Value.bool (ke)) kl (mv jo (gt 28 (rfl : _ = Value.bool (ke)) kl ?_))))); obtain ⟨ks, kt, hr⟩ := bind_some hr; exact L_index Try.underlying65 ty74.inf (rfl : _ = kq) kr (rfl : _ = Value.int .i64 (jh)) kt (by decide) (fun ku kv => gt 28 (rfl : _ = Value.bool (ke)) kl (L_fieldAddr fld74_1 Deed.of_Peer (rfl : _ = ku) kv (by decide) (fun kw kx => gt 28 (rfl : _ = Value.bool (ke)) kl (li ty3 (rfl : _ = kw) kx (gt 28 (rfl : _ = Value.bool (ke)) kl (L_eql (rfl : _ = Value.int .i64 (ks.Peer)) (rfl : _ = Value.int .i64 (-1)) (by decide) (pt (rfl : _ = Value.bool (ke)) kl (rfl : _ = Value.bool (decide (ks.Peer = (-1)))) (nn ⟨kh, (decide (ks.Peer = (-1))), rfl, kk, ki.le, Option.some.inj hr, rfl, jp, jq, jo⟩))))))))
        ·have hr := ite_f kl hr; exact gf 28 (rfl : _ = Value.bool (ke)) kl (gf 28 (rfl : _ = Value.bool (ke)) kl (gf 28 (rfl : _ = Value.bool (ke)) kl (gf 28 (rfl : _ = Value.bool (ke)) kl (gf 28 (rfl : _ = Value.bool (ke)) kl (gf 28 (rfl : _ = Value.bool (ke)) kl (gf 28 (rfl : _ = Value.bool (ke)) kl (gf 28 (rfl : _ = Value.bool (ke)) kl (gf 28 (rfl : _ = Value.bool (ke)) kl (pf (rfl : _ = Value.bool (ke)) kl (rfl : _ = Value.bool (false)) (nn ⟨kh, false, rfl, kk, ki.le, Option.some.inj hr, rfl, jp, jq, jo⟩))))))))))
       ·rintro k2 k3 ⟨k4, k1, rfl, k5, k6, jz, k7, k8, k9, ka⟩
        subst jz
        have hr := k0
        try dsimp only at hr
        refine W_cond _ k7 (fun kb => ?_) (fun kb => ?_)
        ·have hr := ite_t kb hr; refine sr (asg (rfl : _ = Value.bool (true)) (nn (W_ret (block_r (then_r (then_r (block_r ?_))))))); obtain rfl := Option.some.inj hr; have hr := jg; (try dsimp only at hr); refine then_r (block_r (then_r (then_r (block_r ?_)))); obtain rfl := Option.some.inj hr; have hr := j3; (try dsimp only at hr); refine then_r (then_r ?_); obtain rfl := Option.some.inj hr; exact done1 (Or.inl rfl) Try.results65 rfl ⟨_, _, rfl, rfl, k5, Vbool⟩
        ·have hr := ite_f kb hr; refine W_skip (block_n (then_n (W_region (mv ka ?_)))); obtain ⟨kc, hr⟩ := chk_some hr; exact L_add (rfl : _ = Value.int .i64 (jh)) (rfl : _ = Value.int .i64 (1)) kc (by decide) (asg (rfl : _ = Value.int .i64 (jh + 1)) (nn ⟨ji, Nat.lt_succ_self _, ⟨k4, (jh + 1), rfl, k5, (jn.trans k6), hr, rfl, k8, k9⟩⟩))
      ·have hr := ite_f jx hr; refine W_exit (then_x (then_x (block_here ?_))); exact then_n ⟨jl, rfl, jm, jn, Option.some.inj hr, jp, jq⟩
    ·rintro jh ji ⟨jj, rfl, jk, jl, jf, jm, jn⟩; subst jf; have hr := jg; (try dsimp only at hr); refine block_n (then_n (W_region (mv jn ?_))); obtain ⟨jo, hr⟩ := chk_some hr; exact L_add (rfl : _ = Value.int .i64 (j4)) (rfl : _ = Value.int .i64 (1)) jo (by decide) (asg (rfl : _ = Value.int .i64 (j4 + 1)) (nn ⟨j5, Nat.lt_succ_self _, ⟨jj, (j4 + 1), rfl, jk, (ja.trans jl), hr, rfl, jm⟩⟩))
   ·have hr := ite_f jd hr; refine W_exit (then_x (then_x (block_here ?_))); exact then_n ⟨j8, rfl, j9, ja, Option.some.inj hr⟩
 ·rintro j4 j5 ⟨j6, rfl, j7, j8, j2⟩; subst j2; have hr := j3; (try dsimp only at hr); refine then_n (sr (asg (rfl : _ = Value.bool (false)) (nn (W_ret ?_)))); obtain rfl := Option.some.inj hr; exact done1 (Or.inl rfl) Try.results65 rfl ⟨_, _, rfl, rfl, j7, Vbool⟩

theorem ref08_started_ok (N : Nat) (s0 : St) (w0 : Value) (a0 : List (List Deed)) (h0 : V s0 w0 a0) (a1 : Int) (r : (Option Case) × Int) (hr : ref08_started N a0 a1 = some r) :
    Calls Try.prog 34 #[w0, .int .i64 a1] s0.w (Ret s0 fun v s => ∃ a b, v = .tuple #[a, b] ∧ ObjO Case.with_At 2 Case.At 3 s0.w.heap.size s a r.1 ∧ V s b r.2) := by
 unfold ref08_started at hr
 have j0 := Ext.refl s0
 refine Calls_of (n := 23) (args := [w0, .int .i64 a1]) Try.func34 rfl rfl (by simp) (sr (asg (rfl : _ = Value.pointer none) (asg (rfl : _ = Value.int .i64 (0)) (nn (sr (mv (rfl : _ = w0) ?_))))))
 obtain ⟨j1, j2, hr⟩ := bind_some hr
 refine L_calls cal42 (args1 (rfl : _ = w0)) (ref08_Check_ok N _ _ _ h0 j1 j2) (by decide) (fun j3 j4 j5 j6 => ?_)
 have j7 := Tch.ext j0 j5
 obtain rfl := j6.int
 refine asg (rfl : _ = Value.int .i64 (j1)) (nn (W_seq (sr (mv (rfl : _ = Value.int .i64 (j1)) (L_neq (rfl : _ = Value.int .i64 (j1)) (rfl : _ = Value.int .i64 (0)) (by decide) (nn ?_))))))
 refine W_cond _ (rfl : _ = Value.bool (!decide (j1 = 0))) (fun j8 => ?_) (fun j8 => ?_)
 ·have hr := ite_t j8 hr; refine sr (mv (rfl : _ = Value.int .i64 (j1)) (asg (rfl : _ = Value.pointer none) (asg (rfl : _ = Value.int .i64 (j1)) (nn (W_ret (then_r ?_)))))); obtain rfl := Option.some.inj hr; exact done2 (Or.inl rfl) Try.results34 rfl rfl ⟨_, _, rfl, rfl, j7, _, _, rfl, Or.inl ⟨rfl, rfl⟩, Vint⟩
 ·have hr := ite_f j8 hr
  refine W_skip (then_n (W_seq (sr (mv (rfl : _ = w0) ?_))))
  obtain ⟨j9, ja, hr⟩ := bind_some hr
  refine L_calls cal65 (args1 (rfl : _ = w0)) (ref08_open_ok N _ _ _ (h0.mono j5.le) j9 ja) (by decide) (fun jb jc jd je => ?_)
  have jf := Tch.ext j7 jd
  obtain rfl := je.bool
  refine nn ?_
  refine W_cond _ (rfl : _ = Value.bool (j9)) (fun jg => ?_) (fun jg => ?_)
  ·have hr := ite_t jg hr; refine sr (asg (rfl : _ = Value.pointer none) (asg (rfl : _ = Value.int .i64 (6)) (nn (W_ret (then_r ?_))))); obtain rfl := Option.some.inj hr; exact done2 (Or.inl rfl) Try.results34 rfl rfl ⟨_, _, rfl, rfl, jf, _, _, rfl, Or.inl ⟨rfl, rfl⟩, Vint⟩
  ·have hr := ite_f jg hr
   refine W_skip (then_n (W_seq (sr (mv (rfl : _ = Value.int .i64 (a1)) (L_lss (rfl : _ = Value.int .i64 (a1)) (rfl : _ = Value.int .i64 (0)) (by decide) (nn ?_))))))
   refine W_cond _ (rfl : _ = Value.bool (decide (a1 < 0))) (fun jh => ?_) (fun jh => ?_)
   ·have hr := ite_t jh hr; refine sr (asg (rfl : _ = Value.pointer none) (asg (rfl : _ = Value.int .i64 (3)) (nn (W_ret (then_r ?_))))); obtain rfl := Option.some.inj hr; exact done2 (Or.inl rfl) Try.results34 rfl rfl ⟨_, _, rfl, rfl, jf, _, _, rfl, Or.inl ⟨rfl, rfl⟩, Vint⟩
   ·have hr := ite_f jh hr; refine W_skip (then_n (sr (mv (rfl : _ = w0) (mv (rfl : _ = Value.int .i64 (a1)) (mv (rfl : _ = w0) (L_len Try.underlying22 (rfl : _ = w0) (h0.mono (j5.le.trans jd.le)) (by decide) ?_)))))); obtain ⟨ji, hr⟩ := chk_some hr; refine L_makeArr (x0 := (0 : Int)) Try.underlying23 tyz3 (rfl : _ = Value.int .i64 ((a0.length : Int))) ji.1 ji.2.1 ji.2.2 (fun _ => rfl) (by decide) (fun jj jk jl jm jn => ?_); have jo := Tch.ext jf jl; refine L_raw79 (rfl : _ = w0) (rfl : _ = Value.int .i64 (a1)) (rfl : _ = Value.slice (some ⟨jk, 0, none⟩) ((a0.length : Int)).toNat ((a0.length : Int)).toNat) ((h0.mono (j5.le.trans (jd.le.trans jl.le))) : V jj _ (a0 : List (List Deed))) (Vint : V jj _ (a1 : Int)) (by decide) (L_box_raw (cs := [w0, Value.int .i64 (a1), Value.slice (some ⟨jk, 0, none⟩) ((a0.length : Int)).toNat ((a0.length : Int)).toNat]) (rfl : _ = Value.agg #[w0, Value.int .i64 (a1), Value.slice (some ⟨jk, 0, none⟩) ((a0.length : Int)).toNat ((a0.length : Int)).toNat]) (by decide) (fun jp jq jr js => ?_)); have jt := Tch.ext jo jr; have ju := Case.shell (x := (⟨a0, a1, (List.replicate ((a0.length : Int)).toNat (0 : Int))⟩ : Case)) js (((h0.mono (j5.le.trans (jd.le.trans jl.le))) : V jj _ (a0 : List (List Deed))).mono jr.le) ((Vint : V jj _ (a1 : Int)).mono jr.le); refine asg (rfl : _ = (Value.pointer (some ⟨jq, 0, none⟩))) (asg (rfl : _ = Value.int .i64 (0)) (nn (W_ret ?_))); obtain rfl := Option.some.inj hr; exact done2 (Or.inl rfl) Try.results34 rfl rfl ⟨_, _, rfl, rfl, jt, _, _, rfl, Or.inr ⟨_, _, rfl, (Nat.le_trans jf.size jm), ju.at (fun _ => rfl) ((jn).ext jr), ((jn).ext jr).self⟩, Vint⟩

theorem ref08_sends_ok (N : Nat) (s0 : St) (w0 : Value) (a0 : Deed) (h0 : V s0 w0 a0) (r : Bool) (hr : ref08_sends N a0 = some r) :
    Calls Try.prog 44 #[w0] s0.w (Ret s0 fun v s => V s v r) := by
 unfold ref08_sends at hr
 have j0 := Ext.refl s0
 refine Calls_of (n := 11) (args := [w0]) Try.func44 rfl rfl (by simp) (sr (L_box (rfl : _ = w0) h0 (by decide) (fun j1 j2 j3 j4 => ?_)))
 have j5 := Tch.ext j0 j3
 refine asg (rfl : _ = Value.bool (false)) (nn (sr (L_fieldAddr fld74_0 Deed.of_Kind (rfl : _ = j2) j4 (by decide) (fun j6 j7 => li ty3 (rfl : _ = j6) j7 (L_eql (rfl : _ = Value.int .i64 (a0.Kind)) (rfl : _ = Value.int .i64 (1)) (by decide) (mv (rfl : _ = Value.bool (decide (a0.Kind = 1))) ?_))))))
 rcases Bool.eq_false_or_eq_true (decide (a0.Kind = 1)) with j8 | j8
 ·have hr := ite_t j8 hr; refine gf 6 (rfl : _ = Value.bool (decide (a0.Kind = 1))) j8 (gf 6 (rfl : _ = Value.bool (decide (a0.Kind = 1))) j8 (gf 6 (rfl : _ = Value.bool (decide (a0.Kind = 1))) j8 (pt (rfl : _ = Value.bool (decide (a0.Kind = 1))) j8 (rfl : _ = Value.bool (true)) (asg (rfl : _ = Value.bool (true)) (nn (W_ret ?_)))))); obtain rfl := Option.some.inj hr; exact done1 (Or.inl rfl) Try.results44 rfl ⟨_, _, rfl, rfl, j5, Vbool⟩
 ·have hr := ite_f j8 hr; refine gt 6 (rfl : _ = Value.bool (decide (a0.Kind = 1))) j8 (L_fieldAddr fld74_0 Deed.of_Kind (rfl : _ = j2) j4 (by decide) (fun j9 ja => gt 6 (rfl : _ = Value.bool (decide (a0.Kind = 1))) j8 (li ty3 (rfl : _ = j9) ja (gt 6 (rfl : _ = Value.bool (decide (a0.Kind = 1))) j8 (L_eql (rfl : _ = Value.int .i64 (a0.Kind)) (rfl : _ = Value.int .i64 (3)) (by decide) (pf (rfl : _ = Value.bool (decide (a0.Kind = 1))) j8 (rfl : _ = Value.bool (decide (a0.Kind = 3))) (asg (rfl : _ = Value.bool (decide (a0.Kind = 3))) (nn (W_ret ?_))))))))); obtain rfl := Option.some.inj hr; exact done1 (Or.inl rfl) Try.results44 rfl ⟨_, _, rfl, rfl, j5, Vbool⟩

theorem ref08_request_ok (N : Nat) (s0 : St) (w0 : Value) (a0 : List Deed) (h0 : V s0 w0 a0) (a1 : Int) (r : Int) (hr : ref08_request N a0 a1 = some r) :
    Calls Try.prog 66 #[w0, .int .i64 a1] s0.w (Ret s0 fun v s => V s v r) := by
 unfold ref08_request at hr
 have j0 := Ext.refl s0
 refine Calls_of (n := 22) (args := [w0, .int .i64 a1]) Try.func66 rfl rfl (by simp) (sr (asg (rfl : _ = Value.int .i64 (0)) (nn (W_seq (sr (asg (rfl : _ = Value.int .i64 (0)) (nn ?_)))))))
 obtain ⟨j1, j2, j3⟩ := bind_some hr
 refine W_cut (fun f w => ∃ (s : St), s.w = w ∧ Ext s0 s ∧ Le s0 s ∧ Sum.inl () = j1) ?_ ?_
 ·refine W_block (W_loop (fun m f w => ∃ (s : St) (j4 : Int) (j5 : Int), s.w = w ∧ Ext s0 s ∧ Le s0 s ∧ ref08_request_l1 N a0 m j4 j5 = some j1 ∧ f 1 = Value.int .i64 j4 ∧ f 5 = Value.int .i64 j5 ∧ f 0 = w0) N ⟨s0, a1, 0, rfl, j0, (Le.refl _), j2, rfl, rfl, rfl⟩ ?_)
  rintro j6 j7 j8 ⟨j9, j4, j5, rfl, ja, jb, hr, jc, jd, je⟩
  cases j6 with
  | zero => exact absurd hr (by simp [ref08_request_l1])
  | succ j6 =>
   rw [ref08_request_l1.eq_2] at hr
   refine W_seq (sr (mv jd (mv je (L_len Try.underlying65 (rfl : _ = w0) (h0.mono jb) (by decide) (L_lss (rfl : _ = Value.int .i64 (j5)) (rfl : _ = Value.int .i64 ((a0.length : Int))) (by decide) (nn ?_))))))
   refine W_cond _ (rfl : _ = Value.bool (decide (j5 < (a0.length : Int)))) (fun jf => ?_) (fun jf => ?_)
   ·have hr := ite_t jf hr
    refine W_skip (then_n (W_seq (W_block (sr (mv je (mv jd ?_))))))
    obtain ⟨jg, jh, hr⟩ := bind_some hr
    refine L_index Try.underlying65 ty74.inf (rfl : _ = w0) (h0.mono jb) (rfl : _ = Value.int .i64 (j5)) jh (by decide) (fun ji jj => L_load ty74 (rfl : _ = ji) jj (by decide) (fun jk jl => ?_))
    obtain ⟨jm, jn, hr⟩ := bind_some hr
    refine L_calls cal82 (args1 (rfl : _ = jk)) (ref08_named_ok N _ _ _ jl jm jn) (by decide) (fun jo jp jq jr => ?_)
    have js := Tch.ext ja jq
    obtain rfl := jr.bool
    refine nn ?_
    refine W_cond _ (rfl : _ = Value.bool (jm)) (fun jt => ?_) (fun jt => ?_)
    ·have hr := ite_t jt hr
     refine W_seq (sr (mv jc (L_eql (rfl : _ = Value.int .i64 (j4)) (rfl : _ = Value.int .i64 (0)) (by decide) (nn ?_))))
     refine W_cond _ (rfl : _ = Value.bool (decide (j4 = 0))) (fun ju => ?_) (fun ju => ?_)
     ·have hr := ite_t ju hr; refine sr (mv jd (asg (rfl : _ = Value.int .i64 (j5)) (nn (W_ret (then_r (block_r (then_r (then_r (block_r ?_))))))))); obtain rfl := Option.some.inj hr; have hr := j3; (try dsimp only at hr); refine then_r (then_r ?_); obtain rfl := Option.some.inj hr; exact done1 (Or.inl rfl) Try.results66 rfl ⟨_, _, rfl, rfl, js, Vint⟩
     ·have hr := ite_f ju hr; refine W_skip (then_n (W_region (mv jc ?_))); obtain ⟨jv, hr⟩ := chk_some hr; refine L_sub (rfl : _ = Value.int .i64 (j4)) (rfl : _ = Value.int .i64 (1)) jv (by decide) (asg (rfl : _ = Value.int .i64 (j4 - 1)) (L_nil (block_n (then_n (W_region (mv jd ?_)))))); obtain ⟨jw, hr⟩ := chk_some hr; exact L_add (rfl : _ = Value.int .i64 (j5)) (rfl : _ = Value.int .i64 (1)) jw (by decide) (asg (rfl : _ = Value.int .i64 (j5 + 1)) (nn ⟨j6, Nat.lt_succ_self _, ⟨jp, (j4 - 1), (j5 + 1), rfl, js, (jb.trans jq.le), hr, rfl, rfl, je⟩⟩))
    ·have hr := ite_f jt hr; refine W_skip (block_n (then_n (W_region (mv jd ?_)))); obtain ⟨ju, hr⟩ := chk_some hr; exact L_add (rfl : _ = Value.int .i64 (j5)) (rfl : _ = Value.int .i64 (1)) ju (by decide) (asg (rfl : _ = Value.int .i64 (j5 + 1)) (nn ⟨j6, Nat.lt_succ_self _, ⟨jp, j4, (j5 + 1), rfl, js, (jb.trans jq.le), hr, jc, rfl, je⟩⟩))
   ·have hr := ite_f jf hr; refine W_exit (then_x (then_x (block_here ?_))); exact then_n ⟨j9, rfl, ja, jb, Option.some.inj hr⟩
 ·rintro j4 j5 ⟨j6, rfl, j7, j8, j2⟩; subst j2; have hr := j3; (try dsimp only at hr); refine then_n (sr (asg (rfl : _ = Value.int .i64 (-1)) (nn (W_ret ?_)))); obtain rfl := Option.some.inj hr; exact done1 (Or.inl rfl) Try.results66 rfl ⟨_, _, rfl, rfl, j7, Vint⟩

theorem ref08_fits_ok (N : Nat) (s0 : St) (w0 : Value) (a0 : Deed) (h0 : V s0 w0 a0) (w1 : Value) (a1 : Deed) (h1 : V s0 w1 a1) (r : Bool) (hr : ref08_fits N a0 a1 = some r) :
    Calls Try.prog 45 #[w0, w1] s0.w (Ret s0 fun v s => V s v r) := by
 unfold ref08_fits at hr
 have j0 := Ext.refl s0
 refine Calls_of (n := 15) (args := [w0, w1]) Try.func45 rfl rfl (by simp) (sr (L_box (rfl : _ = w0) h0 (by decide) (fun j1 j2 j3 j4 => ?_)))
 have j5 := Tch.ext j0 j3
 refine L_box (rfl : _ = w1) (h1.mono j3.le) (by decide) (fun j6 j7 j8 j9 => ?_)
 have ja := Tch.ext j5 j8
 refine asg (rfl : _ = Value.bool (false)) (nn (sr (L_fieldAddr fld74_2 Deed.of_Tag (rfl : _ = j7) j9 (by decide) (fun jb jc => li ty3 (rfl : _ = jb) jc (L_eql (rfl : _ = Value.int .i64 (a1.Tag)) (rfl : _ = Value.int .i64 (-1)) (by decide) (mv (rfl : _ = Value.bool (decide (a1.Tag = (-1)))) ?_))))))
 rcases Bool.eq_false_or_eq_true (decide (a1.Tag = (-1))) with jd | jd
 ·have hr := ite_t jd hr; refine gf 8 (rfl : _ = Value.bool (decide (a1.Tag = (-1)))) jd (gf 8 (rfl : _ = Value.bool (decide (a1.Tag = (-1)))) jd (gf 8 (rfl : _ = Value.bool (decide (a1.Tag = (-1)))) jd (gf 8 (rfl : _ = Value.bool (decide (a1.Tag = (-1)))) jd (gf 8 (rfl : _ = Value.bool (decide (a1.Tag = (-1)))) jd (pt (rfl : _ = Value.bool (decide (a1.Tag = (-1)))) jd (rfl : _ = Value.bool (true)) (asg (rfl : _ = Value.bool (true)) (nn (W_ret ?_)))))))); obtain rfl := Option.some.inj hr; exact done1 (Or.inl rfl) Try.results45 rfl ⟨_, _, rfl, rfl, ja, Vbool⟩
 ·have hr := ite_f jd hr; refine gt 8 (rfl : _ = Value.bool (decide (a1.Tag = (-1)))) jd (L_fieldAddr fld74_2 Deed.of_Tag (rfl : _ = j7) j9 (by decide) (fun je jf => gt 8 (rfl : _ = Value.bool (decide (a1.Tag = (-1)))) jd (li ty3 (rfl : _ = je) jf (gt 8 (rfl : _ = Value.bool (decide (a1.Tag = (-1)))) jd (L_fieldAddr fld74_2 Deed.of_Tag (rfl : _ = j2) (j4.mono j8.le) (by decide) (fun jg jh => gt 8 (rfl : _ = Value.bool (decide (a1.Tag = (-1)))) jd (li ty3 (rfl : _ = jg) jh (gt 8 (rfl : _ = Value.bool (decide (a1.Tag = (-1)))) jd (L_eql (rfl : _ = Value.int .i64 (a1.Tag)) (rfl : _ = Value.int .i64 (a0.Tag)) (by decide) (pf (rfl : _ = Value.bool (decide (a1.Tag = (-1)))) jd (rfl : _ = Value.bool (decide (a1.Tag = a0.Tag))) (asg (rfl : _ = Value.bool (decide (a1.Tag = a0.Tag))) (nn (W_ret ?_))))))))))))); obtain rfl := Option.some.inj hr; exact done1 (Or.inl rfl) Try.results45 rfl ⟨_, _, rfl, rfl, ja, Vbool⟩

theorem ref02_Index_ok (N : Nat) (s0 : St) (w0 : Value) (a0 : List Int) (h0 : V s0 w0 a0) (a1 : Int) (r : Int) (hr : ref02_Index N a0 a1 = some r) :
    Calls Try.prog 46 #[w0, .int .i64 a1] s0.w (Ret s0 fun v s => V s v r) := by
 unfold ref02_Index at hr
 have j0 := Ext.refl s0
 refine Calls_of (n := 19) (args := [w0, .int .i64 a1]) Try.func46 rfl rfl (by simp) (sr (asg (rfl : _ = Value.int .i64 (0)) (nn (W_seq (sr (asg (rfl : _ = Value.int .i64 (0)) (nn ?_)))))))
 obtain ⟨j1, j2, j3⟩ := bind_some hr
 refine W_cut (fun f w => ∃ (s : St), s.w = w ∧ Ext s0 s ∧ Le s0 s ∧ Sum.inl () = j1) ?_ ?_
 ·refine W_block (W_loop (fun m f w => ∃ (s : St) (j4 : Int), s.w = w ∧ Ext s0 s ∧ Le s0 s ∧ ref02_Index_l1 N a0 a1 m j4 = some j1 ∧ f 5 = Value.int .i64 j4 ∧ f 0 = w0 ∧ f 1 = Value.int .i64 (a1)) N ⟨s0, 0, rfl, j0, (Le.refl _), j2, rfl, rfl, rfl⟩ ?_)
  rintro j5 j6 j7 ⟨j8, j4, rfl, j9, ja, hr, jb, jc, jd⟩
  cases j5 with
  | zero => exact absurd hr (by simp [ref02_Index_l1])
  | succ j5 =>
   rw [ref02_Index_l1.eq_2] at hr
   refine W_seq (sr (mv jb (mv jc (L_len Try.underlying23 (rfl : _ = w0) (h0.mono ja) (by decide) (L_lss (rfl : _ = Value.int .i64 (j4)) (rfl : _ = Value.int .i64 ((a0.length : Int))) (by decide) (nn ?_))))))
   refine W_cond _ (rfl : _ = Value.bool (decide (j4 < (a0.length : Int)))) (fun je => ?_) (fun je => ?_)
   ·have hr := ite_t je hr
    refine W_skip (then_n (W_seq (W_block (sr (mv jc (mv jb ?_))))))
    obtain ⟨jf, jg, hr⟩ := bind_some hr
    refine L_index Try.underlying23 ty3.inf (rfl : _ = w0) (h0.mono ja) (rfl : _ = Value.int .i64 (j4)) jg (by decide) (fun jh ji => li ty3 (rfl : _ = jh) ji (mv jd (L_eql (rfl : _ = Value.int .i64 (jf)) (rfl : _ = Value.int .i64 (a1)) (by decide) (nn ?_))))
    refine W_cond _ (rfl : _ = Value.bool (decide (jf = a1))) (fun jj => ?_) (fun jj => ?_)
    ·have hr := ite_t jj hr; refine sr (mv jb (asg (rfl : _ = Value.int .i64 (j4)) (nn (W_ret (block_r (then_r (then_r (block_r ?_)))))))); obtain rfl := Option.some.inj hr; have hr := j3; (try dsimp only at hr); refine then_r (then_r ?_); obtain rfl := Option.some.inj hr; exact done1 (Or.inl rfl) Try.results46 rfl ⟨_, _, rfl, rfl, j9, Vint⟩
    ·have hr := ite_f jj hr; refine W_skip (block_n (then_n (W_region (mv jb ?_)))); obtain ⟨jk, hr⟩ := chk_some hr; exact L_add (rfl : _ = Value.int .i64 (j4)) (rfl : _ = Value.int .i64 (1)) jk (by decide) (asg (rfl : _ = Value.int .i64 (j4 + 1)) (nn ⟨j5, Nat.lt_succ_self _, ⟨j8, (j4 + 1), rfl, j9, ja, hr, rfl, jc, jd⟩⟩))
   ·have hr := ite_f je hr; refine W_exit (then_x (then_x (block_here ?_))); exact then_n ⟨j8, rfl, j9, ja, Option.some.inj hr⟩
 ·rintro j4 j5 ⟨j6, rfl, j7, j8, j2⟩; subst j2; have hr := j3; (try dsimp only at hr); refine then_n (sr (asg (rfl : _ = Value.int .i64 (-1)) (nn (W_ret ?_)))); obtain rfl := Option.some.inj hr; exact done1 (Or.inl rfl) Try.results46 rfl ⟨_, _, rfl, rfl, j7, Vint⟩

theorem ref08_Case_begun_ok (N : Nat) (s0 : St) (w0 : Value) (a0 : Case) (h0 : Ptr s0 w0 a0) (a1 : Int) (r : (List Deed)) (hr : ref08_Case_begun N a0 a1 = some r) :
    Calls Try.prog 84 #[w0, .int .i64 a1] s0.w (Ret s0 fun v s => V s v r) := by
 unfold ref08_Case_begun at hr
 have j0 := Ext.refl s0
 refine Calls_of (n := 30) (args := [w0, .int .i64 a1]) Try.func84 rfl rfl (by simp) (sr (asg (rfl : _ = Value.slice none 0 0) (nn (W_seq ?_))))
 obtain ⟨j1, j2, hr⟩ := bind_some hr
 obtain ⟨j3, j4, hr⟩ := bind_some hr
 obtain ⟨j5, j6, hr⟩ := bind_some hr
 obtain ⟨j7, hr⟩ := chk_some hr
 obtain ⟨j8, j9, hr⟩ := bind_some hr
 refine W_draws mixed (by kernel_rfl) [PV.ptr (a0 : Case), PV.ptr (a0 : Case), PV.ptr (a0.C : List (List Deed)), PV.data (a0.C : List (List Deed)), PV.eq (Value.int .i64 (a1)), PV.ptr (j1 : List Deed), PV.data (j1 : List Deed), PV.ptr (a0 : Case), PV.ptr (a0 : Case), PV.ptr (a0.C : List (List Deed)), PV.data (a0.C : List (List Deed)), PV.eq (Value.int .i64 (a1)), PV.ptr (j3 : List Deed), PV.data (j3 : List Deed), PV.eq (Value.int .i64 ((j3.length : Int))), PV.ptr (a0 : Case), PV.ptr (a0 : Case), PV.ptr (a0.At : List Int), PV.data (a0.At : List Int), PV.eq (Value.int .i64 (a1)), PV.ptr (j5 : Int), PV.eq (Value.int .i64 (j5)), PV.eq (Value.int .i64 (j5 + 1)), PV.eq (Value.int .i64 (min (j3.length : Int) (j5 + 1))), PV.data (j8 : List Deed), PV.data (j8 : List Deed)] (Steps_cons ?_ (Steps_cons ?_ (Steps_cons ?_ (Steps_cons ?_ (Steps_cons ?_ (Steps_cons ?_ (Steps_cons ?_ (Steps_cons ?_ (Steps_cons ?_ (Steps_cons ?_ (Steps_cons ?_ (Steps_cons ?_ (Steps_cons ?_ (Steps_cons ?_ (Steps_cons ?_ (Steps_cons ?_ (Steps_cons ?_ (Steps_cons ?_ (Steps_cons ?_ (Steps_cons ?_ (Steps_cons ?_ (Steps_cons ?_ (Steps_cons ?_ (Steps_cons ?_ (Steps_cons ?_ (Steps_cons ?_ Steps_nil)))))))))))))))))))))))))) ?_
 ·intro ja jb jc jd je Q jf; have jg : ja 0 = w0 := (je 0 (by kernel_rfl)).trans rfl; exact mv jg (fin jf (h0.mono jc.le))
 ·intro ja jb jc jd je Q jf; have jg : Ptr _ (ja 5) (a0 : Case) := jd 0 5 (by kernel_rfl) (by kernel_rfl); obtain ⟨jh, ji, jj⟩ : ∃ v, _ = v ∧ Ptr _ v _ := ⟨_, rfl, jg⟩; exact L_nilCheck_ptr ji jj (by decide) (fin jf jj)
 ·intro ja jb jc jd je Q jf; have jg : Ptr _ (ja 6) (a0 : Case) := jd 1 6 (by kernel_rfl) (by kernel_rfl); obtain ⟨jh, ji, jj⟩ : ∃ v, _ = v ∧ Ptr _ v _ := ⟨_, rfl, jg⟩; exact L_fieldAddr fld79_0 Case.of_C ji jj (by decide) (fun jk jl => fin jf jl)
 ·intro ja jb jc jd je Q jf; have jg : Ptr _ (ja 7) (a0.C : List (List Deed)) := jd 2 7 (by kernel_rfl) (by kernel_rfl); obtain ⟨jh, ji, jj⟩ : ∃ v, _ = v ∧ Ptr _ v _ := ⟨_, rfl, jg⟩; exact L_load ty22 ji jj (by decide) (fun jk jl => fin jf jl)
 ·intro ja jb jc jd je Q jf; have jg : ja 1 = Value.int .i64 (a1) := (je 1 (by kernel_rfl)).trans rfl; exact mv jg (fin jf rfl)
 ·intro ja jb jc jd je Q jf; have jg : V _ (ja 8) (a0.C : List (List Deed)) := jd 3 8 (by kernel_rfl) (by kernel_rfl); obtain ⟨jh, ji, jj⟩ : ∃ v, _ = v ∧ V _ v _ := ⟨_, rfl, jg⟩; have jk : ja 9 = Value.int .i64 (a1) := jd 4 9 (by kernel_rfl) (by kernel_rfl); exact L_index Try.underlying22 ty65.inf ji jj jk j2 (by decide) (fun jl jm => fin jf jm)
 ·intro ja jb jc jd je Q jf; have jg : Ptr _ (ja 10) (j1 : List Deed) := jd 5 10 (by kernel_rfl) (by kernel_rfl); obtain ⟨jh, ji, jj⟩ : ∃ v, _ = v ∧ Ptr _ v _ := ⟨_, rfl, jg⟩; exact L_load ty65 ji jj (by decide) (fun jk jl => fin jf jl)
 ·intro ja jb jc jd je Q jf; have jg : ja 0 = w0 := (je 0 (by kernel_rfl)).trans rfl; exact mv jg (fin jf (h0.mono jc.le))
 ·intro ja jb jc jd je Q jf; have jg : Ptr _ (ja 12) (a0 : Case) := jd 7 12 (by kernel_rfl) (by kernel_rfl); obtain ⟨jh, ji, jj⟩ : ∃ v, _ = v ∧ Ptr _ v _ := ⟨_, rfl, jg⟩; exact L_nilCheck_ptr ji jj (by decide) (fin jf jj)
 ·intro ja jb jc jd je Q jf; have jg : Ptr _ (ja 13) (a0 : Case) := jd 8 13 (by kernel_rfl) (by kernel_rfl); obtain ⟨jh, ji, jj⟩ : ∃ v, _ = v ∧ Ptr _ v _ := ⟨_, rfl, jg⟩; exact L_fieldAddr fld79_0 Case.of_C ji jj (by decide) (fun jk jl => fin jf jl)
 ·intro ja jb jc jd je Q jf; have jg : Ptr _ (ja 14) (a0.C : List (List Deed)) := jd 9 14 (by kernel_rfl) (by kernel_rfl); obtain ⟨jh, ji, jj⟩ : ∃ v, _ = v ∧ Ptr _ v _ := ⟨_, rfl, jg⟩; exact L_load ty22 ji jj (by decide) (fun jk jl => fin jf jl)
 ·intro ja jb jc jd je Q jf; have jg : ja 1 = Value.int .i64 (a1) := (je 1 (by kernel_rfl)).trans rfl; exact mv jg (fin jf rfl)
 ·intro ja jb jc jd je Q jf; have jg : V _ (ja 15) (a0.C : List (List Deed)) := jd 10 15 (by kernel_rfl) (by kernel_rfl); obtain ⟨jh, ji, jj⟩ : ∃ v, _ = v ∧ V _ v _ := ⟨_, rfl, jg⟩; have jk : ja 16 = Value.int .i64 (a1) := jd 11 16 (by kernel_rfl) (by kernel_rfl); exact L_index Try.underlying22 ty65.inf ji jj jk j4 (by decide) (fun jl jm => fin jf jm)
 ·intro ja jb jc jd je Q jf; have jg : Ptr _ (ja 17) (j3 : List Deed) := jd 12 17 (by kernel_rfl) (by kernel_rfl); obtain ⟨jh, ji, jj⟩ : ∃ v, _ = v ∧ Ptr _ v _ := ⟨_, rfl, jg⟩; exact L_load ty65 ji jj (by decide) (fun jk jl => fin jf jl)
 ·intro ja jb jc jd je Q jf; have jg : V _ (ja 18) (j3 : List Deed) := jd 13 18 (by kernel_rfl) (by kernel_rfl); obtain ⟨jh, ji, jj⟩ : ∃ v, _ = v ∧ V _ v _ := ⟨_, rfl, jg⟩; exact L_len Try.underlying65 ji jj (by decide) (fin jf rfl)
 ·intro ja jb jc jd je Q jf; have jg : ja 0 = w0 := (je 0 (by kernel_rfl)).trans rfl; exact mv jg (fin jf (h0.mono jc.le))
 ·intro ja jb jc jd je Q jf; have jg : Ptr _ (ja 20) (a0 : Case) := jd 15 20 (by kernel_rfl) (by kernel_rfl); obtain ⟨jh, ji, jj⟩ : ∃ v, _ = v ∧ Ptr _ v _ := ⟨_, rfl, jg⟩; exact L_nilCheck_ptr ji jj (by decide) (fin jf jj)
 ·intro ja jb jc jd je Q jf; have jg : Ptr _ (ja 21) (a0 : Case) := jd 16 21 (by kernel_rfl) (by kernel_rfl); obtain ⟨jh, ji, jj⟩ : ∃ v, _ = v ∧ Ptr _ v _ := ⟨_, rfl, jg⟩; exact L_fieldAddr fld79_2 Case.of_At ji jj (by decide) (fun jk jl => fin jf jl)
 ·intro ja jb jc jd je Q jf; have jg : Ptr _ (ja 22) (a0.At : List Int) := jd 17 22 (by kernel_rfl) (by kernel_rfl); obtain ⟨jh, ji, jj⟩ : ∃ v, _ = v ∧ Ptr _ v _ := ⟨_, rfl, jg⟩; exact L_load ty23 ji jj (by decide) (fun jk jl => fin jf jl)
 ·intro ja jb jc jd je Q jf; have jg : ja 1 = Value.int .i64 (a1) := (je 1 (by kernel_rfl)).trans rfl; exact mv jg (fin jf rfl)
 ·intro ja jb jc jd je Q jf; have jg : V _ (ja 23) (a0.At : List Int) := jd 18 23 (by kernel_rfl) (by kernel_rfl); obtain ⟨jh, ji, jj⟩ : ∃ v, _ = v ∧ V _ v _ := ⟨_, rfl, jg⟩; have jk : ja 24 = Value.int .i64 (a1) := jd 19 24 (by kernel_rfl) (by kernel_rfl); exact L_index Try.underlying23 ty3.inf ji jj jk j6 (by decide) (fun jl jm => fin jf jm)
 ·intro ja jb jc jd je Q jf; have jg : Ptr _ (ja 25) (j5 : Int) := jd 20 25 (by kernel_rfl) (by kernel_rfl); obtain ⟨jh, ji, jj⟩ : ∃ v, _ = v ∧ Ptr _ v _ := ⟨_, rfl, jg⟩; exact li ty3 ji jj (fin jf rfl)
 ·intro ja jb jc jd je Q jf; have jg : ja 26 = Value.int .i64 (j5) := jd 21 26 (by kernel_rfl) (by kernel_rfl); exact L_add jg (rfl : _ = Value.int .i64 (1)) j7 (by decide) (fin jf rfl)
 ·intro ja jb jc jd je Q jf; have jg : ja 19 = Value.int .i64 ((j3.length : Int)) := jd 14 19 (by kernel_rfl) (by kernel_rfl); have jh : ja 27 = Value.int .i64 (j5 + 1) := jd 22 27 (by kernel_rfl) (by kernel_rfl); exact L_min jg jh (by decide) (fin jf rfl)
 ·intro ja jb jc jd je Q jf; have jg : V _ (ja 11) (j1 : List Deed) := jd 6 11 (by kernel_rfl) (by kernel_rfl); obtain ⟨jh, ji, jj⟩ : ∃ v, _ = v ∧ V _ v _ := ⟨_, rfl, jg⟩; have jk : ja 28 = Value.int .i64 (min (j3.length : Int) (j5 + 1)) := jd 23 28 (by kernel_rfl) (by kernel_rfl); exact L_slice_h Try.underlying65 ty74.inf ji jj jk j9 (by decide) (fun jl jm => fin jf jm)
 ·intro ja jb jc jd je Q jf; have jg : V _ (ja 29) (j8 : List Deed) := jd 24 29 (by kernel_rfl) (by kernel_rfl); obtain ⟨jh, ji, jj⟩ : ∃ v, _ = v ∧ V _ v _ := ⟨_, rfl, jg⟩; exact asg ji (fin jf jj)
 ·intro ja jb jc jd je; have jf := Tch.ext j0 jc; have jg : V _ (ja 4) (j8 : List Deed) := jd 25 4 (by kernel_rfl); obtain ⟨jh, ji, jj⟩ : ∃ v, _ = v ∧ V _ v _ := ⟨_, rfl, jg⟩; refine then_n (W_ret ?_); obtain rfl := Option.some.inj hr; exact done1 (Or.inl rfl) Try.results84 ji ⟨_, _, rfl, rfl, jf, jj⟩

set_option maxHeartbeats 1140000 in
theorem ref08_Case_partners_ok (N : Nat) (s0 : St) (w0 : Value) (a0 : Case) (h0 : Ptr s0 w0 a0) (a1 : Int) (a2 : Int) (r : (List Int)) (hr : ref08_Case_partners N a0 a1 a2 = some r) :
    Calls Try.prog 83 #[w0, .int .i64 a1, .int .i64 a2] s0.w (Ret s0 fun v s => V s v r) := by
 unfold ref08_Case_partners at hr
 have j0 := Ext.refl s0
 refine Calls_of (n := 96) (args := [w0, .int .i64 a1, .int .i64 a2]) Try.func83 rfl rfl (by simp) (sr (asg (rfl : _ = Value.slice none 0 0) (nn (sr (mv (rfl : _ = w0) (mv (rfl : _ = Value.int .i64 (a1)) ?_))))))
 obtain ⟨j1, j2, hr⟩ := bind_some hr
 refine L_calls cal84 (args2 (rfl : _ = w0) (rfl : _ = Value.int .i64 (a1))) (ref08_Case_begun_ok N _ _ _ h0 a1 j1 j2) (by decide) (fun j3 j4 j5 j6 => ?_)
 have j7 := Tch.ext j0 j5
 refine mv (rfl : _ = w0) (mv (rfl : _ = Value.int .i64 (a2)) ?_)
 obtain ⟨j8, j9, hr⟩ := bind_some hr
 refine L_calls cal84 (args2 (rfl : _ = w0) (rfl : _ = Value.int .i64 (a2))) (ref08_Case_begun_ok N _ _ _ (h0.mono j5.le) a2 j8 j9) (by decide) (fun ja jb jc jd => ?_)
 have je := Tch.ext j7 jc
 refine asg (rfl : _ = j3) (asg (rfl : _ = ja) (nn (sr (mv (rfl : _ = j3) (L_len Try.underlying65 (rfl : _ = j3) (j6.mono jc.le) (by decide) ?_)))))
 obtain ⟨jf, hr⟩ := chk_some hr
 refine L_makeArr (x0 := (0 : Int)) Try.underlying23 tyz3 (rfl : _ = Value.int .i64 ((j1.length : Int))) jf.1 jf.2.1 jf.2.2 (fun _ => rfl) (by decide) (fun jg jh ji jj jk => ?_)
 have jl := Tch.ext je ji
 refine asg (rfl : _ = Value.slice (some ⟨jh, 0, none⟩) ((j1.length : Int)).toNat ((j1.length : Int)).toNat) (nn (W_seq (sr (asg (rfl : _ = Value.int .i64 (0)) (nn ?_)))))
 obtain ⟨jm, jn, jo⟩ := bind_some hr
 refine W_cut (fun f w => ∃ (s : St) (jp : List Int), s.w = w ∧ Ext s0 s ∧ Le jg s ∧ jp = jm ∧ f 9 = Value.slice (some ⟨jh, 0, none⟩) ((j1.length : Int)).toNat ((j1.length : Int)).toNat ∧ Arr s jh 3 ((j1.length : Int)).toNat jp) ?_ ?_
 ·refine W_block (W_loop (fun m f w => ∃ (s : St) (jq : Int) (jr : List Int), s.w = w ∧ Ext s0 s ∧ Le jg s ∧ ref08_Case_partners_l1 N a1 a2 j1 j8 m jq jr = some jm ∧ f 10 = Value.int .i64 jq ∧ f 1 = Value.int .i64 (a1) ∧ f 2 = Value.int .i64 (a2) ∧ f 7 = j3 ∧ f 8 = ja ∧ f 9 = Value.slice (some ⟨jh, 0, none⟩) ((j1.length : Int)).toNat ((j1.length : Int)).toNat ∧ Arr s jh 3 ((j1.length : Int)).toNat jr) N ⟨jg, 0, (List.replicate ((j1.length : Int)).toNat (0 : Int)), rfl, jl, (Le.refl _), jn, rfl, rfl, rfl, rfl, rfl, rfl, jk⟩ ?_)
  rintro js jt ju ⟨jv, jq, jr, rfl, jw, jx, hr, jy, jz, k0, k1, k2, k3, k4⟩
  cases js with
  | zero => exact absurd hr (by simp [ref08_Case_partners_l1])
  | succ js =>
   rw [ref08_Case_partners_l1.eq_2] at hr
   refine W_seq (sr (mv jy (mv k1 (L_len Try.underlying65 (rfl : _ = j3) (j6.mono (jc.le.trans (ji.le.trans jx))) (by decide) (L_lss (rfl : _ = Value.int .i64 (jq)) (rfl : _ = Value.int .i64 ((j1.length : Int))) (by decide) (nn ?_))))))
   refine W_cond _ (rfl : _ = Value.bool (decide (jq < (j1.length : Int)))) (fun k5 => ?_) (fun k5 => ?_)
   ·have hr := ite_t k5 hr
    refine W_skip (then_n (W_seq (W_block (sr (mv k3 (mv jy ?_))))))
    obtain ⟨k6, k7, hr⟩ := bind_some hr
    refine L_indexA (sz := 1) Try.underlying23 ty3.inf (rfl : _ = Value.slice (some ⟨jh, 0, none⟩) ((j1.length : Int)).toNat ((j1.length : Int)).toNat) (rfl : _ = Value.int .i64 (jq)) (idx_some k7).1 (by have := (idx_some k7).2.1; have := (k4).1; omega) (by decide) (L_storeA (xs := jr) ty3 (rfl : _ = Value.pointer (some ⟨jh, (jq).toNat * 1, none⟩)) (rfl : _ = Value.int .i64 (-1)) Vint (k4) k7 (fun k8 k9 ka => ?_))
    have kb := Tch.trans jw k9 (fun k hk => Or.inr (by subst hk; exact (Nat.le_trans je.size jj)))
    refine nn (W_seq ?_)
    obtain ⟨kc, kd, ke⟩ := bind_some hr
    refine W_seq_cut (fun f w => ∃ (s : St) (kf : Bool), s.w = w ∧ Ext s0 s ∧ Le k8 s ∧ kf = kc ∧ f 44 = Value.bool kf ∧ f 1 = Value.int .i64 (a1) ∧ f 2 = Value.int .i64 (a2) ∧ f 7 = j3 ∧ f 8 = ja ∧ f 9 = Value.slice (some ⟨jh, 0, none⟩) ((j1.length : Int)).toNat ((j1.length : Int)).toNat ∧ f 10 = Value.int .i64 (jq) ∧ Arr s jh 3 ((j1.length : Int)).toNat (jr.set (jq).toNat (-1))) ?_ ?_
    ·have hr := kd
     refine W_region (mv k1 (mv jy ?_))
     obtain ⟨kg, kh, hr⟩ := bind_some hr
     refine L_index Try.underlying65 ty74.inf (rfl : _ = j3) (j6.mono (jc.le.trans (ji.le.trans (jx.trans k9.le)))) (rfl : _ = Value.int .i64 (jq)) kh (by decide) (fun ki kj => L_load ty74 (rfl : _ = ki) kj (by decide) (fun kk kl => ?_))
     obtain ⟨km, kn, hr⟩ := bind_some hr
     refine L_calls cal44 (args1 (rfl : _ = kk)) (ref08_sends_ok N _ _ _ kl km kn) (by decide) (fun ko kp kq kr => ?_)
     have ks := Tch.ext kb kq
     obtain rfl := kr.bool
     refine L_not (rfl : _ = Value.bool (km)) (by decide) (mv (rfl : _ = Value.bool (!km)) ?_)
     rcases Bool.eq_false_or_eq_true (!km) with kt | kt
     ·have hr := ite_t kt hr; exact gf 36 (rfl : _ = Value.bool (!km)) kt (gf 36 (rfl : _ = Value.bool (!km)) kt (gf 36 (rfl : _ = Value.bool (!km)) kt (gf 36 (rfl : _ = Value.bool (!km)) kt (gf 36 (rfl : _ = Value.bool (!km)) kt (gf 36 (rfl : _ = Value.bool (!km)) kt (gf 36 (rfl : _ = Value.bool (!km)) kt (pt (rfl : _ = Value.bool (!km)) kt (rfl : _ = Value.bool (true)) (nn ⟨kp, true, rfl, ks, kq.le, Option.some.inj hr, rfl, jz, k0, k1, k2, k3, jy, (ka).ext kq⟩))))))))
     ·have hr := ite_f kt hr; refine gt 36 (rfl : _ = Value.bool (!km)) kt (mv k1 (gt 36 (rfl : _ = Value.bool (!km)) kt (mv jy (gt 36 (rfl : _ = Value.bool (!km)) kt ?_)))); obtain ⟨ku, kv, hr⟩ := bind_some hr; exact L_index Try.underlying65 ty74.inf (rfl : _ = j3) (j6.mono (jc.le.trans (ji.le.trans (jx.trans (k9.le.trans kq.le))))) (rfl : _ = Value.int .i64 (jq)) kv (by decide) (fun kw kx => gt 36 (rfl : _ = Value.bool (!km)) kt (L_fieldAddr fld74_1 Deed.of_Peer (rfl : _ = kw) kx (by decide) (fun ky kz => gt 36 (rfl : _ = Value.bool (!km)) kt (li ty3 (rfl : _ = ky) kz (gt 36 (rfl : _ = Value.bool (!km)) kt (mv k0 (gt 36 (rfl : _ = Value.bool (!km)) kt (L_neq (rfl : _ = Value.int .i64 (ku.Peer)) (rfl : _ = Value.int .i64 (a2)) (by decide) (pf (rfl : _ = Value.bool (!km)) kt (rfl : _ = Value.bool (!decide (ku.Peer = a2))) (nn ⟨kp, (!decide (ku.Peer = a2)), rfl, ks, kq.le, Option.some.inj hr, rfl, jz, k0, k1, k2, k3, jy, (ka).ext kq⟩))))))))))
    ·rintro kg kh ⟨ki, kf, rfl, kj, kk, kd, kl, km, kn, ko, kp, kq, kr, ks⟩
     subst kd
     have hr := ke
     try dsimp only at hr
     refine W_cond _ kl (fun kt => ?_) (fun kt => ?_)
     ·have hr := ite_t kt hr; refine W_exit (then_x (block_here (then_n (W_region (mv kr ?_))))); obtain ⟨ku, hr⟩ := chk_some hr; exact L_add (rfl : _ = Value.int .i64 (jq)) (rfl : _ = Value.int .i64 (1)) ku (by decide) (asg (rfl : _ = Value.int .i64 (jq + 1)) (nn ⟨js, Nat.lt_succ_self _, ⟨ki, (jq + 1), (jr.set (jq).toNat (-1)), rfl, kj, (jx.trans (k9.le.trans kk)), hr, rfl, km, kn, ko, kp, kq, ks⟩⟩))
     ·have hr := ite_f kt hr
      refine W_skip (then_n (sr (asg (rfl : _ = Value.int .i64 (0)) (nn ?_))))
      obtain ⟨ku, kv, kw⟩ := bind_some hr
      refine W_cut (fun f w => ∃ (s : St) (kx : List Int), s.w = w ∧ Ext s0 s ∧ Le ki s ∧ kx = ku ∧ f 1 = Value.int .i64 (a1) ∧ f 2 = Value.int .i64 (a2) ∧ f 7 = j3 ∧ f 8 = ja ∧ f 9 = Value.slice (some ⟨jh, 0, none⟩) ((j1.length : Int)).toNat ((j1.length : Int)).toNat ∧ f 10 = Value.int .i64 (jq) ∧ Arr s jh 3 ((j1.length : Int)).toNat kx) ?_ ?_
      ·refine W_block (W_loop (fun m f w => ∃ (s : St) (ky : Int) (kz : List Int), s.w = w ∧ Ext s0 s ∧ Le ki s ∧ ref08_Case_partners_l2 N a1 j1 j8 jq m ky kz = some ku ∧ f 11 = Value.int .i64 ky ∧ f 1 = Value.int .i64 (a1) ∧ f 2 = Value.int .i64 (a2) ∧ f 7 = j3 ∧ f 8 = ja ∧ f 9 = Value.slice (some ⟨jh, 0, none⟩) ((j1.length : Int)).toNat ((j1.length : Int)).toNat ∧ f 10 = Value.int .i64 (jq) ∧ Arr s jh 3 ((j1.length : Int)).toNat kz) N ⟨ki, 0, (jr.set (jq).toNat (-1)), rfl, kj, (Le.refl _), kv, rfl, km, kn, ko, kp, kq, kr, ks⟩ ?_)
       rintro g0 g1 g2 ⟨g3, ky, kz, rfl, g4, g5, hr, g6, g7, g8, g9, ga, gb, gc, gd⟩
       cases g0 with
       | zero => exact absurd hr (by simp [ref08_Case_partners_l2])
       | succ g0 =>
        rw [ref08_Case_partners_l2.eq_2] at hr
        refine W_seq ?_
        obtain ⟨gg, gh, gi⟩ := bind_some hr
        refine W_seq_cut (fun f w => ∃ (s : St) (gj : Bool), s.w = w ∧ Ext s0 s ∧ Le g3 s ∧ gj = gg ∧ f 55 = Value.bool gj ∧ f 1 = Value.int .i64 (a1) ∧ f 2 = Value.int .i64 (a2) ∧ f 7 = j3 ∧ f 8 = ja ∧ f 9 = Value.slice (some ⟨jh, 0, none⟩) ((j1.length : Int)).toNat ((j1.length : Int)).toNat ∧ f 10 = Value.int .i64 (jq) ∧ f 11 = Value.int .i64 (ky) ∧ Arr s jh 3 ((j1.length : Int)).toNat kz) ?_ ?_
        ·have hr := gh
         refine W_region (mv g6 (mv ga (L_len Try.underlying65 (rfl : _ = ja) (jd.mono (ji.le.trans (jx.trans (k9.le.trans (kk.trans g5))))) (by decide) (L_lss (rfl : _ = Value.int .i64 (ky)) (rfl : _ = Value.int .i64 ((j8.length : Int))) (by decide) (mv (rfl : _ = Value.bool (decide (ky < (j8.length : Int)))) ?_)))))
         rcases Bool.eq_false_or_eq_true (decide (ky < (j8.length : Int))) with gk | gk
         ·have hr := ite_t gk hr; refine gt 49 (rfl : _ = Value.bool (decide (ky < (j8.length : Int)))) gk (mv gb (gt 49 (rfl : _ = Value.bool (decide (ky < (j8.length : Int)))) gk (mv gc (gt 49 (rfl : _ = Value.bool (decide (ky < (j8.length : Int)))) gk ?_)))); obtain ⟨gl, gm, hr⟩ := bind_some hr; refine L_indexA (sz := 1) Try.underlying23 ty3.inf (rfl : _ = Value.slice (some ⟨jh, 0, none⟩) ((j1.length : Int)).toNat ((j1.length : Int)).toNat) (rfl : _ = Value.int .i64 (jq)) (idx_some gm).1 (by have := (idx_some gm).2.1; have := (gd).1; omega) (by decide) (gt 49 (rfl : _ = Value.bool (decide (ky < (j8.length : Int)))) gk (L_loadA (xs := kz) ty3 (rfl : _ = Value.pointer (some ⟨jh, (jq).toNat * 1, none⟩)) (gd) gm (by decide) (fun gn go => ?_))); obtain rfl := go.int; exact gt 49 (rfl : _ = Value.bool (decide (ky < (j8.length : Int)))) gk (L_lss (rfl : _ = Value.int .i64 (gl)) (rfl : _ = Value.int .i64 (0)) (by decide) (pt (rfl : _ = Value.bool (decide (ky < (j8.length : Int)))) gk (rfl : _ = Value.bool (decide (gl < 0))) (nn ⟨g3, (decide (gl < 0)), rfl, g4, (Le.refl _), Option.some.inj hr, rfl, g7, g8, g9, ga, gb, gc, g6, gd⟩)))
         ·have hr := ite_f gk hr; exact gf 49 (rfl : _ = Value.bool (decide (ky < (j8.length : Int)))) gk (gf 49 (rfl : _ = Value.bool (decide (ky < (j8.length : Int)))) gk (gf 49 (rfl : _ = Value.bool (decide (ky < (j8.length : Int)))) gk (gf 49 (rfl : _ = Value.bool (decide (ky < (j8.length : Int)))) gk (gf 49 (rfl : _ = Value.bool (decide (ky < (j8.length : Int)))) gk (pf (rfl : _ = Value.bool (decide (ky < (j8.length : Int)))) gk (rfl : _ = Value.bool (false)) (nn ⟨g3, false, rfl, g4, (Le.refl _), Option.some.inj hr, rfl, g7, g8, g9, ga, gb, gc, g6, gd⟩))))))
        ·rintro gk gl ⟨gm, gj, rfl, gn, go, gh, gp, gq, gr, gs, gu, gv, gw, gx, gy⟩
         subst gh
         have hr := gi
         try dsimp only at hr
         refine W_cond _ gp (fun gz => ?_) (fun gz => ?_)
         ·have hr := ite_t gz hr
          refine W_skip (then_n (W_seq (W_block ?_)))
          obtain ⟨u0, u1, u2⟩ := bind_some hr
          refine W_seq_cut (fun f w => ∃ (s : St) (u3 : Bool), s.w = w ∧ Ext s0 s ∧ Le gm s ∧ u3 = u0 ∧ f 90 = Value.bool u3 ∧ f 1 = Value.int .i64 (a1) ∧ f 2 = Value.int .i64 (a2) ∧ f 7 = j3 ∧ f 8 = ja ∧ f 9 = Value.slice (some ⟨jh, 0, none⟩) ((j1.length : Int)).toNat ((j1.length : Int)).toNat ∧ f 10 = Value.int .i64 (jq) ∧ f 11 = Value.int .i64 (ky) ∧ Arr s jh 3 ((j1.length : Int)).toNat kz) ?_ ?_
          ·have hr := u1
           obtain ⟨u4, u5, hr⟩ := bind_some hr
           obtain ⟨u6, u7, hr⟩ := bind_some hr
           rcases Bool.eq_false_or_eq_true (u6) with u9 | u9
           ·have hr := ite_t u9 hr
            obtain ⟨ua, ub, hr⟩ := bind_some hr
            rcases Bool.eq_false_or_eq_true (decide (ua.Peer = a1)) with uc | uc
            ·have hr := ite_t uc hr
             obtain ⟨ud, ue, hr⟩ := bind_some hr
             obtain ⟨uf, ug, hr⟩ := bind_some hr
             obtain ⟨uh, ui, hr⟩ := bind_some hr
             rcases Bool.eq_false_or_eq_true (uh) with uj | uj
             ·have hr := ite_t uj hr
              obtain ⟨uk, ul, hr⟩ := bind_some hr
              obtain ⟨um, un, hr⟩ := bind_some hr
              refine W_draws mixed (by kernel_rfl) [PV.data (j8 : List Deed), PV.eq (Value.int .i64 (ky)), PV.ptr (u4 : Deed), PV.data (u4 : Deed), PV.eq (Value.bool (u6)), PV.eq (Value.bool (u6)), PV.data (j8 : List Deed), PV.eq (Value.int .i64 (ky)), PV.ptr (ua : Deed), PV.ptr (ua.Peer : Int), PV.eq (Value.int .i64 (ua.Peer)), PV.eq (Value.int .i64 (a1)), PV.eq (Value.bool (decide (ua.Peer = a1))), PV.eq (Value.bool (decide (ua.Peer = a1))), PV.eq (Value.bool (decide (ua.Peer = a1))), PV.data (j1 : List Deed), PV.eq (Value.int .i64 (jq)), PV.ptr (ud : Deed), PV.data (ud : Deed), PV.data (j8 : List Deed), PV.eq (Value.int .i64 (ky)), PV.ptr (uf : Deed), PV.data (uf : Deed), PV.eq (Value.bool (uh)), PV.eq (Value.bool (uh)), PV.eq (Value.bool (uh)), PV.eq (Value.slice (some ⟨jh, 0, none⟩) ((j1.length : Int)).toNat ((j1.length : Int)).toNat), PV.eq (Value.int .i64 (jq)), PV.eq ((cutV jh ((j1.length : Int)).toNat 1 (jq))), PV.eq (Value.int .i64 (ky)), PV.eq (Value.int .i64 (um)), PV.eq (Value.bool (decide (um < 0))), PV.eq (Value.bool (decide (um < 0)))] (Steps_cons ?_ (Steps_cons ?_ (Steps_cons ?_ (Steps_cons ?_ (Steps_cons ?_ (Steps_cons ?_ (Steps_cons ?_ (Steps_cons ?_ (Steps_cons ?_ (Steps_cons ?_ (Steps_cons ?_ (Steps_cons ?_ (Steps_cons ?_ (Steps_cons ?_ (Steps_cons ?_ (Steps_cons ?_ (Steps_cons ?_ (Steps_cons ?_ (Steps_cons ?_ (Steps_cons ?_ (Steps_cons ?_ (Steps_cons ?_ (Steps_cons ?_ (Steps_cons ?_ (Steps_cons ?_ (Steps_cons ?_ (Steps_cons ?_ (Steps_cons ?_ (Steps_cons ?_ (Steps_cons ?_ (Steps_cons ?_ (Steps_cons ?_ (Steps_cons ?_ Steps_nil))))))))))))))))))))))))))))))))) ?_
              ·intro uo up uq ur us Q ut; have uu : uo 8 = ja := (us 8 (by kernel_rfl)).trans gu; exact mv uu (fin ut (jd.mono (ji.le.trans (jx.trans (k9.le.trans (kk.trans (g5.trans (go.trans uq.le))))))))
              ·intro uo up uq ur us Q ut; have uu : uo 11 = Value.int .i64 (ky) := (us 11 (by kernel_rfl)).trans gx; exact mv uu (fin ut rfl)
              ·intro uo up uq ur us Q ut; have uu : V _ (uo 58) (j8 : List Deed) := ur 0 58 (by kernel_rfl) (by kernel_rfl); obtain ⟨uv, uw, ux⟩ : ∃ v, _ = v ∧ V _ v _ := ⟨_, rfl, uu⟩; have uy : uo 59 = Value.int .i64 (ky) := ur 1 59 (by kernel_rfl) (by kernel_rfl); exact L_index Try.underlying65 ty74.inf uw ux uy u5 (by decide) (fun uz t0 => fin ut t0)
              ·intro uo up uq ur us Q ut; have uu : Ptr _ (uo 60) (u4 : Deed) := ur 2 60 (by kernel_rfl) (by kernel_rfl); obtain ⟨uv, uw, ux⟩ : ∃ v, _ = v ∧ Ptr _ v _ := ⟨_, rfl, uu⟩; exact L_load ty74 uw ux (by decide) (fun uy uz => fin ut uz)
              ·intro uo up uq ur us Q ut; have uu : V _ (uo 61) (u4 : Deed) := ur 3 61 (by kernel_rfl) (by kernel_rfl); obtain ⟨uv, uw, ux⟩ : ∃ v, _ = v ∧ V _ v _ := ⟨_, rfl, uu⟩; refine L_calls cal43 (args1 uw) (ref08_receives_ok N _ _ _ ux u6 u7) (by decide) (fun uy uz t0 t1 => ?_); have t2 := Tch.ext (Ext.refl up) t0; obtain rfl := t1.bool; exact L_nil (ut _ _ t2 rfl)
              ·intro uo up uq ur us Q ut; have uu : uo 62 = Value.bool (u6) := ur 4 62 (by kernel_rfl) (by kernel_rfl); exact mv uu (fin ut rfl)
              ·intro uo up uq ur us Q ut; have uu : uo 8 = ja := (us 8 (by kernel_rfl)).trans gu; have uv : uo 63 = Value.bool (u6) := ur 5 63 (by kernel_rfl) (by kernel_rfl); exact gt 63 uv u9 (mv uu (fin ut (jd.mono (ji.le.trans (jx.trans (k9.le.trans (kk.trans (g5.trans (go.trans uq.le)))))))))
              ·intro uo up uq ur us Q ut; have uu : uo 11 = Value.int .i64 (ky) := (us 11 (by kernel_rfl)).trans gx; have uv : uo 63 = Value.bool (u6) := ur 5 63 (by kernel_rfl) (by kernel_rfl); exact gt 63 uv u9 (mv uu (fin ut rfl))
              ·intro uo up uq ur us Q ut; have uu : uo 63 = Value.bool (u6) := ur 5 63 (by kernel_rfl) (by kernel_rfl); have uv : V _ (uo 64) (j8 : List Deed) := ur 6 64 (by kernel_rfl) (by kernel_rfl); obtain ⟨uw, ux, uy⟩ : ∃ v, _ = v ∧ V _ v _ := ⟨_, rfl, uv⟩; have uz : uo 65 = Value.int .i64 (ky) := ur 7 65 (by kernel_rfl) (by kernel_rfl); exact gt 63 uu u9 (L_index Try.underlying65 ty74.inf ux uy uz ub (by decide) (fun t0 t1 => fin ut t1))
              ·intro uo up uq ur us Q ut; have uu : uo 63 = Value.bool (u6) := ur 5 63 (by kernel_rfl) (by kernel_rfl); have uv : Ptr _ (uo 66) (ua : Deed) := ur 8 66 (by kernel_rfl) (by kernel_rfl); obtain ⟨uw, ux, uy⟩ : ∃ v, _ = v ∧ Ptr _ v _ := ⟨_, rfl, uv⟩; exact gt 63 uu u9 (L_fieldAddr fld74_1 Deed.of_Peer ux uy (by decide) (fun uz t0 => fin ut t0))
              ·intro uo up uq ur us Q ut; have uu : uo 63 = Value.bool (u6) := ur 5 63 (by kernel_rfl) (by kernel_rfl); have uv : Ptr _ (uo 67) (ua.Peer : Int) := ur 9 67 (by kernel_rfl) (by kernel_rfl); obtain ⟨uw, ux, uy⟩ : ∃ v, _ = v ∧ Ptr _ v _ := ⟨_, rfl, uv⟩; exact gt 63 uu u9 (li ty3 ux uy (fin ut rfl))
              ·intro uo up uq ur us Q ut; have uu : uo 1 = Value.int .i64 (a1) := (us 1 (by kernel_rfl)).trans gq; have uv : uo 63 = Value.bool (u6) := ur 5 63 (by kernel_rfl) (by kernel_rfl); exact gt 63 uv u9 (mv uu (fin ut rfl))
              ·intro uo up uq ur us Q ut; have uu : uo 63 = Value.bool (u6) := ur 5 63 (by kernel_rfl) (by kernel_rfl); have uv : uo 68 = Value.int .i64 (ua.Peer) := ur 10 68 (by kernel_rfl) (by kernel_rfl); have uw : uo 69 = Value.int .i64 (a1) := ur 11 69 (by kernel_rfl) (by kernel_rfl); exact gt 63 uu u9 (L_eql uv uw (by decide) (fin ut rfl))
              ·intro uo up uq ur us Q ut; have uu : uo 63 = Value.bool (u6) := ur 5 63 (by kernel_rfl) (by kernel_rfl); have uv : uo 70 = Value.bool (decide (ua.Peer = a1)) := ur 12 70 (by kernel_rfl) (by kernel_rfl); exact pt uu u9 uv (fin ut rfl)
              ·intro uo up uq ur us Q ut; have uu : uo 71 = Value.bool (decide (ua.Peer = a1)) := ur 13 71 (by kernel_rfl) (by kernel_rfl); exact mv uu (fin ut rfl)
              ·intro uo up uq ur us Q ut; have uu : uo 7 = j3 := (us 7 (by kernel_rfl)).trans gs; have uv : uo 72 = Value.bool (decide (ua.Peer = a1)) := ur 14 72 (by kernel_rfl) (by kernel_rfl); exact gt 72 uv uc (mv uu (fin ut (j6.mono (jc.le.trans (ji.le.trans (jx.trans (k9.le.trans (kk.trans (g5.trans (go.trans uq.le))))))))))
              ·intro uo up uq ur us Q ut; have uu : uo 10 = Value.int .i64 (jq) := (us 10 (by kernel_rfl)).trans gw; have uv : uo 72 = Value.bool (decide (ua.Peer = a1)) := ur 14 72 (by kernel_rfl) (by kernel_rfl); exact gt 72 uv uc (mv uu (fin ut rfl))
              ·intro uo up uq ur us Q ut; have uu : uo 72 = Value.bool (decide (ua.Peer = a1)) := ur 14 72 (by kernel_rfl) (by kernel_rfl); have uv : V _ (uo 73) (j1 : List Deed) := ur 15 73 (by kernel_rfl) (by kernel_rfl); obtain ⟨uw, ux, uy⟩ : ∃ v, _ = v ∧ V _ v _ := ⟨_, rfl, uv⟩; have uz : uo 74 = Value.int .i64 (jq) := ur 16 74 (by kernel_rfl) (by kernel_rfl); exact gt 72 uu uc (L_index Try.underlying65 ty74.inf ux uy uz ue (by decide) (fun t0 t1 => fin ut t1))
              ·intro uo up uq ur us Q ut; have uu : uo 72 = Value.bool (decide (ua.Peer = a1)) := ur 14 72 (by kernel_rfl) (by kernel_rfl); have uv : Ptr _ (uo 75) (ud : Deed) := ur 17 75 (by kernel_rfl) (by kernel_rfl); obtain ⟨uw, ux, uy⟩ : ∃ v, _ = v ∧ Ptr _ v _ := ⟨_, rfl, uv⟩; exact gt 72 uu uc (L_load ty74 ux uy (by decide) (fun uz t0 => fin ut t0))
              ·intro uo up uq ur us Q ut; have uu : uo 8 = ja := (us 8 (by kernel_rfl)).trans gu; have uv : uo 72 = Value.bool (decide (ua.Peer = a1)) := ur 14 72 (by kernel_rfl) (by kernel_rfl); exact gt 72 uv uc (mv uu (fin ut (jd.mono (ji.le.trans (jx.trans (k9.le.trans (kk.trans (g5.trans (go.trans uq.le)))))))))
              ·intro uo up uq ur us Q ut; have uu : uo 11 = Value.int .i64 (ky) := (us 11 (by kernel_rfl)).trans gx; have uv : uo 72 = Value.bool (decide (ua.Peer = a1)) := ur 14 72 (by kernel_rfl) (by kernel_rfl); exact gt 72 uv uc (mv uu (fin ut rfl))
              ·intro uo up uq ur us Q ut; have uu : uo 72 = Value.bool (decide (ua.Peer = a1)) := ur 14 72 (by kernel_rfl) (by kernel_rfl); have uv : V _ (uo 77) (j8 : List Deed) := ur 19 77 (by kernel_rfl) (by kernel_rfl); obtain ⟨uw, ux, uy⟩ : ∃ v, _ = v ∧ V _ v _ := ⟨_, rfl, uv⟩; have uz : uo 78 = Value.int .i64 (ky) := ur 20 78 (by kernel_rfl) (by kernel_rfl); exact gt 72 uu uc (L_index Try.underlying65 ty74.inf ux uy uz ug (by decide) (fun t0 t1 => fin ut t1))
              ·intro uo up uq ur us Q ut; have uu : uo 72 = Value.bool (decide (ua.Peer = a1)) := ur 14 72 (by kernel_rfl) (by kernel_rfl); have uv : Ptr _ (uo 79) (uf : Deed) := ur 21 79 (by kernel_rfl) (by kernel_rfl); obtain ⟨uw, ux, uy⟩ : ∃ v, _ = v ∧ Ptr _ v _ := ⟨_, rfl, uv⟩; exact gt 72 uu uc (L_load ty74 ux uy (by decide) (fun uz t0 => fin ut t0))
              ·intro uo up uq ur us Q ut; have uu : uo 72 = Value.bool (decide (ua.Peer = a1)) := ur 14 72 (by kernel_rfl) (by kernel_rfl); have uv : V _ (uo 76) (ud : Deed) := ur 18 76 (by kernel_rfl) (by kernel_rfl); obtain ⟨uw, ux, uy⟩ : ∃ v, _ = v ∧ V _ v _ := ⟨_, rfl, uv⟩; have uz : V _ (uo 80) (uf : Deed) := ur 22 80 (by kernel_rfl) (by kernel_rfl); obtain ⟨t0, t1, t2⟩ : ∃ v, _ = v ∧ V _ v _ := ⟨_, rfl, uz⟩; refine gt 72 uu uc (L_calls cal45 (args2 ux t1) (ref08_fits_ok N _ _ _ uy _ _ t2 uh ui) (by decide) (fun t3 t4 t5 t6 => ?_)); have t7 := Tch.ext (Ext.refl up) t5; obtain rfl := t6.bool; exact L_nil (ut _ _ t7 rfl)
              ·intro uo up uq ur us Q ut; have uu : uo 72 = Value.bool (decide (ua.Peer = a1)) := ur 14 72 (by kernel_rfl) (by kernel_rfl); have uv : uo 81 = Value.bool (uh) := ur 23 81 (by kernel_rfl) (by kernel_rfl); exact pt uu uc uv (fin ut rfl)
              ·intro uo up uq ur us Q ut; have uu : uo 82 = Value.bool (uh) := ur 24 82 (by kernel_rfl) (by kernel_rfl); exact mv uu (fin ut rfl)
              ·intro uo up uq ur us Q ut; have uu : uo 9 = Value.slice (some ⟨jh, 0, none⟩) ((j1.length : Int)).toNat ((j1.length : Int)).toNat := (us 9 (by kernel_rfl)).trans gv; have uv : uo 83 = Value.bool (uh) := ur 25 83 (by kernel_rfl) (by kernel_rfl); exact gt 83 uv uj (mv uu (fin ut rfl))
              ·intro uo up uq ur us Q ut; have uu : uo 10 = Value.int .i64 (jq) := (us 10 (by kernel_rfl)).trans gw; have uv : uo 83 = Value.bool (uh) := ur 25 83 (by kernel_rfl) (by kernel_rfl); exact gt 83 uv uj (mv uu (fin ut rfl))
              ·intro uo up uq ur us Q ut; have uu : uo 83 = Value.bool (uh) := ur 25 83 (by kernel_rfl) (by kernel_rfl); have uv : uo 84 = Value.slice (some ⟨jh, 0, none⟩) ((j1.length : Int)).toNat ((j1.length : Int)).toNat := ur 26 84 (by kernel_rfl) (by kernel_rfl); have uw : uo 85 = Value.int .i64 (jq) := ur 27 85 (by kernel_rfl) (by kernel_rfl); exact gt 83 uu uj (L_sliceA_h (sz := 1) Try.underlying23 ty3.inf uv uw (cut_in ul).1 (by have := (cut_in ul).2; have := ((gy).ext uq).1; omega) (by decide) (fin ut rfl))
              ·intro uo up uq ur us Q ut; have uu : uo 11 = Value.int .i64 (ky) := (us 11 (by kernel_rfl)).trans gx; have uv : uo 83 = Value.bool (uh) := ur 25 83 (by kernel_rfl) (by kernel_rfl); exact gt 83 uv uj (mv uu (fin ut rfl))
              ·intro uo up uq ur us Q ut; have uu : uo 83 = Value.bool (uh) := ur 25 83 (by kernel_rfl) (by kernel_rfl); have uv : uo 86 = (cutV jh ((j1.length : Int)).toNat 1 (jq)) := ur 28 86 (by kernel_rfl) (by kernel_rfl); have uw : uo 87 = Value.int .i64 (ky) := ur 29 87 (by kernel_rfl) (by kernel_rfl); refine gt 83 uu uj ?_; obtain ⟨ux, uy, uz, t0⟩ := ((gy).ext uq).freeze; refine L_calls_fz cal46 (args2 uv uw) uy uz (fun k hk => by have t1 : k = jh := hk; rw [t1]; exact ((gy).ext uq).g) (ref02_Index_ok N _ _ _ (V_cutA t0 ul) ky um un) (by decide) (fun t2 t3 t4 t5 t6 t7 => ?_); have t8 := Tch.ext (Ext.refl up) t6; obtain rfl := t7.int; exact L_nil (ut _ _ t8 rfl)
              ·intro uo up uq ur us Q ut; have uu : uo 83 = Value.bool (uh) := ur 25 83 (by kernel_rfl) (by kernel_rfl); have uv : uo 88 = Value.int .i64 (um) := ur 30 88 (by kernel_rfl) (by kernel_rfl); exact gt 83 uu uj (L_lss uv (rfl : _ = Value.int .i64 (0)) (by decide) (fin ut rfl))
              ·intro uo up uq ur us Q ut; have uu : uo 83 = Value.bool (uh) := ur 25 83 (by kernel_rfl) (by kernel_rfl); have uv : uo 89 = Value.bool (decide (um < 0)) := ur 31 89 (by kernel_rfl) (by kernel_rfl); exact pt uu uj uv (fin ut rfl)
              ·intro uo up uq ur us; have ut := Tch.ext gn uq; have uu : uo 1 = Value.int .i64 (a1) := (us 1 (by kernel_rfl)).trans gq; have uv : uo 2 = Value.int .i64 (a2) := (us 2 (by kernel_rfl)).trans gr; have uw : uo 7 = j3 := (us 7 (by kernel_rfl)).trans gs; have ux : uo 8 = ja := (us 8 (by kernel_rfl)).trans gu; have uy : uo 9 = Value.slice (some ⟨jh, 0, none⟩) ((j1.length : Int)).toNat ((j1.length : Int)).toNat := (us 9 (by kernel_rfl)).trans gv; have uz : uo 10 = Value.int .i64 (jq) := (us 10 (by kernel_rfl)).trans gw; have t0 : uo 11 = Value.int .i64 (ky) := (us 11 (by kernel_rfl)).trans gx; have t1 : uo 90 = Value.bool (decide (um < 0)) := ur 32 90 (by kernel_rfl); exact then_n ⟨up, (decide (um < 0)), rfl, ut, uq.le, Option.some.inj hr, t1, uu, uv, uw, ux, uy, uz, t0, (gy).ext uq⟩
             ·have hr := ite_f uj hr
              refine W_draws mixed (by kernel_rfl) [PV.data (j8 : List Deed), PV.eq (Value.int .i64 (ky)), PV.ptr (u4 : Deed), PV.data (u4 : Deed), PV.eq (Value.bool (u6)), PV.eq (Value.bool (u6)), PV.data (j8 : List Deed), PV.eq (Value.int .i64 (ky)), PV.ptr (ua : Deed), PV.ptr (ua.Peer : Int), PV.eq (Value.int .i64 (ua.Peer)), PV.eq (Value.int .i64 (a1)), PV.eq (Value.bool (decide (ua.Peer = a1))), PV.eq (Value.bool (decide (ua.Peer = a1))), PV.eq (Value.bool (decide (ua.Peer = a1))), PV.data (j1 : List Deed), PV.eq (Value.int .i64 (jq)), PV.ptr (ud : Deed), PV.data (ud : Deed), PV.data (j8 : List Deed), PV.eq (Value.int .i64 (ky)), PV.ptr (uf : Deed), PV.data (uf : Deed), PV.eq (Value.bool (uh)), PV.eq (Value.bool (uh)), PV.eq (Value.bool (uh)), PV.eq (undef), PV.eq (undef), PV.eq (undef), PV.eq (undef), PV.eq (undef), PV.eq (undef), PV.eq (Value.bool (false))] (Steps_cons ?_ (Steps_cons ?_ (Steps_cons ?_ (Steps_cons ?_ (Steps_cons ?_ (Steps_cons ?_ (Steps_cons ?_ (Steps_cons ?_ (Steps_cons ?_ (Steps_cons ?_ (Steps_cons ?_ (Steps_cons ?_ (Steps_cons ?_ (Steps_cons ?_ (Steps_cons ?_ (Steps_cons ?_ (Steps_cons ?_ (Steps_cons ?_ (Steps_cons ?_ (Steps_cons ?_ (Steps_cons ?_ (Steps_cons ?_ (Steps_cons ?_ (Steps_cons ?_ (Steps_cons ?_ (Steps_cons ?_ (Steps_cons ?_ (Steps_cons ?_ (Steps_cons ?_ (Steps_cons ?_ (Steps_cons ?_ (Steps_cons ?_ (Steps_cons ?_ Steps_nil))))))))))))))))))))))))))))))))) ?_
              ·intro uk ul um un uo Q up; have uq : uk 8 = ja := (uo 8 (by kernel_rfl)).trans gu; exact mv uq (fin up (jd.mono (ji.le.trans (jx.trans (k9.le.trans (kk.trans (g5.trans (go.trans um.le))))))))
              ·intro uk ul um un uo Q up; have uq : uk 11 = Value.int .i64 (ky) := (uo 11 (by kernel_rfl)).trans gx; exact mv uq (fin up rfl)
              ·intro uk ul um un uo Q up; have uq : V _ (uk 58) (j8 : List Deed) := un 0 58 (by kernel_rfl) (by kernel_rfl); obtain ⟨ur, us, ut⟩ : ∃ v, _ = v ∧ V _ v _ := ⟨_, rfl, uq⟩; have uu : uk 59 = Value.int .i64 (ky) := un 1 59 (by kernel_rfl) (by kernel_rfl); exact L_index Try.underlying65 ty74.inf us ut uu u5 (by decide) (fun uv uw => fin up uw)
              ·intro uk ul um un uo Q up; have uq : Ptr _ (uk 60) (u4 : Deed) := un 2 60 (by kernel_rfl) (by kernel_rfl); obtain ⟨ur, us, ut⟩ : ∃ v, _ = v ∧ Ptr _ v _ := ⟨_, rfl, uq⟩; exact L_load ty74 us ut (by decide) (fun uu uv => fin up uv)
              ·intro uk ul um un uo Q up; have uq : V _ (uk 61) (u4 : Deed) := un 3 61 (by kernel_rfl) (by kernel_rfl); obtain ⟨ur, us, ut⟩ : ∃ v, _ = v ∧ V _ v _ := ⟨_, rfl, uq⟩; refine L_calls cal43 (args1 us) (ref08_receives_ok N _ _ _ ut u6 u7) (by decide) (fun uu uv uw ux => ?_); have uy := Tch.ext (Ext.refl ul) uw; obtain rfl := ux.bool; exact L_nil (up _ _ uy rfl)
              ·intro uk ul um un uo Q up; have uq : uk 62 = Value.bool (u6) := un 4 62 (by kernel_rfl) (by kernel_rfl); exact mv uq (fin up rfl)
              ·intro uk ul um un uo Q up; have uq : uk 8 = ja := (uo 8 (by kernel_rfl)).trans gu; have ur : uk 63 = Value.bool (u6) := un 5 63 (by kernel_rfl) (by kernel_rfl); exact gt 63 ur u9 (mv uq (fin up (jd.mono (ji.le.trans (jx.trans (k9.le.trans (kk.trans (g5.trans (go.trans um.le)))))))))
              ·intro uk ul um un uo Q up; have uq : uk 11 = Value.int .i64 (ky) := (uo 11 (by kernel_rfl)).trans gx; have ur : uk 63 = Value.bool (u6) := un 5 63 (by kernel_rfl) (by kernel_rfl); exact gt 63 ur u9 (mv uq (fin up rfl))
              ·intro uk ul um un uo Q up; have uq : uk 63 = Value.bool (u6) := un 5 63 (by kernel_rfl) (by kernel_rfl); have ur : V _ (uk 64) (j8 : List Deed) := un 6 64 (by kernel_rfl) (by kernel_rfl); obtain ⟨us, ut, uu⟩ : ∃ v, _ = v ∧ V _ v _ := ⟨_, rfl, ur⟩; have uv : uk 65 = Value.int .i64 (ky) := un 7 65 (by kernel_rfl) (by kernel_rfl); exact gt 63 uq u9 (L_index Try.underlying65 ty74.inf ut uu uv ub (by decide) (fun uw ux => fin up ux))
              ·intro uk ul um un uo Q up; have uq : uk 63 = Value.bool (u6) := un 5 63 (by kernel_rfl) (by kernel_rfl); have ur : Ptr _ (uk 66) (ua : Deed) := un 8 66 (by kernel_rfl) (by kernel_rfl); obtain ⟨us, ut, uu⟩ : ∃ v, _ = v ∧ Ptr _ v _ := ⟨_, rfl, ur⟩; exact gt 63 uq u9 (L_fieldAddr fld74_1 Deed.of_Peer ut uu (by decide) (fun uv uw => fin up uw))
              ·intro uk ul um un uo Q up; have uq : uk 63 = Value.bool (u6) := un 5 63 (by kernel_rfl) (by kernel_rfl); have ur : Ptr _ (uk 67) (ua.Peer : Int) := un 9 67 (by kernel_rfl) (by kernel_rfl); obtain ⟨us, ut, uu⟩ : ∃ v, _ = v ∧ Ptr _ v _ := ⟨_, rfl, ur⟩; exact gt 63 uq u9 (li ty3 ut uu (fin up rfl))
              ·intro uk ul um un uo Q up; have uq : uk 1 = Value.int .i64 (a1) := (uo 1 (by kernel_rfl)).trans gq; have ur : uk 63 = Value.bool (u6) := un 5 63 (by kernel_rfl) (by kernel_rfl); exact gt 63 ur u9 (mv uq (fin up rfl))
              ·intro uk ul um un uo Q up; have uq : uk 63 = Value.bool (u6) := un 5 63 (by kernel_rfl) (by kernel_rfl); have ur : uk 68 = Value.int .i64 (ua.Peer) := un 10 68 (by kernel_rfl) (by kernel_rfl); have us : uk 69 = Value.int .i64 (a1) := un 11 69 (by kernel_rfl) (by kernel_rfl); exact gt 63 uq u9 (L_eql ur us (by decide) (fin up rfl))
              ·intro uk ul um un uo Q up; have uq : uk 63 = Value.bool (u6) := un 5 63 (by kernel_rfl) (by kernel_rfl); have ur : uk 70 = Value.bool (decide (ua.Peer = a1)) := un 12 70 (by kernel_rfl) (by kernel_rfl); exact pt uq u9 ur (fin up rfl)
              ·intro uk ul um un uo Q up; have uq : uk 71 = Value.bool (decide (ua.Peer = a1)) := un 13 71 (by kernel_rfl) (by kernel_rfl); exact mv uq (fin up rfl)
              ·intro uk ul um un uo Q up; have uq : uk 7 = j3 := (uo 7 (by kernel_rfl)).trans gs; have ur : uk 72 = Value.bool (decide (ua.Peer = a1)) := un 14 72 (by kernel_rfl) (by kernel_rfl); exact gt 72 ur uc (mv uq (fin up (j6.mono (jc.le.trans (ji.le.trans (jx.trans (k9.le.trans (kk.trans (g5.trans (go.trans um.le))))))))))
              ·intro uk ul um un uo Q up; have uq : uk 10 = Value.int .i64 (jq) := (uo 10 (by kernel_rfl)).trans gw; have ur : uk 72 = Value.bool (decide (ua.Peer = a1)) := un 14 72 (by kernel_rfl) (by kernel_rfl); exact gt 72 ur uc (mv uq (fin up rfl))
              ·intro uk ul um un uo Q up; have uq : uk 72 = Value.bool (decide (ua.Peer = a1)) := un 14 72 (by kernel_rfl) (by kernel_rfl); have ur : V _ (uk 73) (j1 : List Deed) := un 15 73 (by kernel_rfl) (by kernel_rfl); obtain ⟨us, ut, uu⟩ : ∃ v, _ = v ∧ V _ v _ := ⟨_, rfl, ur⟩; have uv : uk 74 = Value.int .i64 (jq) := un 16 74 (by kernel_rfl) (by kernel_rfl); exact gt 72 uq uc (L_index Try.underlying65 ty74.inf ut uu uv ue (by decide) (fun uw ux => fin up ux))
              ·intro uk ul um un uo Q up; have uq : uk 72 = Value.bool (decide (ua.Peer = a1)) := un 14 72 (by kernel_rfl) (by kernel_rfl); have ur : Ptr _ (uk 75) (ud : Deed) := un 17 75 (by kernel_rfl) (by kernel_rfl); obtain ⟨us, ut, uu⟩ : ∃ v, _ = v ∧ Ptr _ v _ := ⟨_, rfl, ur⟩; exact gt 72 uq uc (L_load ty74 ut uu (by decide) (fun uv uw => fin up uw))
              ·intro uk ul um un uo Q up; have uq : uk 8 = ja := (uo 8 (by kernel_rfl)).trans gu; have ur : uk 72 = Value.bool (decide (ua.Peer = a1)) := un 14 72 (by kernel_rfl) (by kernel_rfl); exact gt 72 ur uc (mv uq (fin up (jd.mono (ji.le.trans (jx.trans (k9.le.trans (kk.trans (g5.trans (go.trans um.le)))))))))
              ·intro uk ul um un uo Q up; have uq : uk 11 = Value.int .i64 (ky) := (uo 11 (by kernel_rfl)).trans gx; have ur : uk 72 = Value.bool (decide (ua.Peer = a1)) := un 14 72 (by kernel_rfl) (by kernel_rfl); exact gt 72 ur uc (mv uq (fin up rfl))
              ·intro uk ul um un uo Q up; have uq : uk 72 = Value.bool (decide (ua.Peer = a1)) := un 14 72 (by kernel_rfl) (by kernel_rfl); have ur : V _ (uk 77) (j8 : List Deed) := un 19 77 (by kernel_rfl) (by kernel_rfl); obtain ⟨us, ut, uu⟩ : ∃ v, _ = v ∧ V _ v _ := ⟨_, rfl, ur⟩; have uv : uk 78 = Value.int .i64 (ky) := un 20 78 (by kernel_rfl) (by kernel_rfl); exact gt 72 uq uc (L_index Try.underlying65 ty74.inf ut uu uv ug (by decide) (fun uw ux => fin up ux))
              ·intro uk ul um un uo Q up; have uq : uk 72 = Value.bool (decide (ua.Peer = a1)) := un 14 72 (by kernel_rfl) (by kernel_rfl); have ur : Ptr _ (uk 79) (uf : Deed) := un 21 79 (by kernel_rfl) (by kernel_rfl); obtain ⟨us, ut, uu⟩ : ∃ v, _ = v ∧ Ptr _ v _ := ⟨_, rfl, ur⟩; exact gt 72 uq uc (L_load ty74 ut uu (by decide) (fun uv uw => fin up uw))
              ·intro uk ul um un uo Q up; have uq : uk 72 = Value.bool (decide (ua.Peer = a1)) := un 14 72 (by kernel_rfl) (by kernel_rfl); have ur : V _ (uk 76) (ud : Deed) := un 18 76 (by kernel_rfl) (by kernel_rfl); obtain ⟨us, ut, uu⟩ : ∃ v, _ = v ∧ V _ v _ := ⟨_, rfl, ur⟩; have uv : V _ (uk 80) (uf : Deed) := un 22 80 (by kernel_rfl) (by kernel_rfl); obtain ⟨uw, ux, uy⟩ : ∃ v, _ = v ∧ V _ v _ := ⟨_, rfl, uv⟩; refine gt 72 uq uc (L_calls cal45 (args2 ut ux) (ref08_fits_ok N _ _ _ uu _ _ uy uh ui) (by decide) (fun uz t0 t1 t2 => ?_)); have t3 := Tch.ext (Ext.refl ul) t1; obtain rfl := t2.bool; exact L_nil (up _ _ t3 rfl)
              ·intro uk ul um un uo Q up; have uq : uk 72 = Value.bool (decide (ua.Peer = a1)) := un 14 72 (by kernel_rfl) (by kernel_rfl); have ur : uk 81 = Value.bool (uh) := un 23 81 (by kernel_rfl) (by kernel_rfl); exact pt uq uc ur (fin up rfl)
              ·intro uk ul um un uo Q up; have uq : uk 82 = Value.bool (uh) := un 24 82 (by kernel_rfl) (by kernel_rfl); exact mv uq (fin up rfl)
              ·intro uk ul um un uo Q up; have uq : uk 83 = Value.bool (uh) := un 25 83 (by kernel_rfl) (by kernel_rfl); exact gf 83 uq uj (fin up rfl)
              ·intro uk ul um un uo Q up; have uq : uk 83 = Value.bool (uh) := un 25 83 (by kernel_rfl) (by kernel_rfl); exact gf 83 uq uj (fin up rfl)
              ·intro uk ul um un uo Q up; have uq : uk 83 = Value.bool (uh) := un 25 83 (by kernel_rfl) (by kernel_rfl); exact gf 83 uq uj (fin up rfl)
              ·intro uk ul um un uo Q up; have uq : uk 83 = Value.bool (uh) := un 25 83 (by kernel_rfl) (by kernel_rfl); exact gf 83 uq uj (fin up rfl)
              ·intro uk ul um un uo Q up; have uq : uk 83 = Value.bool (uh) := un 25 83 (by kernel_rfl) (by kernel_rfl); exact gf 83 uq uj (fin up rfl)
              ·intro uk ul um un uo Q up; have uq : uk 83 = Value.bool (uh) := un 25 83 (by kernel_rfl) (by kernel_rfl); exact gf 83 uq uj (fin up rfl)
              ·intro uk ul um un uo Q up; have uq : uk 83 = Value.bool (uh) := un 25 83 (by kernel_rfl) (by kernel_rfl); exact pf uq uj (rfl : _ = Value.bool (false)) (fin up rfl)
              ·intro uk ul um un uo; have up := Tch.ext gn um; have uq : uk 1 = Value.int .i64 (a1) := (uo 1 (by kernel_rfl)).trans gq; have ur : uk 2 = Value.int .i64 (a2) := (uo 2 (by kernel_rfl)).trans gr; have us : uk 7 = j3 := (uo 7 (by kernel_rfl)).trans gs; have ut : uk 8 = ja := (uo 8 (by kernel_rfl)).trans gu; have uu : uk 9 = Value.slice (some ⟨jh, 0, none⟩) ((j1.length : Int)).toNat ((j1.length : Int)).toNat := (uo 9 (by kernel_rfl)).trans gv; have uv : uk 10 = Value.int .i64 (jq) := (uo 10 (by kernel_rfl)).trans gw; have uw : uk 11 = Value.int .i64 (ky) := (uo 11 (by kernel_rfl)).trans gx; have ux : uk 90 = Value.bool (false) := un 32 90 (by kernel_rfl); exact then_n ⟨ul, false, rfl, up, um.le, Option.some.inj hr, ux, uq, ur, us, ut, uu, uv, uw, (gy).ext um⟩
            ·have hr := ite_f uc hr
             refine W_draws mixed (by kernel_rfl) [PV.data (j8 : List Deed), PV.eq (Value.int .i64 (ky)), PV.ptr (u4 : Deed), PV.data (u4 : Deed), PV.eq (Value.bool (u6)), PV.eq (Value.bool (u6)), PV.data (j8 : List Deed), PV.eq (Value.int .i64 (ky)), PV.ptr (ua : Deed), PV.ptr (ua.Peer : Int), PV.eq (Value.int .i64 (ua.Peer)), PV.eq (Value.int .i64 (a1)), PV.eq (Value.bool (decide (ua.Peer = a1))), PV.eq (Value.bool (decide (ua.Peer = a1))), PV.eq (Value.bool (decide (ua.Peer = a1))), PV.eq (undef), PV.eq (undef), PV.eq (undef), PV.eq (undef), PV.eq (undef), PV.eq (undef), PV.eq (undef), PV.eq (undef), PV.eq (undef), PV.eq (Value.bool (false)), PV.eq (Value.bool (false)), PV.eq (undef), PV.eq (undef), PV.eq (undef), PV.eq (undef), PV.eq (undef), PV.eq (undef), PV.eq (Value.bool (false))] (Steps_cons ?_ (Steps_cons ?_ (Steps_cons ?_ (Steps_cons ?_ (Steps_cons ?_ (Steps_cons ?_ (Steps_cons ?_ (Steps_cons ?_ (Steps_cons ?_ (Steps_cons ?_ (Steps_cons ?_ (Steps_cons ?_ (Steps_cons ?_ (Steps_cons ?_ (Steps_cons ?_ (Steps_cons ?_ (Steps_cons ?_ (Steps_cons ?_ (Steps_cons ?_ (Steps_cons ?_ (Steps_cons ?_ (Steps_cons ?_ (Steps_cons ?_ (Steps_cons ?_ (Steps_cons ?_ (Steps_cons ?_ (Steps_cons ?_ (Steps_cons ?_ (Steps_cons ?_ (Steps_cons ?_ (Steps_cons ?_ (Steps_cons ?_ (Steps_cons ?_ Steps_nil))))))))))))))))))))))))))))))))) ?_
             ·intro ud ue uf ug uh Q ui; have uj : ud 8 = ja := (uh 8 (by kernel_rfl)).trans gu; exact mv uj (fin ui (jd.mono (ji.le.trans (jx.trans (k9.le.trans (kk.trans (g5.trans (go.trans uf.le))))))))
             ·intro ud ue uf ug uh Q ui; have uj : ud 11 = Value.int .i64 (ky) := (uh 11 (by kernel_rfl)).trans gx; exact mv uj (fin ui rfl)
             ·intro ud ue uf ug uh Q ui; have uj : V _ (ud 58) (j8 : List Deed) := ug 0 58 (by kernel_rfl) (by kernel_rfl); obtain ⟨uk, ul, um⟩ : ∃ v, _ = v ∧ V _ v _ := ⟨_, rfl, uj⟩; have un : ud 59 = Value.int .i64 (ky) := ug 1 59 (by kernel_rfl) (by kernel_rfl); exact L_index Try.underlying65 ty74.inf ul um un u5 (by decide) (fun uo up => fin ui up)
             ·intro ud ue uf ug uh Q ui; have uj : Ptr _ (ud 60) (u4 : Deed) := ug 2 60 (by kernel_rfl) (by kernel_rfl); obtain ⟨uk, ul, um⟩ : ∃ v, _ = v ∧ Ptr _ v _ := ⟨_, rfl, uj⟩; exact L_load ty74 ul um (by decide) (fun un uo => fin ui uo)
             ·intro ud ue uf ug uh Q ui; have uj : V _ (ud 61) (u4 : Deed) := ug 3 61 (by kernel_rfl) (by kernel_rfl); obtain ⟨uk, ul, um⟩ : ∃ v, _ = v ∧ V _ v _ := ⟨_, rfl, uj⟩; refine L_calls cal43 (args1 ul) (ref08_receives_ok N _ _ _ um u6 u7) (by decide) (fun un uo up uq => ?_); have ur := Tch.ext (Ext.refl ue) up; obtain rfl := uq.bool; exact L_nil (ui _ _ ur rfl)
             ·intro ud ue uf ug uh Q ui; have uj : ud 62 = Value.bool (u6) := ug 4 62 (by kernel_rfl) (by kernel_rfl); exact mv uj (fin ui rfl)
             ·intro ud ue uf ug uh Q ui; have uj : ud 8 = ja := (uh 8 (by kernel_rfl)).trans gu; have uk : ud 63 = Value.bool (u6) := ug 5 63 (by kernel_rfl) (by kernel_rfl); exact gt 63 uk u9 (mv uj (fin ui (jd.mono (ji.le.trans (jx.trans (k9.le.trans (kk.trans (g5.trans (go.trans uf.le)))))))))
             ·intro ud ue uf ug uh Q ui; have uj : ud 11 = Value.int .i64 (ky) := (uh 11 (by kernel_rfl)).trans gx; have uk : ud 63 = Value.bool (u6) := ug 5 63 (by kernel_rfl) (by kernel_rfl); exact gt 63 uk u9 (mv uj (fin ui rfl))
             ·intro ud ue uf ug uh Q ui; have uj : ud 63 = Value.bool (u6) := ug 5 63 (by kernel_rfl) (by kernel_rfl); have uk : V _ (ud 64) (j8 : List Deed) := ug 6 64 (by kernel_rfl) (by kernel_rfl); obtain ⟨ul, um, un⟩ : ∃ v, _ = v ∧ V _ v _ := ⟨_, rfl, uk⟩; have uo : ud 65 = Value.int .i64 (ky) := ug 7 65 (by kernel_rfl) (by kernel_rfl); exact gt 63 uj u9 (L_index Try.underlying65 ty74.inf um un uo ub (by decide) (fun up uq => fin ui uq))
             ·intro ud ue uf ug uh Q ui; have uj : ud 63 = Value.bool (u6) := ug 5 63 (by kernel_rfl) (by kernel_rfl); have uk : Ptr _ (ud 66) (ua : Deed) := ug 8 66 (by kernel_rfl) (by kernel_rfl); obtain ⟨ul, um, un⟩ : ∃ v, _ = v ∧ Ptr _ v _ := ⟨_, rfl, uk⟩; exact gt 63 uj u9 (L_fieldAddr fld74_1 Deed.of_Peer um un (by decide) (fun uo up => fin ui up))
             ·intro ud ue uf ug uh Q ui; have uj : ud 63 = Value.bool (u6) := ug 5 63 (by kernel_rfl) (by kernel_rfl); have uk : Ptr _ (ud 67) (ua.Peer : Int) := ug 9 67 (by kernel_rfl) (by kernel_rfl); obtain ⟨ul, um, un⟩ : ∃ v, _ = v ∧ Ptr _ v _ := ⟨_, rfl, uk⟩; exact gt 63 uj u9 (li ty3 um un (fin ui rfl))
             ·intro ud ue uf ug uh Q ui; have uj : ud 1 = Value.int .i64 (a1) := (uh 1 (by kernel_rfl)).trans gq; have uk : ud 63 = Value.bool (u6) := ug 5 63 (by kernel_rfl) (by kernel_rfl); exact gt 63 uk u9 (mv uj (fin ui rfl))
             ·intro ud ue uf ug uh Q ui; have uj : ud 63 = Value.bool (u6) := ug 5 63 (by kernel_rfl) (by kernel_rfl); have uk : ud 68 = Value.int .i64 (ua.Peer) := ug 10 68 (by kernel_rfl) (by kernel_rfl); have ul : ud 69 = Value.int .i64 (a1) := ug 11 69 (by kernel_rfl) (by kernel_rfl); exact gt 63 uj u9 (L_eql uk ul (by decide) (fin ui rfl))
             ·intro ud ue uf ug uh Q ui; have uj : ud 63 = Value.bool (u6) := ug 5 63 (by kernel_rfl) (by kernel_rfl); have uk : ud 70 = Value.bool (decide (ua.Peer = a1)) := ug 12 70 (by kernel_rfl) (by kernel_rfl); exact pt uj u9 uk (fin ui rfl)
             ·intro ud ue uf ug uh Q ui; have uj : ud 71 = Value.bool (decide (ua.Peer = a1)) := ug 13 71 (by kernel_rfl) (by kernel_rfl); exact mv uj (fin ui rfl)
             ·intro ud ue uf ug uh Q ui; have uj : ud 72 = Value.bool (decide (ua.Peer = a1)) := ug 14 72 (by kernel_rfl) (by kernel_rfl); exact gf 72 uj uc (fin ui rfl)
             ·intro ud ue uf ug uh Q ui; have uj : ud 72 = Value.bool (decide (ua.Peer = a1)) := ug 14 72 (by kernel_rfl) (by kernel_rfl); exact gf 72 uj uc (fin ui rfl)
             ·intro ud ue uf ug uh Q ui; have uj : ud 72 = Value.bool (decide (ua.Peer = a1)) := ug 14 72 (by kernel_rfl) (by kernel_rfl); exact gf 72 uj uc (fin ui rfl)
             ·intro ud ue uf ug uh Q ui; have uj : ud 72 = Value.bool (decide (ua.Peer = a1)) := ug 14 72 (by kernel_rfl) (by kernel_rfl); exact gf 72 uj uc (fin ui rfl)
             ·intro ud ue uf ug uh Q ui; have uj : ud 72 = Value.bool (decide (ua.Peer = a1)) := ug 14 72 (by kernel_rfl) (by kernel_rfl); exact gf 72 uj uc (fin ui rfl)
             ·intro ud ue uf ug uh Q ui; have uj : ud 72 = Value.bool (decide (ua.Peer = a1)) := ug 14 72 (by kernel_rfl) (by kernel_rfl); exact gf 72 uj uc (fin ui rfl)
             ·intro ud ue uf ug uh Q ui; have uj : ud 72 = Value.bool (decide (ua.Peer = a1)) := ug 14 72 (by kernel_rfl) (by kernel_rfl); exact gf 72 uj uc (fin ui rfl)
             ·intro ud ue uf ug uh Q ui; have uj : ud 72 = Value.bool (decide (ua.Peer = a1)) := ug 14 72 (by kernel_rfl) (by kernel_rfl); exact gf 72 uj uc (fin ui rfl)
             ·intro ud ue uf ug uh Q ui; have uj : ud 72 = Value.bool (decide (ua.Peer = a1)) := ug 14 72 (by kernel_rfl) (by kernel_rfl); exact gf 72 uj uc (fin ui rfl)
             ·intro ud ue uf ug uh Q ui; have uj : ud 72 = Value.bool (decide (ua.Peer = a1)) := ug 14 72 (by kernel_rfl) (by kernel_rfl); exact pf uj uc (rfl : _ = Value.bool (false)) (fin ui rfl)
             ·intro ud ue uf ug uh Q ui; have uj : ud 82 = Value.bool (false) := ug 24 82 (by kernel_rfl) (by kernel_rfl); exact mv uj (fin ui rfl)
             ·intro ud ue uf ug uh Q ui; have uj : ud 83 = Value.bool (false) := ug 25 83 (by kernel_rfl) (by kernel_rfl); exact gf 83 uj rfl (fin ui rfl)
             ·intro ud ue uf ug uh Q ui; have uj : ud 83 = Value.bool (false) := ug 25 83 (by kernel_rfl) (by kernel_rfl); exact gf 83 uj rfl (fin ui rfl)
             ·intro ud ue uf ug uh Q ui; have uj : ud 83 = Value.bool (false) := ug 25 83 (by kernel_rfl) (by kernel_rfl); exact gf 83 uj rfl (fin ui rfl)
             ·intro ud ue uf ug uh Q ui; have uj : ud 83 = Value.bool (false) := ug 25 83 (by kernel_rfl) (by kernel_rfl); exact gf 83 uj rfl (fin ui rfl)
             ·intro ud ue uf ug uh Q ui; have uj : ud 83 = Value.bool (false) := ug 25 83 (by kernel_rfl) (by kernel_rfl); exact gf 83 uj rfl (fin ui rfl)
             ·intro ud ue uf ug uh Q ui; have uj : ud 83 = Value.bool (false) := ug 25 83 (by kernel_rfl) (by kernel_rfl); exact gf 83 uj rfl (fin ui rfl)
             ·intro ud ue uf ug uh Q ui; have uj : ud 83 = Value.bool (false) := ug 25 83 (by kernel_rfl) (by kernel_rfl); exact pf uj rfl (rfl : _ = Value.bool (false)) (fin ui rfl)
             ·intro ud ue uf ug uh; have ui := Tch.ext gn uf; have uj : ud 1 = Value.int .i64 (a1) := (uh 1 (by kernel_rfl)).trans gq; have uk : ud 2 = Value.int .i64 (a2) := (uh 2 (by kernel_rfl)).trans gr; have ul : ud 7 = j3 := (uh 7 (by kernel_rfl)).trans gs; have um : ud 8 = ja := (uh 8 (by kernel_rfl)).trans gu; have un : ud 9 = Value.slice (some ⟨jh, 0, none⟩) ((j1.length : Int)).toNat ((j1.length : Int)).toNat := (uh 9 (by kernel_rfl)).trans gv; have uo : ud 10 = Value.int .i64 (jq) := (uh 10 (by kernel_rfl)).trans gw; have up : ud 11 = Value.int .i64 (ky) := (uh 11 (by kernel_rfl)).trans gx; have uq : ud 90 = Value.bool (false) := ug 32 90 (by kernel_rfl); exact then_n ⟨ue, false, rfl, ui, uf.le, Option.some.inj hr, uq, uj, uk, ul, um, un, uo, up, (gy).ext uf⟩
           ·have hr := ite_f u9 hr
            refine W_draws mixed (by kernel_rfl) [PV.data (j8 : List Deed), PV.eq (Value.int .i64 (ky)), PV.ptr (u4 : Deed), PV.data (u4 : Deed), PV.eq (Value.bool (u6)), PV.eq (Value.bool (u6)), PV.eq (undef), PV.eq (undef), PV.eq (undef), PV.eq (undef), PV.eq (undef), PV.eq (undef), PV.eq (undef), PV.eq (Value.bool (false)), PV.eq (Value.bool (false)), PV.eq (undef), PV.eq (undef), PV.eq (undef), PV.eq (undef), PV.eq (undef), PV.eq (undef), PV.eq (undef), PV.eq (undef), PV.eq (undef), PV.eq (Value.bool (false)), PV.eq (Value.bool (false)), PV.eq (undef), PV.eq (undef), PV.eq (undef), PV.eq (undef), PV.eq (undef), PV.eq (undef), PV.eq (Value.bool (false))] (Steps_cons ?_ (Steps_cons ?_ (Steps_cons ?_ (Steps_cons ?_ (Steps_cons ?_ (Steps_cons ?_ (Steps_cons ?_ (Steps_cons ?_ (Steps_cons ?_ (Steps_cons ?_ (Steps_cons ?_ (Steps_cons ?_ (Steps_cons ?_ (Steps_cons ?_ (Steps_cons ?_ (Steps_cons ?_ (Steps_cons ?_ (Steps_cons ?_ (Steps_cons ?_ (Steps_cons ?_ (Steps_cons ?_ (Steps_cons ?_ (Steps_cons ?_ (Steps_cons ?_ (Steps_cons ?_ (Steps_cons ?_ (Steps_cons ?_ (Steps_cons ?_ (Steps_cons ?_ (Steps_cons ?_ (Steps_cons ?_ (Steps_cons ?_ (Steps_cons ?_ Steps_nil))))))))))))))))))))))))))))))))) ?_
            ·intro ua ub uc ud ue Q uf; have ug : ua 8 = ja := (ue 8 (by kernel_rfl)).trans gu; exact mv ug (fin uf (jd.mono (ji.le.trans (jx.trans (k9.le.trans (kk.trans (g5.trans (go.trans uc.le))))))))
            ·intro ua ub uc ud ue Q uf; have ug : ua 11 = Value.int .i64 (ky) := (ue 11 (by kernel_rfl)).trans gx; exact mv ug (fin uf rfl)
            ·intro ua ub uc ud ue Q uf; have ug : V _ (ua 58) (j8 : List Deed) := ud 0 58 (by kernel_rfl) (by kernel_rfl); obtain ⟨uh, ui, uj⟩ : ∃ v, _ = v ∧ V _ v _ := ⟨_, rfl, ug⟩; have uk : ua 59 = Value.int .i64 (ky) := ud 1 59 (by kernel_rfl) (by kernel_rfl); exact L_index Try.underlying65 ty74.inf ui uj uk u5 (by decide) (fun ul um => fin uf um)
            ·intro ua ub uc ud ue Q uf; have ug : Ptr _ (ua 60) (u4 : Deed) := ud 2 60 (by kernel_rfl) (by kernel_rfl); obtain ⟨uh, ui, uj⟩ : ∃ v, _ = v ∧ Ptr _ v _ := ⟨_, rfl, ug⟩; exact L_load ty74 ui uj (by decide) (fun uk ul => fin uf ul)
            ·intro ua ub uc ud ue Q uf; have ug : V _ (ua 61) (u4 : Deed) := ud 3 61 (by kernel_rfl) (by kernel_rfl); obtain ⟨uh, ui, uj⟩ : ∃ v, _ = v ∧ V _ v _ := ⟨_, rfl, ug⟩; refine L_calls cal43 (args1 ui) (ref08_receives_ok N _ _ _ uj u6 u7) (by decide) (fun uk ul um un => ?_); have uo := Tch.ext (Ext.refl ub) um; obtain rfl := un.bool; exact L_nil (uf _ _ uo rfl)
            ·intro ua ub uc ud ue Q uf; have ug : ua 62 = Value.bool (u6) := ud 4 62 (by kernel_rfl) (by kernel_rfl); exact mv ug (fin uf rfl)
            ·intro ua ub uc ud ue Q uf; have ug : ua 63 = Value.bool (u6) := ud 5 63 (by kernel_rfl) (by kernel_rfl); exact gf 63 ug u9 (fin uf rfl)
            ·intro ua ub uc ud ue Q uf; have ug : ua 63 = Value.bool (u6) := ud 5 63 (by kernel_rfl) (by kernel_rfl); exact gf 63 ug u9 (fin uf rfl)
            ·intro ua ub uc ud ue Q uf; have ug : ua 63 = Value.bool (u6) := ud 5 63 (by kernel_rfl) (by kernel_rfl); exact gf 63 ug u9 (fin uf rfl)
            ·intro ua ub uc ud ue Q uf; have ug : ua 63 = Value.bool (u6) := ud 5 63 (by kernel_rfl) (by kernel_rfl); exact gf 63 ug u9 (fin uf rfl)
            ·intro ua ub uc ud ue Q uf; have ug : ua 63 = Value.bool (u6) := ud 5 63 (by kernel_rfl) (by kernel_rfl); exact gf 63 ug u9 (fin uf rfl)
            ·intro ua ub uc ud ue Q uf; have ug : ua 63 = Value.bool (u6) := ud 5 63 (by kernel_rfl) (by kernel_rfl); exact gf 63 ug u9 (fin uf rfl)
            ·intro ua ub uc ud ue Q uf; have ug : ua 63 = Value.bool (u6) := ud 5 63 (by kernel_rfl) (by kernel_rfl); exact gf 63 ug u9 (fin uf rfl)
            ·intro ua ub uc ud ue Q uf; have ug : ua 63 = Value.bool (u6) := ud 5 63 (by kernel_rfl) (by kernel_rfl); exact pf ug u9 (rfl : _ = Value.bool (false)) (fin uf rfl)
            ·intro ua ub uc ud ue Q uf; have ug : ua 71 = Value.bool (false) := ud 13 71 (by kernel_rfl) (by kernel_rfl); exact mv ug (fin uf rfl)
            ·intro ua ub uc ud ue Q uf; have ug : ua 72 = Value.bool (false) := ud 14 72 (by kernel_rfl) (by kernel_rfl); exact gf 72 ug rfl (fin uf rfl)
            ·intro ua ub uc ud ue Q uf; have ug : ua 72 = Value.bool (false) := ud 14 72 (by kernel_rfl) (by kernel_rfl); exact gf 72 ug rfl (fin uf rfl)
            ·intro ua ub uc ud ue Q uf; have ug : ua 72 = Value.bool (false) := ud 14 72 (by kernel_rfl) (by kernel_rfl); exact gf 72 ug rfl (fin uf rfl)
            ·intro ua ub uc ud ue Q uf; have ug : ua 72 = Value.bool (false) := ud 14 72 (by kernel_rfl) (by kernel_rfl); exact gf 72 ug rfl (fin uf rfl)
            ·intro ua ub uc ud ue Q uf; have ug : ua 72 = Value.bool (false) := ud 14 72 (by kernel_rfl) (by kernel_rfl); exact gf 72 ug rfl (fin uf rfl)
            ·intro ua ub uc ud ue Q uf; have ug : ua 72 = Value.bool (false) := ud 14 72 (by kernel_rfl) (by kernel_rfl); exact gf 72 ug rfl (fin uf rfl)
            ·intro ua ub uc ud ue Q uf; have ug : ua 72 = Value.bool (false) := ud 14 72 (by kernel_rfl) (by kernel_rfl); exact gf 72 ug rfl (fin uf rfl)
            ·intro ua ub uc ud ue Q uf; have ug : ua 72 = Value.bool (false) := ud 14 72 (by kernel_rfl) (by kernel_rfl); exact gf 72 ug rfl (fin uf rfl)
            ·intro ua ub uc ud ue Q uf; have ug : ua 72 = Value.bool (false) := ud 14 72 (by kernel_rfl) (by kernel_rfl); exact gf 72 ug rfl (fin uf rfl)
            ·intro ua ub uc ud ue Q uf; have ug : ua 72 = Value.bool (false) := ud 14 72 (by kernel_rfl) (by kernel_rfl); exact pf ug rfl (rfl : _ = Value.bool (false)) (fin uf rfl)
            ·intro ua ub uc ud ue Q uf; have ug : ua 82 = Value.bool (false) := ud 24 82 (by kernel_rfl) (by kernel_rfl); exact mv ug (fin uf rfl)
            ·intro ua ub uc ud ue Q uf; have ug : ua 83 = Value.bool (false) := ud 25 83 (by kernel_rfl) (by kernel_rfl); exact gf 83 ug rfl (fin uf rfl)
            ·intro ua ub uc ud ue Q uf; have ug : ua 83 = Value.bool (false) := ud 25 83 (by kernel_rfl) (by kernel_rfl); exact gf 83 ug rfl (fin uf rfl)
            ·intro ua ub uc ud ue Q uf; have ug : ua 83 = Value.bool (false) := ud 25 83 (by kernel_rfl) (by kernel_rfl); exact gf 83 ug rfl (fin uf rfl)
            ·intro ua ub uc ud ue Q uf; have ug : ua 83 = Value.bool (false) := ud 25 83 (by kernel_rfl) (by kernel_rfl); exact gf 83 ug rfl (fin uf rfl)
            ·intro ua ub uc ud ue Q uf; have ug : ua 83 = Value.bool (false) := ud 25 83 (by kernel_rfl) (by kernel_rfl); exact gf 83 ug rfl (fin uf rfl)
            ·intro ua ub uc ud ue Q uf; have ug : ua 83 = Value.bool (false) := ud 25 83 (by kernel_rfl) (by kernel_rfl); exact gf 83 ug rfl (fin uf rfl)
            ·intro ua ub uc ud ue Q uf; have ug : ua 83 = Value.bool (false) := ud 25 83 (by kernel_rfl) (by kernel_rfl); exact pf ug rfl (rfl : _ = Value.bool (false)) (fin uf rfl)
            ·intro ua ub uc ud ue; have uf := Tch.ext gn uc; have ug : ua 1 = Value.int .i64 (a1) := (ue 1 (by kernel_rfl)).trans gq; have uh : ua 2 = Value.int .i64 (a2) := (ue 2 (by kernel_rfl)).trans gr; have ui : ua 7 = j3 := (ue 7 (by kernel_rfl)).trans gs; have uj : ua 8 = ja := (ue 8 (by kernel_rfl)).trans gu; have uk : ua 9 = Value.slice (some ⟨jh, 0, none⟩) ((j1.length : Int)).toNat ((j1.length : Int)).toNat := (ue 9 (by kernel_rfl)).trans gv; have ul : ua 10 = Value.int .i64 (jq) := (ue 10 (by kernel_rfl)).trans gw; have um : ua 11 = Value.int .i64 (ky) := (ue 11 (by kernel_rfl)).trans gx; have un : ua 90 = Value.bool (false) := ud 32 90 (by kernel_rfl); exact then_n ⟨ub, false, rfl, uf, uc.le, Option.some.inj hr, un, ug, uh, ui, uj, uk, ul, um, (gy).ext uc⟩
          ·rintro u4 u5 ⟨u6, u3, rfl, u7, u9, u1, ua, ub, uc, ud, ue, uf, ug, uh, ui⟩
           subst u1
           have hr := u2
           try dsimp only at hr
           refine W_cond _ ua (fun uj => ?_) (fun uj => ?_)
           ·have hr := ite_t uj hr; refine W_region (mv uf (mv ug (mv uh ?_))); obtain ⟨uk, ul, hr⟩ := bind_some hr; refine L_indexA (sz := 1) Try.underlying23 ty3.inf (rfl : _ = Value.slice (some ⟨jh, 0, none⟩) ((j1.length : Int)).toNat ((j1.length : Int)).toNat) (rfl : _ = Value.int .i64 (jq)) (idx_some ul).1 (by have := (idx_some ul).2.1; have := (ui).1; omega) (by decide) (L_storeA (xs := kz) ty3 (rfl : _ = Value.pointer (some ⟨jh, (jq).toNat * 1, none⟩)) (rfl : _ = Value.int .i64 (ky)) Vint (ui) ul (fun um un uo => ?_)); have up := Tch.trans u7 un (fun k hk => Or.inr (by subst hk; exact (Nat.le_trans je.size jj))); refine L_nil (block_n (then_n (W_region (mv uh ?_)))); obtain ⟨uq, hr⟩ := chk_some hr; exact L_add (rfl : _ = Value.int .i64 (ky)) (rfl : _ = Value.int .i64 (1)) uq (by decide) (asg (rfl : _ = Value.int .i64 (ky + 1)) (nn ⟨g0, Nat.lt_succ_self _, ⟨um, (ky + 1), (kz.set (jq).toNat ky), rfl, up, (g5.trans (go.trans (u9.trans un.le))), hr, rfl, ub, uc, ud, ue, uf, ug, uo⟩⟩))
           ·have hr := ite_f uj hr; refine W_skip (block_n (then_n (W_region (mv uh ?_)))); obtain ⟨uk, hr⟩ := chk_some hr; exact L_add (rfl : _ = Value.int .i64 (ky)) (rfl : _ = Value.int .i64 (1)) uk (by decide) (asg (rfl : _ = Value.int .i64 (ky + 1)) (nn ⟨g0, Nat.lt_succ_self _, ⟨u6, (ky + 1), kz, rfl, u7, (g5.trans (go.trans u9)), hr, rfl, ub, uc, ud, ue, uf, ug, ui⟩⟩))
         ·have hr := ite_f gz hr; refine W_exit (then_x (then_x (block_here ?_))); exact then_n ⟨gm, kz, rfl, gn, (g5.trans go), Option.some.inj hr, gq, gr, gs, gu, gv, gw, gy⟩
      ·rintro ky kz ⟨g0, kx, rfl, g1, g2, kv, g3, g4, g5, g6, g7, g8, g9⟩; subst kv; have hr := kw; (try dsimp only at hr); refine block_n (then_n (W_region (mv g8 ?_))); obtain ⟨ga, hr⟩ := chk_some hr; exact L_add (rfl : _ = Value.int .i64 (jq)) (rfl : _ = Value.int .i64 (1)) ga (by decide) (asg (rfl : _ = Value.int .i64 (jq + 1)) (nn ⟨js, Nat.lt_succ_self _, ⟨g0, (jq + 1), kx, rfl, g1, (jx.trans (k9.le.trans (kk.trans g2))), hr, rfl, g3, g4, g5, g6, g7, g9⟩⟩))
   ·have hr := ite_f k5 hr; refine W_exit (then_x (then_x (block_here ?_))); exact then_n ⟨jv, jr, rfl, jw, jx, Option.some.inj hr, k3, k4⟩
 ·rintro jq jr ⟨js, jp, rfl, jt, ju, jn, jv, jw⟩; subst jn; have hr := jo; (try dsimp only at hr); refine then_n (sr (mv jv (asg (rfl : _ = Value.slice (some ⟨jh, 0, none⟩) ((j1.length : Int)).toNat ((j1.length : Int)).toNat) (nn (W_ret ?_))))); obtain rfl := Option.some.inj hr; obtain ⟨jx, jy, jz, k0⟩ := (jw).freeze; have k1 := Tch.trans jt jz (fun k hk => Or.inr (by subst hk; exact (Nat.le_trans je.size jj))); exact done1 (Or.inl rfl) Try.results83 rfl ⟨_, _, rfl, jy, k1, k0⟩

theorem ref08_Case_taken_ok (N : Nat) (s0 : St) (w0 : Value) (a0 : Case) (h0 : Ptr s0 w0 a0) (a1 : Int) (a2 : Int) (r : Bool) (hr : ref08_Case_taken N a0 a1 a2 = some r) :
    Calls Try.prog 67 #[w0, .int .i64 a1, .int .i64 a2] s0.w (Ret s0 fun v s => V s v r) := by
 unfold ref08_Case_taken at hr
 have j0 := Ext.refl s0
 refine Calls_of (n := 81) (args := [w0, .int .i64 a1, .int .i64 a2]) Try.func67 rfl rfl (by simp) (sr (asg (rfl : _ = Value.bool (false)) (nn (sr (mv (rfl : _ = w0) (L_nilCheck_ptr (rfl : _ = w0) h0 (by decide) (L_fieldAddr fld79_0 Case.of_C (rfl : _ = w0) h0 (by decide) (fun j1 j2 => L_load ty22 (rfl : _ = j1) j2 (by decide) (fun j3 j4 => mv (rfl : _ = Value.int .i64 (a1)) ?_)))))))))
 obtain ⟨j5, j6, hr⟩ := bind_some hr
 refine L_index Try.underlying22 ty65.inf (rfl : _ = j3) j4 (rfl : _ = Value.int .i64 (a1)) j6 (by decide) (fun j7 j8 => L_load ty65 (rfl : _ = j7) j8 (by decide) (fun j9 ja => mv (rfl : _ = Value.int .i64 (a2)) ?_))
 obtain ⟨jb, jc, hr⟩ := bind_some hr
 refine L_index Try.underlying65 ty74.inf (rfl : _ = j9) ja (rfl : _ = Value.int .i64 (a2)) jc (by decide) (fun jd je => L_load ty74 (rfl : _ = jd) je (by decide) (fun jf jg => L_alloc (α := Deed) (x := ⟨0, 0, 0, 0, false⟩) zero74 Deed.zero_rel (by decide) (fun jh ji jj jk jl => ?_)))
 have jm := Tch.ext j0 jj
 refine L_store_ro ty74 (rfl : _ = Value.pointer (some ⟨ji, 0, none⟩)) (rfl : _ = jf) (jg.mono jj.le) (jl) (fun jn jo jp => ?_)
 have jq := Tch.trans jm jo (fun k hk => Or.inr (by subst hk; exact (Nat.le_trans j0.size jk)))
 refine nn (sr (mv (rfl : _ = w0) (mv (rfl : _ = Value.int .i64 (a1)) (L_fieldAddr fld74_1 Deed.of_Peer (rfl : _ = Value.pointer (some ⟨ji, 0, none⟩)) jp (by decide) (fun jr js => li ty3 (rfl : _ = jr) js ?_)))))
 obtain ⟨jt, ju, hr⟩ := bind_some hr
 refine L_calls cal83 (args3 (rfl : _ = w0) (rfl : _ = Value.int .i64 (a1)) (rfl : _ = Value.int .i64 (jb.Peer))) (ref08_Case_partners_ok N _ _ _ (h0.mono (jj.le.trans jo.le)) a1 jb.Peer jt ju) (by decide) (fun jv jw jx jy => ?_)
 have jz := Tch.ext jq jx
 refine asg (rfl : _ = jv) (nn (W_seq (sr (mv (rfl : _ = jv) (mv (rfl : _ = Value.int .i64 (a2)) ?_)))))
 obtain ⟨k0, k1, hr⟩ := bind_some hr
 refine L_index Try.underlying23 ty3.inf (rfl : _ = jv) jy (rfl : _ = Value.int .i64 (a2)) k1 (by decide) (fun k2 k3 => li ty3 (rfl : _ = k2) k3 (L_geq (rfl : _ = Value.int .i64 (k0)) (rfl : _ = Value.int .i64 (0)) (by decide) (nn ?_)))
 refine W_cond _ (rfl : _ = Value.bool (decide (0 ≤ k0))) (fun k4 => ?_) (fun k4 => ?_)
 ·have hr := ite_t k4 hr; refine sr (asg (rfl : _ = Value.bool (true)) (nn (W_ret (then_r ?_)))); obtain rfl := Option.some.inj hr; exact done1 (Or.inl rfl) Try.results67 rfl ⟨_, _, rfl, rfl, jz, Vbool⟩
 ·have hr := ite_f k4 hr
  refine W_skip (then_n (sr (asg (rfl : _ = Value.int .i64 (0)) (nn (W_seq (sr (asg (rfl : _ = Value.int .i64 (0)) (nn ?_))))))))
  obtain ⟨k5, k6, k7⟩ := bind_some hr
  refine W_cut (fun f w => ∃ (s : St) (k8 : Int), s.w = w ∧ Ext s0 s ∧ Le jw s ∧ k8 = k5 ∧ f 9 = Value.int .i64 k8 ∧ f 0 = w0 ∧ f 7 = Value.pointer (some ⟨ji, 0, none⟩)) ?_ ?_
  ·refine W_block (W_loop (fun m f w => ∃ (s : St) (k9 : Int) (ka : Int), s.w = w ∧ Ext s0 s ∧ Le jw s ∧ ref08_Case_taken_l1 N a0 a1 a2 jb jt m k9 ka = some k5 ∧ f 9 = Value.int .i64 k9 ∧ f 10 = Value.int .i64 ka ∧ f 0 = w0 ∧ f 1 = Value.int .i64 (a1) ∧ f 2 = Value.int .i64 (a2) ∧ f 7 = Value.pointer (some ⟨ji, 0, none⟩) ∧ f 8 = jv) N ⟨jw, 0, 0, rfl, jz, (Le.refl _), k6, rfl, rfl, rfl, rfl, rfl, rfl, rfl⟩ ?_)
   rintro kb kc kd ⟨ke, k9, ka, rfl, kf, kg, hr, kh, ki, kj, kk, kl, km, kn⟩
   cases kb with
   | zero => exact absurd hr (by simp [ref08_Case_taken_l1])
   | succ kb =>
    rw [ref08_Case_taken_l1.eq_2] at hr
    refine W_seq (sr (mv ki (mv kl (L_lss (rfl : _ = Value.int .i64 (ka)) (rfl : _ = Value.int .i64 (a2)) (by decide) (nn ?_)))))
    refine W_cond _ (rfl : _ = Value.bool (decide (ka < a2))) (fun ko => ?_) (fun ko => ?_)
    ·have hr := ite_t ko hr
     refine W_skip (then_n (W_seq (W_block (sr (mv kj (L_nilCheck_ptr (rfl : _ = w0) (h0.mono (jj.le.trans (jo.le.trans (jx.le.trans kg)))) (by decide) (L_fieldAddr fld79_0 Case.of_C (rfl : _ = w0) (h0.mono (jj.le.trans (jo.le.trans (jx.le.trans kg)))) (by decide) (fun kp kq => L_load ty22 (rfl : _ = kp) kq (by decide) (fun kr ks => mv kk ?_)))))))))
     obtain ⟨kt, ku, hr⟩ := bind_some hr
     refine L_index Try.underlying22 ty65.inf (rfl : _ = kr) ks (rfl : _ = Value.int .i64 (a1)) ku (by decide) (fun kv kw => L_load ty65 (rfl : _ = kv) kw (by decide) (fun kx ky => mv ki ?_))
     obtain ⟨kz, g0, hr⟩ := bind_some hr
     refine L_index Try.underlying65 ty74.inf (rfl : _ = kx) ky (rfl : _ = Value.int .i64 (ka)) g0 (by decide) (fun g1 g2 => L_load ty74 (rfl : _ = g1) g2 (by decide) (fun g3 g4 => L_alloc (α := Deed) (x := ⟨0, 0, 0, 0, false⟩) zero74 Deed.zero_rel (by decide) (fun g5 g6 g7 g8 g9 => ?_)))
     have ga := Tch.ext kf g7
     refine L_store_ro ty74 (rfl : _ = Value.pointer (some ⟨g6, 0, none⟩)) (rfl : _ = g3) (g4.mono g7.le) (g9) (fun gb gc gd => ?_)
     have gg := Tch.trans ga gc (fun k hk => Or.inr (by subst hk; exact (Nat.le_trans kf.size g8)))
     refine nn ?_
     obtain ⟨gh, gi, gj⟩ := bind_some hr
     refine W_seq_cut (fun f w => ∃ (s : St) (gk : Bool), s.w = w ∧ Ext s0 s ∧ Le gb s ∧ gk = gh ∧ f 67 = Value.bool gk ∧ f 0 = w0 ∧ f 1 = Value.int .i64 (a1) ∧ f 2 = Value.int .i64 (a2) ∧ f 7 = Value.pointer (some ⟨ji, 0, none⟩) ∧ f 8 = jv ∧ f 9 = Value.int .i64 (k9) ∧ f 10 = Value.int .i64 (ka)) ?_ ?_
     ·have hr := gi
      refine W_region (L_load ty74 (rfl : _ = Value.pointer (some ⟨g6, 0, none⟩)) gd (by decide) (fun gl gm => ?_))
      obtain ⟨gn, go, hr⟩ := bind_some hr
      refine L_calls cal44 (args1 (rfl : _ = gl)) (ref08_sends_ok N _ _ _ gm gn go) (by decide) (fun gp gq gr gs => ?_)
      have gu := Tch.ext gg gr
      obtain rfl := gs.bool
      refine mv (rfl : _ = Value.bool (gn)) ?_
      rcases Bool.eq_false_or_eq_true (gn) with gv | gv
      ·have hr := ite_t gv hr
       refine gt 49 (rfl : _ = Value.bool (gn)) gv (L_fieldAddr fld74_1 Deed.of_Peer (rfl : _ = Value.pointer (some ⟨g6, 0, none⟩)) (gd.mono gr.le) (by decide) (fun gw gx => gt 49 (rfl : _ = Value.bool (gn)) gv (li ty3 (rfl : _ = gw) gx (gt 49 (rfl : _ = Value.bool (gn)) gv (L_fieldAddr fld74_1 Deed.of_Peer km (jp.mono (jx.le.trans (kg.trans (g7.le.trans (gc.le.trans gr.le))))) (by decide) (fun gy gz => gt 49 (rfl : _ = Value.bool (gn)) gv (li ty3 (rfl : _ = gy) gz (gt 49 (rfl : _ = Value.bool (gn)) gv (L_eql (rfl : _ = Value.int .i64 (kz.Peer)) (rfl : _ = Value.int .i64 (jb.Peer)) (by decide) (pt (rfl : _ = Value.bool (gn)) gv (rfl : _ = Value.bool (decide (kz.Peer = jb.Peer))) (mv (rfl : _ = Value.bool (decide (kz.Peer = jb.Peer))) ?_)))))))))))
       rcases Bool.eq_false_or_eq_true (decide (kz.Peer = jb.Peer)) with u0 | u0
       ·have hr := ite_t u0 hr
        refine gt 56 (rfl : _ = Value.bool (decide (kz.Peer = jb.Peer))) u0 (L_fieldAddr fld74_4 Deed.of_Sync (rfl : _ = Value.pointer (some ⟨g6, 0, none⟩)) (gd.mono gr.le) (by decide) (fun u1 u2 => gt 56 (rfl : _ = Value.bool (decide (kz.Peer = jb.Peer))) u0 (L_load_bool ty4 (rfl : _ = u1) u2 (by decide) (gt 56 (rfl : _ = Value.bool (decide (kz.Peer = jb.Peer))) u0 (L_not (rfl : _ = Value.bool (kz.Sync)) (by decide) (pt (rfl : _ = Value.bool (decide (kz.Peer = jb.Peer))) u0 (rfl : _ = Value.bool (!kz.Sync)) (mv (rfl : _ = Value.bool (!kz.Sync)) ?_)))))))
        rcases Bool.eq_false_or_eq_true (!kz.Sync) with u3 | u3
        ·have hr := ite_t u3 hr; refine gt 61 (rfl : _ = Value.bool (!kz.Sync)) u3 (mv kn (gt 61 (rfl : _ = Value.bool (!kz.Sync)) u3 (mv ki (gt 61 (rfl : _ = Value.bool (!kz.Sync)) u3 ?_)))); obtain ⟨u4, u5, hr⟩ := bind_some hr; exact L_index Try.underlying23 ty3.inf (rfl : _ = jv) (jy.mono (kg.trans (g7.le.trans (gc.le.trans gr.le)))) (rfl : _ = Value.int .i64 (ka)) u5 (by decide) (fun u6 u7 => gt 61 (rfl : _ = Value.bool (!kz.Sync)) u3 (li ty3 (rfl : _ = u6) u7 (gt 61 (rfl : _ = Value.bool (!kz.Sync)) u3 (L_lss (rfl : _ = Value.int .i64 (u4)) (rfl : _ = Value.int .i64 (0)) (by decide) (pt (rfl : _ = Value.bool (!kz.Sync)) u3 (rfl : _ = Value.bool (decide (u4 < 0))) (nn ⟨gq, (decide (u4 < 0)), rfl, gu, gr.le, Option.some.inj hr, rfl, kj, kk, kl, km, kn, kh, ki⟩))))))
        ·have hr := ite_f u3 hr; exact gf 61 (rfl : _ = Value.bool (!kz.Sync)) u3 (gf 61 (rfl : _ = Value.bool (!kz.Sync)) u3 (gf 61 (rfl : _ = Value.bool (!kz.Sync)) u3 (gf 61 (rfl : _ = Value.bool (!kz.Sync)) u3 (gf 61 (rfl : _ = Value.bool (!kz.Sync)) u3 (pf (rfl : _ = Value.bool (!kz.Sync)) u3 (rfl : _ = Value.bool (false)) (nn ⟨gq, false, rfl, gu, gr.le, Option.some.inj hr, rfl, kj, kk, kl, km, kn, kh, ki⟩))))))
       ·have hr := ite_f u0 hr; exact gf 56 (rfl : _ = Value.bool (decide (kz.Peer = jb.Peer))) u0 (gf 56 (rfl : _ = Value.bool (decide (kz.Peer = jb.Peer))) u0 (gf 56 (rfl : _ = Value.bool (decide (kz.Peer = jb.Peer))) u0 (pf (rfl : _ = Value.bool (decide (kz.Peer = jb.Peer))) u0 (rfl : _ = Value.bool (false)) (mv (rfl : _ = Value.bool (false)) (gf 61 (rfl : _ = Value.bool (false)) rfl (gf 61 (rfl : _ = Value.bool (false)) rfl (gf 61 (rfl : _ = Value.bool (false)) rfl (gf 61 (rfl : _ = Value.bool (false)) rfl (gf 61 (rfl : _ = Value.bool (false)) rfl (pf (rfl : _ = Value.bool (false)) rfl (rfl : _ = Value.bool (false)) (nn ⟨gq, false, rfl, gu, gr.le, Option.some.inj hr, rfl, kj, kk, kl, km, kn, kh, ki⟩)))))))))))
      ·have hr := ite_f gv hr; refine gf 49 (rfl : _ = Value.bool (gn)) gv (gf 49 (rfl : _ = Value.bool (gn)) gv (gf 49 (rfl : _ = Value.bool (gn)) gv (gf 49 (rfl : _ = Value.bool (gn)) gv (gf 49 (rfl : _ = Value.bool (gn)) gv (pf (rfl : _ = Value.bool (gn)) gv (rfl : _ = Value.bool (false)) (mv (rfl : _ = Value.bool (false)) (gf 56 (rfl : _ = Value.bool (false)) rfl (gf 56 (rfl : _ = Value.bool (false)) rfl (gf 56 (rfl : _ = Value.bool (false)) rfl (pf (rfl : _ = Value.bool (false)) rfl (rfl : _ = Value.bool (false)) (mv (rfl : _ = Value.bool (false)) (gf 61 (rfl : _ = Value.bool (false)) rfl (gf 61 (rfl : _ = Value.bool (false)) rfl ?_))))))))))))); exact gf 61 (rfl : _ = Value.bool (false)) rfl (gf 61 (rfl : _ = Value.bool (false)) rfl (gf 61 (rfl : _ = Value.bool (false)) rfl (pf (rfl : _ = Value.bool (false)) rfl (rfl : _ = Value.bool (false)) (nn ⟨gq, false, rfl, gu, gr.le, Option.some.inj hr, rfl, kj, kk, kl, km, kn, kh, ki⟩))))
     ·rintro gl gm ⟨gn, gk, rfl, go, gp, gi, gq, gr, gs, gu, gv, gw, gx, gy⟩
      subst gi
      have hr := gj
      try dsimp only at hr
      refine W_cond _ gq (fun gz => ?_) (fun gz => ?_)
      ·have hr := ite_t gz hr; refine W_region (mv gx ?_); obtain ⟨u0, hr⟩ := chk_some hr; refine L_add (rfl : _ = Value.int .i64 (k9)) (rfl : _ = Value.int .i64 (1)) u0 (by decide) (asg (rfl : _ = Value.int .i64 (k9 + 1)) (L_nil (block_n (then_n (W_region (mv gy ?_)))))); obtain ⟨u1, hr⟩ := chk_some hr; exact L_add (rfl : _ = Value.int .i64 (ka)) (rfl : _ = Value.int .i64 (1)) u1 (by decide) (asg (rfl : _ = Value.int .i64 (ka + 1)) (nn ⟨kb, Nat.lt_succ_self _, ⟨gn, (k9 + 1), (ka + 1), rfl, go, (kg.trans (g7.le.trans (gc.le.trans gp))), hr, rfl, rfl, gr, gs, gu, gv, gw⟩⟩))
      ·have hr := ite_f gz hr; refine W_skip (block_n (then_n (W_region (mv gy ?_)))); obtain ⟨u0, hr⟩ := chk_some hr; exact L_add (rfl : _ = Value.int .i64 (ka)) (rfl : _ = Value.int .i64 (1)) u0 (by decide) (asg (rfl : _ = Value.int .i64 (ka + 1)) (nn ⟨kb, Nat.lt_succ_self _, ⟨gn, k9, (ka + 1), rfl, go, (kg.trans (g7.le.trans (gc.le.trans gp))), hr, gx, rfl, gr, gs, gu, gv, gw⟩⟩))
    ·have hr := ite_f ko hr; refine W_exit (then_x (then_x (block_here ?_))); exact then_n ⟨ke, k9, rfl, kf, kg, Option.some.inj hr, kh, kj, km⟩
  ·rintro k9 ka ⟨kb, k8, rfl, kc, kd, k6, ke, kf, kg⟩
   subst k6
   have hr := k7
   try dsimp only at hr
   refine then_n (sr (L_fieldAddr fld74_4 Deed.of_Sync kg (jp.mono (jx.le.trans kd)) (by decide) (fun kh ki => L_load_bool ty4 (rfl : _ = kh) ki (by decide) (L_not (rfl : _ = Value.bool (jb.Sync)) (by decide) (mv (rfl : _ = Value.bool (!jb.Sync)) ?_)))))
   rcases Bool.eq_false_or_eq_true (!jb.Sync) with kj | kj
   ·have hr := ite_t kj hr; refine gt 73 (rfl : _ = Value.bool (!jb.Sync)) kj (mv ke (gt 73 (rfl : _ = Value.bool (!jb.Sync)) kj (mv kf (gt 73 (rfl : _ = Value.bool (!jb.Sync)) kj (L_nilCheck_ptr (rfl : _ = w0) (h0.mono (jj.le.trans (jo.le.trans (jx.le.trans kd)))) (by decide) (gt 73 (rfl : _ = Value.bool (!jb.Sync)) kj (L_fieldAddr fld79_1 Case.of_Room (rfl : _ = w0) (h0.mono (jj.le.trans (jo.le.trans (jx.le.trans kd)))) (by decide) (fun kk kl => gt 73 (rfl : _ = Value.bool (!jb.Sync)) kj (li ty3 (rfl : _ = kk) kl (gt 73 (rfl : _ = Value.bool (!jb.Sync)) kj (L_lss (rfl : _ = Value.int .i64 (k8)) (rfl : _ = Value.int .i64 (a0.Room)) (by decide) (pt (rfl : _ = Value.bool (!jb.Sync)) kj (rfl : _ = Value.bool (decide (k8 < a0.Room))) (asg (rfl : _ = Value.bool (decide (k8 < a0.Room))) ?_))))))))))))); refine nn (W_ret ?_); obtain rfl := Option.some.inj hr; exact done1 (Or.inl rfl) Try.results67 rfl ⟨_, _, rfl, rfl, kc, Vbool⟩
   ·have hr := ite_f kj hr; refine gf 73 (rfl : _ = Value.bool (!jb.Sync)) kj (gf 73 (rfl : _ = Value.bool (!jb.Sync)) kj (gf 73 (rfl : _ = Value.bool (!jb.Sync)) kj (gf 73 (rfl : _ = Value.bool (!jb.Sync)) kj (gf 73 (rfl : _ = Value.bool (!jb.Sync)) kj (gf 73 (rfl : _ = Value.bool (!jb.Sync)) kj (pf (rfl : _ = Value.bool (!jb.Sync)) kj (rfl : _ = Value.bool (false)) (asg (rfl : _ = Value.bool (false)) (nn (W_ret ?_))))))))); obtain rfl := Option.some.inj hr; exact done1 (Or.inl rfl) Try.results67 rfl ⟨_, _, rfl, rfl, kc, Vbool⟩

theorem ref08_Case_received_ok (N : Nat) (s0 : St) (w0 : Value) (a0 : Case) (h0 : Ptr s0 w0 a0) (a1 : Int) (a2 : Int) (r : Bool) (hr : ref08_Case_received N a0 a1 a2 = some r) :
    Calls Try.prog 68 #[w0, .int .i64 a1, .int .i64 a2] s0.w (Ret s0 fun v s => V s v r) := by
 unfold ref08_Case_received at hr
 have j0 := Ext.refl s0
 refine Calls_of (n := 24) (args := [w0, .int .i64 a1, .int .i64 a2]) Try.func68 rfl rfl (by simp) (sr (asg (rfl : _ = Value.bool (false)) (nn (sr (mv (rfl : _ = w0) (mv (rfl : _ = w0) (L_nilCheck_ptr (rfl : _ = w0) h0 (by decide) (L_fieldAddr fld79_0 Case.of_C (rfl : _ = w0) h0 (by decide) (fun j1 j2 => L_load ty22 (rfl : _ = j1) j2 (by decide) (fun j3 j4 => mv (rfl : _ = Value.int .i64 (a1)) ?_))))))))))
 obtain ⟨j5, j6, hr⟩ := bind_some hr
 refine L_index Try.underlying22 ty65.inf (rfl : _ = j3) j4 (rfl : _ = Value.int .i64 (a1)) j6 (by decide) (fun j7 j8 => L_load ty65 (rfl : _ = j7) j8 (by decide) (fun j9 ja => mv (rfl : _ = Value.int .i64 (a2)) ?_))
 obtain ⟨jb, jc, hr⟩ := bind_some hr
 refine L_index Try.underlying65 ty74.inf (rfl : _ = j9) ja (rfl : _ = Value.int .i64 (a2)) jc (by decide) (fun jd je => L_fieldAddr fld74_1 Deed.of_Peer (rfl : _ = jd) je (by decide) (fun jf jg => li ty3 (rfl : _ = jf) jg (mv (rfl : _ = Value.int .i64 (a1)) ?_)))
 obtain ⟨jh, ji, hr⟩ := bind_some hr
 refine L_calls cal83 (args3 (rfl : _ = w0) (rfl : _ = Value.int .i64 (jb.Peer)) (rfl : _ = Value.int .i64 (a1))) (ref08_Case_partners_ok N _ _ _ h0 jb.Peer a1 jh ji) (by decide) (fun jj jk jl jm => ?_)
 have jn := Tch.ext j0 jl
 refine mv (rfl : _ = Value.int .i64 (a2)) ?_
 obtain ⟨jo, jp, hr⟩ := bind_some hr
 refine L_calls cal46 (args2 (rfl : _ = jj) (rfl : _ = Value.int .i64 (a2))) (ref02_Index_ok N _ _ _ jm a2 jo jp) (by decide) (fun jq jr js jt => ?_)
 have ju := Tch.ext jn js
 obtain rfl := jt.int
 refine L_geq (rfl : _ = Value.int .i64 (jo)) (rfl : _ = Value.int .i64 (0)) (by decide) (asg (rfl : _ = Value.bool (decide (0 ≤ jo))) (nn (W_ret ?_)))
 obtain rfl := Option.some.inj hr
 exact done1 (Or.inl rfl) Try.results68 rfl ⟨_, _, rfl, rfl, ju, Vbool⟩

theorem ref08_Case_meets_ok (N : Nat) (s0 : St) (w0 : Value) (a0 : Case) (h0 : Ptr s0 w0 a0) (a1 : Int) (r : Int) (hr : ref08_Case_meets N a0 a1 = some r) :
    Calls Try.prog 69 #[w0, .int .i64 a1] s0.w (Ret s0 fun v s => V s v r) := by
 unfold ref08_Case_meets at hr
 have j0 := Ext.refl s0
 refine Calls_of (n := 26) (args := [w0, .int .i64 a1]) Try.func69 rfl rfl (by simp) (sr (asg (rfl : _ = Value.int .i64 (0)) (nn (sr (asg (rfl : _ = Value.int .i64 (0)) (nn (sr (mv (rfl : _ = w0) (mv (rfl : _ = Value.int .i64 (a1)) ?_)))))))))
 obtain ⟨j1, j2, hr⟩ := bind_some hr
 refine L_calls cal84 (args2 (rfl : _ = w0) (rfl : _ = Value.int .i64 (a1))) (ref08_Case_begun_ok N _ _ _ h0 a1 j1 j2) (by decide) (fun j3 j4 j5 j6 => ?_)
 have j7 := Tch.ext j0 j5
 refine asg (rfl : _ = j3) (nn (W_seq (sr (asg (rfl : _ = Value.int .i64 (0)) (nn ?_)))))
 obtain ⟨j8, j9, ja⟩ := bind_some hr
 refine W_cut (fun f w => ∃ (s : St) (jb : Int), s.w = w ∧ Ext s0 s ∧ Le j4 s ∧ jb = j8 ∧ f 5 = Value.int .i64 jb) ?_ ?_
 ·refine W_block (W_loop (fun m f w => ∃ (s : St) (jc : Int) (jd : Int), s.w = w ∧ Ext s0 s ∧ Le j4 s ∧ ref08_Case_meets_l1 N j1 m jc jd = some j8 ∧ f 5 = Value.int .i64 jc ∧ f 7 = Value.int .i64 jd ∧ f 6 = j3) N ⟨j4, 0, 0, rfl, j7, (Le.refl _), j9, rfl, rfl, rfl⟩ ?_)
  rintro je jf jg ⟨jh, jc, jd, rfl, ji, jj, hr, jk, jl, jm⟩
  cases je with
  | zero => exact absurd hr (by simp [ref08_Case_meets_l1])
  | succ je =>
   rw [ref08_Case_meets_l1.eq_2] at hr
   refine W_seq (sr (mv jl (mv jm (L_len Try.underlying65 (rfl : _ = j3) (j6.mono jj) (by decide) (L_lss (rfl : _ = Value.int .i64 (jd)) (rfl : _ = Value.int .i64 ((j1.length : Int))) (by decide) (nn ?_))))))
   refine W_cond _ (rfl : _ = Value.bool (decide (jd < (j1.length : Int)))) (fun jn => ?_) (fun jn => ?_)
   ·have hr := ite_t jn hr
    refine W_skip (then_n (W_seq (W_block (sr (mv jm (mv jl ?_))))))
    obtain ⟨jo, jp, hr⟩ := bind_some hr
    refine L_index Try.underlying65 ty74.inf (rfl : _ = j3) (j6.mono jj) (rfl : _ = Value.int .i64 (jd)) jp (by decide) (fun jq jr => L_fieldAddr fld74_0 Deed.of_Kind (rfl : _ = jq) jr (by decide) (fun js jt => li ty3 (rfl : _ = js) jt (L_eql (rfl : _ = Value.int .i64 (jo.Kind)) (rfl : _ = Value.int .i64 (6)) (by decide) (nn ?_))))
    refine W_cond _ (rfl : _ = Value.bool (decide (jo.Kind = 6))) (fun ju => ?_) (fun ju => ?_)
    ·have hr := ite_t ju hr; refine W_region (mv jk ?_); obtain ⟨jv, hr⟩ := chk_some hr; refine L_add (rfl : _ = Value.int .i64 (jc)) (rfl : _ = Value.int .i64 (1)) jv (by decide) (asg (rfl : _ = Value.int .i64 (jc + 1)) (L_nil (block_n (then_n (W_region (mv jl ?_)))))); obtain ⟨jw, hr⟩ := chk_some hr; exact L_add (rfl : _ = Value.int .i64 (jd)) (rfl : _ = Value.int .i64 (1)) jw (by decide) (asg (rfl : _ = Value.int .i64 (jd + 1)) (nn ⟨je, Nat.lt_succ_self _, ⟨jh, (jc + 1), (jd + 1), rfl, ji, jj, hr, rfl, rfl, jm⟩⟩))
    ·have hr := ite_f ju hr; refine W_skip (block_n (then_n (W_region (mv jl ?_)))); obtain ⟨jv, hr⟩ := chk_some hr; exact L_add (rfl : _ = Value.int .i64 (jd)) (rfl : _ = Value.int .i64 (1)) jv (by decide) (asg (rfl : _ = Value.int .i64 (jd + 1)) (nn ⟨je, Nat.lt_succ_self _, ⟨jh, jc, (jd + 1), rfl, ji, jj, hr, jk, rfl, jm⟩⟩))
   ·have hr := ite_f jn hr; refine W_exit (then_x (then_x (block_here ?_))); exact then_n ⟨jh, jc, rfl, ji, jj, Option.some.inj hr, jk⟩
 ·rintro jc jd ⟨je, jb, rfl, jf, jg, j9, jh⟩; subst j9; have hr := ja; (try dsimp only at hr); refine then_n (sr (mv jh (asg (rfl : _ = Value.int .i64 (jb)) (nn (W_ret ?_))))); obtain rfl := Option.some.inj hr; exact done1 (Or.inl rfl) Try.results69 rfl ⟨_, _, rfl, rfl, jf, Vint⟩

end Go.Arm
