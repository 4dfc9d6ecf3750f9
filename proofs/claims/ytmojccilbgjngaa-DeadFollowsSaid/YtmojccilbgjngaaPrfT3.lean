/- Each function of the program computes what its plain function says. -/
import Derived.Test.YtmojccilbgjngaaPrfT3c
namespace Go.Arm
open Go Go.RowKit Go.Proofs
theorem ref08_Case_can_ok (N : Nat) (s0 : St) (w0 : Value) (a0 : Case) (h0 : Ptr s0 w0 a0) (a1 : Int) (r : Bool) (hr : ref08_Case_can N a0 a1 = some r) :
    Calls Try.prog 35 #[w0, .int .i64 a1] s0.w (Ret s0 fun v s => V s v r) := by
 unfold ref08_Case_can at hr
 have j0 := Ext.refl s0
 refine Calls_of (n := 99) (args := [w0, .int .i64 a1]) Try.func35 rfl rfl (by simp) (sr (asg (rfl : _ = Value.bool (false)) (nn (sr (mv (rfl : _ = w0) (L_nilCheck_ptr (rfl : _ = w0) h0 (by decide) (L_fieldAddr fld79_2 Case.of_At (rfl : _ = w0) h0 (by decide) (fun j1 j2 => L_load ty23 (rfl : _ = j1) j2 (by decide) (fun j3 j4 => mv (rfl : _ = Value.int .i64 (a1)) ?_)))))))))
 obtain ⟨j5, j6, hr⟩ := bind_some hr
 refine L_index Try.underlying23 ty3.inf (rfl : _ = j3) j4 (rfl : _ = Value.int .i64 (a1)) j6 (by decide) (fun j7 j8 => li ty3 (rfl : _ = j7) j8 (asg (rfl : _ = Value.int .i64 (j5)) (nn (W_seq (sr (mv (rfl : _ = Value.int .i64 (j5)) (mv (rfl : _ = w0) (L_nilCheck_ptr (rfl : _ = w0) h0 (by decide) (L_fieldAddr fld79_0 Case.of_C (rfl : _ = w0) h0 (by decide) (fun j9 ja => L_load ty22 (rfl : _ = j9) ja (by decide) (fun jb jc => mv (rfl : _ = Value.int .i64 (a1)) ?_)))))))))))
 obtain ⟨jd, je, hr⟩ := bind_some hr
 refine L_index Try.underlying22 ty65.inf (rfl : _ = jb) jc (rfl : _ = Value.int .i64 (a1)) je (by decide) (fun jf jg => L_load ty65 (rfl : _ = jf) jg (by decide) (fun jh ji => L_len Try.underlying65 (rfl : _ = jh) ji (by decide) (L_eql (rfl : _ = Value.int .i64 (j5)) (rfl : _ = Value.int .i64 ((jd.length : Int))) (by decide) (nn ?_))))
 refine W_cond _ (rfl : _ = Value.bool (decide (j5 = (jd.length : Int)))) (fun jj => ?_) (fun jj => ?_)
 ·have hr := ite_t jj hr; refine sr (asg (rfl : _ = Value.bool (false)) (nn (W_ret (then_r ?_)))); obtain rfl := Option.some.inj hr; exact done1 (Or.inl rfl) Try.results35 rfl ⟨_, _, rfl, rfl, j0, Vbool⟩
 ·have hr := ite_f jj hr
  refine W_skip (then_n (sr (mv (rfl : _ = w0) (L_nilCheck_ptr (rfl : _ = w0) h0 (by decide) (L_fieldAddr fld79_0 Case.of_C (rfl : _ = w0) h0 (by decide) (fun jk jl => L_load ty22 (rfl : _ = jk) jl (by decide) (fun jm jn => mv (rfl : _ = Value.int .i64 (a1)) ?_)))))))
  obtain ⟨jo, jp, hr⟩ := bind_some hr
  refine L_index Try.underlying22 ty65.inf (rfl : _ = jm) jn (rfl : _ = Value.int .i64 (a1)) jp (by decide) (fun jq jr => L_load ty65 (rfl : _ = jq) jr (by decide) (fun js jt => mv (rfl : _ = Value.int .i64 (j5)) ?_))
  obtain ⟨ju, jv, hr⟩ := bind_some hr
  refine L_index Try.underlying65 ty74.inf (rfl : _ = js) jt (rfl : _ = Value.int .i64 (j5)) jv (by decide) (fun jw jx => L_load ty74 (rfl : _ = jw) jx (by decide) (fun jy jz => L_alloc (α := Deed) (x := ⟨0, 0, 0, 0, false⟩) zero74 Deed.zero_rel (by decide) (fun k0 k1 k2 k3 k4 => ?_)))
  have k5 := Tch.ext j0 k2
  refine L_store_ro ty74 (rfl : _ = Value.pointer (some ⟨k1, 0, none⟩)) (rfl : _ = jy) (jz.mono k2.le) (k4) (fun k6 k7 k8 => ?_)
  have k9 := Tch.trans k5 k7 (fun k hk => Or.inr (by subst hk; exact (Nat.le_trans j0.size k3)))
  refine nn (W_seq (sr (L_fieldAddr fld74_0 Deed.of_Kind (rfl : _ = Value.pointer (some ⟨k1, 0, none⟩)) k8 (by decide) (fun ka kb => li ty3 (rfl : _ = ka) kb (L_eql (rfl : _ = Value.int .i64 (ju.Kind)) (rfl : _ = Value.int .i64 (5)) (by decide) (nn ?_))))))
  refine W_cond _ (rfl : _ = Value.bool (decide (ju.Kind = 5))) (fun kc => ?_) (fun kc => ?_)
  ·have hr := ite_t kc hr
   refine W_seq ?_
   obtain ⟨kd, ke, hr⟩ := bind_some hr
   obtain ⟨kf, kg, hr⟩ := bind_some hr
   refine W_draws mixed (by kernel_rfl) [PV.ptr (a0 : Case), PV.ptr (a0 : Case), PV.ptr (a0.C : List (List Deed)), PV.data (a0.C : List (List Deed)), PV.eq (Value.int .i64 (a1)), PV.ptr (kd : List Deed), PV.data (kd : List Deed), PV.ptr (ju.Req : Int), PV.eq (Value.int .i64 (ju.Req)), PV.eq (Value.int .i64 (kf)), PV.eq (Value.int .i64 (kf))] (Steps_cons ?_ (Steps_cons ?_ (Steps_cons ?_ (Steps_cons ?_ (Steps_cons ?_ (Steps_cons ?_ (Steps_cons ?_ (Steps_cons ?_ (Steps_cons ?_ (Steps_cons ?_ (Steps_cons ?_ Steps_nil))))))))))) ?_
   ·intro kh ki kj kk kl Q km; have kn : kh 0 = w0 := (kl 0 (by kernel_rfl)).trans rfl; exact mv kn (fin km (h0.mono (k2.le.trans (k7.le.trans kj.le))))
   ·intro kh ki kj kk kl Q km; have kn : Ptr _ (kh 38) (a0 : Case) := kk 0 38 (by kernel_rfl) (by kernel_rfl); obtain ⟨ko, kp, kq⟩ : ∃ v, _ = v ∧ Ptr _ v _ := ⟨_, rfl, kn⟩; exact L_nilCheck_ptr kp kq (by decide) (fin km kq)
   ·intro kh ki kj kk kl Q km; have kn : Ptr _ (kh 39) (a0 : Case) := kk 1 39 (by kernel_rfl) (by kernel_rfl); obtain ⟨ko, kp, kq⟩ : ∃ v, _ = v ∧ Ptr _ v _ := ⟨_, rfl, kn⟩; exact L_fieldAddr fld79_0 Case.of_C kp kq (by decide) (fun kr ks => fin km ks)
   ·intro kh ki kj kk kl Q km; have kn : Ptr _ (kh 40) (a0.C : List (List Deed)) := kk 2 40 (by kernel_rfl) (by kernel_rfl); obtain ⟨ko, kp, kq⟩ : ∃ v, _ = v ∧ Ptr _ v _ := ⟨_, rfl, kn⟩; exact L_load ty22 kp kq (by decide) (fun kr ks => fin km ks)
   ·intro kh ki kj kk kl Q km; have kn : kh 1 = Value.int .i64 (a1) := (kl 1 (by kernel_rfl)).trans rfl; exact mv kn (fin km rfl)
   ·intro kh ki kj kk kl Q km; have kn : V _ (kh 41) (a0.C : List (List Deed)) := kk 3 41 (by kernel_rfl) (by kernel_rfl); obtain ⟨ko, kp, kq⟩ : ∃ v, _ = v ∧ V _ v _ := ⟨_, rfl, kn⟩; have kr : kh 42 = Value.int .i64 (a1) := kk 4 42 (by kernel_rfl) (by kernel_rfl); exact L_index Try.underlying22 ty65.inf kp kq kr ke (by decide) (fun ks kt => fin km kt)
   ·intro kh ki kj kk kl Q km; have kn : Ptr _ (kh 43) (kd : List Deed) := kk 5 43 (by kernel_rfl) (by kernel_rfl); obtain ⟨ko, kp, kq⟩ : ∃ v, _ = v ∧ Ptr _ v _ := ⟨_, rfl, kn⟩; exact L_load ty65 kp kq (by decide) (fun kr ks => fin km ks)
   ·intro kh ki kj kk kl Q km; have kn : kh 6 = Value.pointer (some ⟨k1, 0, none⟩) := (kl 6 (by kernel_rfl)).trans rfl; exact L_fieldAddr fld74_3 Deed.of_Req kn (k8.mono kj.le) (by decide) (fun ko kp => fin km kp)
   ·intro kh ki kj kk kl Q km; have kn : Ptr _ (kh 45) (ju.Req : Int) := kk 7 45 (by kernel_rfl) (by kernel_rfl); obtain ⟨ko, kp, kq⟩ : ∃ v, _ = v ∧ Ptr _ v _ := ⟨_, rfl, kn⟩; exact li ty3 kp kq (fin km rfl)
   ·intro kh ki kj kk kl Q km; have kn : V _ (kh 44) (kd : List Deed) := kk 6 44 (by kernel_rfl) (by kernel_rfl); obtain ⟨ko, kp, kq⟩ : ∃ v, _ = v ∧ V _ v _ := ⟨_, rfl, kn⟩; have kr : kh 46 = Value.int .i64 (ju.Req) := kk 8 46 (by kernel_rfl) (by kernel_rfl); refine L_calls cal66 (args2 kp kr) (ref08_request_ok N _ _ _ kq ju.Req kf kg) (by decide) (fun ks kt ku kv => ?_); have kw := Tch.ext (Ext.refl ki) ku; obtain rfl := kv.int; exact L_nil (km _ _ kw rfl)
   ·intro kh ki kj kk kl Q km; have kn : kh 47 = Value.int .i64 (kf) := kk 9 47 (by kernel_rfl) (by kernel_rfl); exact asg kn (fin km rfl)
   ·intro kh ki kj kk kl
    have km := Tch.ext k9 kj
    have kn : kh 0 = w0 := (kl 0 (by kernel_rfl)).trans rfl
    have ko : kh 1 = Value.int .i64 (a1) := (kl 1 (by kernel_rfl)).trans rfl
    have kp : kh 5 = Value.int .i64 (kf) := kk 10 5 (by kernel_rfl)
    refine then_n (W_seq (sr (mv kn (L_nilCheck_ptr (rfl : _ = w0) (h0.mono (k2.le.trans (k7.le.trans kj.le))) (by decide) (L_fieldAddr fld79_0 Case.of_C (rfl : _ = w0) (h0.mono (k2.le.trans (k7.le.trans kj.le))) (by decide) (fun kq kr => L_load ty22 (rfl : _ = kq) kr (by decide) (fun ks kt => mv ko ?_)))))))
    obtain ⟨ku, kv, hr⟩ := bind_some hr
    refine L_index Try.underlying22 ty65.inf (rfl : _ = ks) kt (rfl : _ = Value.int .i64 (a1)) kv (by decide) (fun kw kx => L_load ty65 (rfl : _ = kw) kx (by decide) (fun ky kz => mv kp ?_))
    obtain ⟨g0, g1, hr⟩ := bind_some hr
    refine L_index Try.underlying65 ty74.inf (rfl : _ = ky) kz (rfl : _ = Value.int .i64 (kf)) g1 (by decide) (fun g2 g3 => L_load ty74 (rfl : _ = g2) g3 (by decide) (fun g4 g5 => ?_))
    obtain ⟨g6, g7, hr⟩ := bind_some hr
    refine L_calls cal44 (args1 (rfl : _ = g4)) (ref08_sends_ok N _ _ _ g5 g6 g7) (by decide) (fun g8 g9 ga gb => ?_)
    have gc := Tch.ext km ga
    obtain rfl := gb.bool
    refine nn ?_
    refine W_cond _ (rfl : _ = Value.bool (g6)) (fun gd => ?_) (fun gd => ?_)
    ·have hr := ite_t gd hr; refine sr (mv kn (mv ko (mv kp ?_))); obtain ⟨gg, gh, hr⟩ := bind_some hr; refine L_calls cal67 (args3 (rfl : _ = w0) (rfl : _ = Value.int .i64 (a1)) (rfl : _ = Value.int .i64 (kf))) (ref08_Case_taken_ok N _ _ _ (h0.mono (k2.le.trans (k7.le.trans (kj.le.trans ga.le)))) a1 kf gg gh) (by decide) (fun gi gj gk gl => ?_); have gm := Tch.ext gc gk; obtain rfl := gl.bool; refine asg (rfl : _ = Value.bool (gg)) (nn (W_ret (then_r (then_r ?_)))); obtain rfl := Option.some.inj hr; exact done1 (Or.inl rfl) Try.results35 rfl ⟨_, _, rfl, rfl, gm, Vbool⟩
    ·have hr := ite_f gd hr; refine W_skip (then_n (sr (mv kn (mv ko (mv kp ?_))))); obtain ⟨gg, gh, hr⟩ := bind_some hr; refine L_calls cal68 (args3 (rfl : _ = w0) (rfl : _ = Value.int .i64 (a1)) (rfl : _ = Value.int .i64 (kf))) (ref08_Case_received_ok N _ _ _ (h0.mono (k2.le.trans (k7.le.trans (kj.le.trans ga.le)))) a1 kf gg gh) (by decide) (fun gi gj gk gl => ?_); have gm := Tch.ext gc gk; obtain rfl := gl.bool; refine asg (rfl : _ = Value.bool (gg)) (nn (W_ret (then_r ?_))); obtain rfl := Option.some.inj hr; exact done1 (Or.inl rfl) Try.results35 rfl ⟨_, _, rfl, rfl, gm, Vbool⟩
  ·have hr := ite_f kc hr
   refine W_skip (then_n (W_seq (sr (L_fieldAddr fld74_0 Deed.of_Kind (rfl : _ = Value.pointer (some ⟨k1, 0, none⟩)) k8 (by decide) (fun kd ke => li ty3 (rfl : _ = kd) ke (nn (W_block (sr (L_eql (rfl : _ = Value.int .i64 (ju.Kind)) (rfl : _ = Value.int .i64 (1)) (by decide) (asg (rfl : _ = Value.bool (decide (ju.Kind = 1))) (nn ?_)))))))))))
   refine W_cond _ (rfl : _ = Value.bool (decide (ju.Kind = 1))) (fun kf => ?_) (fun kf => ?_)
   ·have hr := ite_t kf hr; refine sr (mv (rfl : _ = w0) (mv (rfl : _ = Value.int .i64 (a1)) (mv (rfl : _ = Value.int .i64 (j5)) ?_))); obtain ⟨kg, kh, hr⟩ := bind_some hr; refine L_calls cal67 (args3 (rfl : _ = w0) (rfl : _ = Value.int .i64 (a1)) (rfl : _ = Value.int .i64 (j5))) (ref08_Case_taken_ok N _ _ _ (h0.mono (k2.le.trans k7.le)) a1 j5 kg kh) (by decide) (fun ki kj kk kl => ?_); have km := Tch.ext k9 kk; obtain rfl := kl.bool; refine asg (rfl : _ = Value.bool (kg)) (nn (W_ret (block_r (then_r ?_)))); obtain rfl := Option.some.inj hr; exact done1 (Or.inl rfl) Try.results35 rfl ⟨_, _, rfl, rfl, km, Vbool⟩
   ·have hr := ite_f kf hr
    refine sr (L_eql (rfl : _ = Value.int .i64 (ju.Kind)) (rfl : _ = Value.int .i64 (2)) (by decide) (asg (rfl : _ = Value.bool (decide (ju.Kind = 2))) (nn ?_)))
    refine W_cond _ (rfl : _ = Value.bool (decide (ju.Kind = 2))) (fun kg => ?_) (fun kg => ?_)
    ·have hr := ite_t kg hr; refine sr (mv (rfl : _ = w0) (mv (rfl : _ = Value.int .i64 (a1)) (mv (rfl : _ = Value.int .i64 (j5)) ?_))); obtain ⟨kh, ki, hr⟩ := bind_some hr; refine L_calls cal68 (args3 (rfl : _ = w0) (rfl : _ = Value.int .i64 (a1)) (rfl : _ = Value.int .i64 (j5))) (ref08_Case_received_ok N _ _ _ (h0.mono (k2.le.trans k7.le)) a1 j5 kh ki) (by decide) (fun kj kk kl km => ?_); have kn := Tch.ext k9 kl; obtain rfl := km.bool; refine asg (rfl : _ = Value.bool (kh)) (nn (W_ret (block_r (then_r ?_)))); obtain rfl := Option.some.inj hr; exact done1 (Or.inl rfl) Try.results35 rfl ⟨_, _, rfl, rfl, kn, Vbool⟩
    ·have hr := ite_f kg hr
     refine sr (L_eql (rfl : _ = Value.int .i64 (ju.Kind)) (rfl : _ = Value.int .i64 (6)) (by decide) (asg (rfl : _ = Value.bool (decide (ju.Kind = 6))) (nn ?_)))
     refine W_cond _ (rfl : _ = Value.bool (decide (ju.Kind = 6))) (fun kh => ?_) (fun kh => ?_)
     ·have hr := ite_t kh hr
      refine sr (asg (rfl : _ = Value.int .i64 (0)) (nn ?_))
      obtain ⟨ki, kj, kk⟩ := bind_some hr
      refine W_cut (fun f w => ∃ (s : St), s.w = w ∧ Ext s0 s ∧ Le k6 s ∧ Sum.inl () = ki) ?_ ?_
      ·refine W_block (W_loop (fun m f w => ∃ (s : St) (kl : Int), s.w = w ∧ Ext s0 s ∧ Le k6 s ∧ ref08_Case_can_l1 N a0 a1 m kl = some ki ∧ f 7 = Value.int .i64 kl ∧ f 0 = w0 ∧ f 1 = Value.int .i64 (a1)) N ⟨k6, 0, rfl, k9, (Le.refl _), kj, rfl, rfl, rfl⟩ ?_)
       rintro km kn ko ⟨kp, kl, rfl, kq, kr, hr, ks, kt, ku⟩
       cases km with
       | zero => exact absurd hr (by simp [ref08_Case_can_l1])
       | succ km =>
        rw [ref08_Case_can_l1.eq_2] at hr
        refine W_seq (sr (mv ks (mv kt (L_nilCheck_ptr (rfl : _ = w0) (h0.mono (k2.le.trans (k7.le.trans kr))) (by decide) (L_fieldAddr fld79_0 Case.of_C (rfl : _ = w0) (h0.mono (k2.le.trans (k7.le.trans kr))) (by decide) (fun kv kw => L_load ty22 (rfl : _ = kv) kw (by decide) (fun kx ky => L_len Try.underlying22 (rfl : _ = kx) ky (by decide) (L_lss (rfl : _ = Value.int .i64 (kl)) (rfl : _ = Value.int .i64 ((a0.C.length : Int))) (by decide) (nn ?_)))))))))
        refine W_cond _ (rfl : _ = Value.bool (decide (kl < (a0.C.length : Int)))) (fun kz => ?_) (fun kz => ?_)
        ·have hr := ite_t kz hr
         refine W_skip (then_n (W_seq (W_block (sr (mv kt (mv ks ?_))))))
         obtain ⟨g0, g1, hr⟩ := bind_some hr
         refine L_calls cal69 (args2 (rfl : _ = w0) (rfl : _ = Value.int .i64 (kl))) (ref08_Case_meets_ok N _ _ _ (h0.mono (k2.le.trans (k7.le.trans kr))) kl g0 g1) (by decide) (fun g2 g3 g4 g5 => ?_)
         have g6 := Tch.ext kq g4
         obtain rfl := g5.int
         refine mv kt (mv ku ?_)
         obtain ⟨g7, g8, hr⟩ := bind_some hr
         refine L_calls cal69 (args2 (rfl : _ = w0) (rfl : _ = Value.int .i64 (a1))) (ref08_Case_meets_ok N _ _ _ (h0.mono (k2.le.trans (k7.le.trans (kr.trans g4.le)))) a1 g7 g8) (by decide) (fun g9 ga gb gc => ?_)
         have gd := Tch.ext g6 gb
         obtain rfl := gc.int
         refine L_lss (rfl : _ = Value.int .i64 (g0)) (rfl : _ = Value.int .i64 (g7)) (by decide) (nn ?_)
         refine W_cond _ (rfl : _ = Value.bool (decide (g0 < g7))) (fun gg => ?_) (fun gg => ?_)
         ·have hr := ite_t gg hr; refine sr (asg (rfl : _ = Value.bool (false)) (nn (W_ret (block_r (then_r (then_r (block_r ?_))))))); obtain rfl := Option.some.inj hr; have hr := kk; (try dsimp only at hr); refine then_r (block_r (then_r ?_)); obtain rfl := Option.some.inj hr; exact done1 (Or.inl rfl) Try.results35 rfl ⟨_, _, rfl, rfl, gd, Vbool⟩
         ·have hr := ite_f gg hr; refine W_skip (block_n (then_n (W_region (mv ks ?_)))); obtain ⟨gh, hr⟩ := chk_some hr; exact L_add (rfl : _ = Value.int .i64 (kl)) (rfl : _ = Value.int .i64 (1)) gh (by decide) (asg (rfl : _ = Value.int .i64 (kl + 1)) (nn ⟨km, Nat.lt_succ_self _, ⟨ga, (kl + 1), rfl, gd, (kr.trans (g4.le.trans gb.le)), hr, rfl, kt, ku⟩⟩))
        ·have hr := ite_f kz hr; refine W_exit (then_x (then_x (block_here ?_))); exact then_n ⟨kp, rfl, kq, kr, Option.some.inj hr⟩
      ·rintro kl km ⟨kn, rfl, ko, kp, kj⟩; subst kj; have hr := kk; (try dsimp only at hr); refine block_n (then_n (sr (asg (rfl : _ = Value.bool (true)) (nn (W_ret ?_))))); obtain rfl := Option.some.inj hr; exact done1 (Or.inl rfl) Try.results35 rfl ⟨_, _, rfl, rfl, ko, Vbool⟩
     ·have hr := ite_f kh hr; refine W_skip (block_n (then_n (sr (asg (rfl : _ = Value.bool (true)) (nn (W_ret ?_)))))); obtain rfl := Option.some.inj hr; exact done1 (Or.inl rfl) Try.results35 rfl ⟨_, _, rfl, rfl, k9, Vbool⟩

theorem ref08_Case_least_ok (N : Nat) (s0 : St) (w0 : Value) (a0 : Case) (h0 : Ptr s0 w0 a0) (r : Int) (hr : ref08_Case_least N a0 = some r) :
    Calls Try.prog 36 #[w0] s0.w (Ret s0 fun v s => V s v r) := by
 unfold ref08_Case_least at hr
 have j0 := Ext.refl s0
 refine Calls_of (n := 17) (args := [w0]) Try.func36 rfl rfl (by simp) (sr (asg (rfl : _ = Value.int .i64 (0)) (nn (W_seq (sr (asg (rfl : _ = Value.int .i64 (0)) (nn ?_)))))))
 obtain ⟨j1, j2, j3⟩ := bind_some hr
 refine W_cut (fun f w => ∃ (s : St), s.w = w ∧ Ext s0 s ∧ Le s0 s ∧ Sum.inl () = j1) ?_ ?_
 ·refine W_block (W_loop (fun m f w => ∃ (s : St) (j4 : Int), s.w = w ∧ Ext s0 s ∧ Le s0 s ∧ ref08_Case_least_l1 N a0 m j4 = some j1 ∧ f 3 = Value.int .i64 j4 ∧ f 0 = w0) N ⟨s0, 0, rfl, j0, (Le.refl _), j2, rfl, rfl⟩ ?_)
  rintro j5 j6 j7 ⟨j8, j4, rfl, j9, ja, hr, jb, jc⟩
  cases j5 with
  | zero => exact absurd hr (by simp [ref08_Case_least_l1])
  | succ j5 =>
   rw [ref08_Case_least_l1.eq_2] at hr
   refine W_seq (sr (mv jb (mv jc (L_nilCheck_ptr (rfl : _ = w0) (h0.mono ja) (by decide) (L_fieldAddr fld79_0 Case.of_C (rfl : _ = w0) (h0.mono ja) (by decide) (fun jd je => L_load ty22 (rfl : _ = jd) je (by decide) (fun jf jg => L_len Try.underlying22 (rfl : _ = jf) jg (by decide) (L_lss (rfl : _ = Value.int .i64 (j4)) (rfl : _ = Value.int .i64 ((a0.C.length : Int))) (by decide) (nn ?_)))))))))
   refine W_cond _ (rfl : _ = Value.bool (decide (j4 < (a0.C.length : Int)))) (fun jh => ?_) (fun jh => ?_)
   ·have hr := ite_t jh hr
    refine W_skip (then_n (W_seq (W_block (sr (mv jc (mv jb ?_))))))
    obtain ⟨ji, jj, hr⟩ := bind_some hr
    refine L_calls cal35 (args2 (rfl : _ = w0) (rfl : _ = Value.int .i64 (j4))) (ref08_Case_can_ok N _ _ _ (h0.mono ja) j4 ji jj) (by decide) (fun jk jl jm jn => ?_)
    have jo := Tch.ext j9 jm
    obtain rfl := jn.bool
    refine nn ?_
    refine W_cond _ (rfl : _ = Value.bool (ji)) (fun jp => ?_) (fun jp => ?_)
    ·have hr := ite_t jp hr; refine sr (mv jb (asg (rfl : _ = Value.int .i64 (j4)) (nn (W_ret (block_r (then_r (then_r (block_r ?_)))))))); obtain rfl := Option.some.inj hr; have hr := j3; (try dsimp only at hr); refine then_r (then_r ?_); obtain rfl := Option.some.inj hr; exact done1 (Or.inl rfl) Try.results36 rfl ⟨_, _, rfl, rfl, jo, Vint⟩
    ·have hr := ite_f jp hr; refine W_skip (block_n (then_n (W_region (mv jb ?_)))); obtain ⟨jq, hr⟩ := chk_some hr; exact L_add (rfl : _ = Value.int .i64 (j4)) (rfl : _ = Value.int .i64 (1)) jq (by decide) (asg (rfl : _ = Value.int .i64 (j4 + 1)) (nn ⟨j5, Nat.lt_succ_self _, ⟨jl, (j4 + 1), rfl, jo, (ja.trans jm.le), hr, rfl, jc⟩⟩))
   ·have hr := ite_f jh hr; refine W_exit (then_x (then_x (block_here ?_))); exact then_n ⟨j8, rfl, j9, ja, Option.some.inj hr⟩
 ·rintro j4 j5 ⟨j6, rfl, j7, j8, j2⟩; subst j2; have hr := j3; (try dsimp only at hr); refine then_n (sr (asg (rfl : _ = Value.int .i64 (-1)) (nn (W_ret ?_)))); obtain rfl := Option.some.inj hr; exact done1 (Or.inl rfl) Try.results36 rfl ⟨_, _, rfl, rfl, j7, Vint⟩

theorem ref08_Follow_ok (N : Nat) (s0 : St) (w0 : Value) (a0 : List (List Deed)) (h0 : V s0 w0 a0) (a1 : Int) (w2 : Value) (a2 : List Int) (h2 : V s0 w2 a2) (r : (List Int) × Bool × Int) (hr : ref08_Follow N a0 a1 a2 = some r) :
    Calls Try.prog 13 #[w0, .int .i64 a1, w2] s0.w (Ret s0 fun v s => ∃ a b c, v = .tuple #[a, b, c] ∧ V s a r.1 ∧ V s b r.2.1 ∧ V s c r.2.2) := by
 unfold ref08_Follow at hr
 have j0 := Ext.refl s0
 refine Calls_of (n := 60) (args := [w0, .int .i64 a1, w2]) Try.func13 rfl rfl (by simp) (sr (asg (rfl : _ = Value.slice none 0 0) (asg (rfl : _ = Value.bool (false)) (asg (rfl : _ = Value.int .i64 (0)) (nn (sr (mv (rfl : _ = w0) (mv (rfl : _ = Value.int .i64 (a1)) ?_))))))))
 obtain ⟨j1, j2, hr⟩ := bind_some hr
 refine L_calls cal34 (args2 (rfl : _ = w0) (rfl : _ = Value.int .i64 (a1))) (ref08_started_ok N _ _ _ h0 a1 j1 j2) (by decide) (fun j3 j4 j5 j6 => ?_)
 have j7 := Tch.ext j0 j5
 obtain ⟨j8, j9, rfl, ja, jb⟩ := j6
 obtain rfl := jb.int
 refine mv (rfl : _ = Value.tuple #[j8, Value.int .i64 (j1.2)]) (L_extract (rfl : _ = Value.tuple #[j8, Value.int .i64 (j1.2)]) (k := 0) rfl (by decide) (L_extract (rfl : _ = Value.tuple #[j8, Value.int .i64 (j1.2)]) (k := 1) rfl (by decide) (asg (rfl : _ = j8) (asg (rfl : _ = Value.int .i64 (j1.2)) (nn (W_seq (sr (mv (rfl : _ = Value.int .i64 (j1.2)) (L_neq (rfl : _ = Value.int .i64 (j1.2)) (rfl : _ = Value.int .i64 (0)) (by decide) (nn ?_))))))))))
 refine W_cond _ (rfl : _ = Value.bool (!decide (j1.2 = 0))) (fun jc => ?_) (fun jc => ?_)
 ·have hr := ite_t jc hr; refine sr (mv (rfl : _ = Value.int .i64 (j1.2)) (asg (rfl : _ = Value.slice none 0 0) (asg (rfl : _ = Value.bool (false)) (asg (rfl : _ = Value.int .i64 (j1.2)) (nn (W_ret (then_r ?_))))))); obtain rfl := Option.some.inj hr; exact done3 (Or.inl rfl) Try.results13 rfl rfl rfl ⟨_, _, rfl, rfl, j7, _, _, _, rfl, Vnil, Vbool, Vint⟩
 ·have hr := ite_f jc hr
  refine W_skip (then_n (W_seq (sr (asg (rfl : _ = Value.int .i64 (0)) (nn ?_)))))
  obtain ⟨jd, je, hr⟩ := bind_some hr
  obtain ⟨jf, jg, jh, ji⟩ := ja.open je
  obtain ⟨jj, jk, jl⟩ := bind_some hr
  refine W_cut (fun f w => ∃ (s : St) (jm : List Int), s.w = w ∧ Ext s0 s ∧ Le j4 s ∧ Sum.inl jm = jj ∧ f 9 = j8 ∧ Arr s jf 3 (jd.At).length jm) ?_ ?_
  ·refine W_block (W_loop (fun m f w => ∃ (s : St) (jn : Int) (jo : List Int), s.w = w ∧ Ext s0 s ∧ Le j4 s ∧ ref08_Follow_l1 N a0 a2 jd m jn jo = some jj ∧ f 11 = Value.int .i64 jn ∧ f 0 = w0 ∧ f 2 = w2 ∧ f 9 = j8 ∧ Arr s jf 3 (jd.At).length jo) N ⟨j4, 0, jd.At, rfl, j7, (Le.refl _), jk, rfl, rfl, rfl, rfl, ji⟩ ?_)
   rintro jp jq jr ⟨js, jn, jo, rfl, jt, ju, hr, jv, jw, jx, jy, jz⟩
   cases jp with
   | zero => exact absurd hr (by simp [ref08_Follow_l1])
   | succ jp =>
    rw [ref08_Follow_l1.eq_2] at hr
    refine W_seq (sr (mv jv (mv jx (L_len Try.underlying23 (rfl : _ = w2) (h2.mono (j5.le.trans ju)) (by decide) (L_lss (rfl : _ = Value.int .i64 (jn)) (rfl : _ = Value.int .i64 ((a2.length : Int))) (by decide) (nn ?_))))))
    refine W_cond _ (rfl : _ = Value.bool (decide (jn < (a2.length : Int)))) (fun k0 => ?_) (fun k0 => ?_)
    ·have hr := ite_t k0 hr
     refine W_skip (then_n (W_seq (W_block (sr (mv jx (mv jv ?_))))))
     obtain ⟨k1, k2, hr⟩ := bind_some hr
     refine L_index Try.underlying23 ty3.inf (rfl : _ = w2) (h2.mono (j5.le.trans ju)) (rfl : _ = Value.int .i64 (jn)) k2 (by decide) (fun k3 k4 => li ty3 (rfl : _ = k3) k4 (asg (rfl : _ = Value.int .i64 (k1)) (nn (W_seq ?_))))
     obtain ⟨k5, k6, k7⟩ := bind_some hr
     refine W_seq_cut (fun f w => ∃ (s : St) (k8 : Bool), s.w = w ∧ Ext s0 s ∧ Le js s ∧ k8 = k5 ∧ f 39 = Value.bool k8 ∧ f 0 = w0 ∧ f 2 = w2 ∧ f 9 = j8 ∧ f 11 = Value.int .i64 (jn) ∧ f 12 = Value.int .i64 (k1) ∧ Arr s jf 3 (jd.At).length jo) ?_ ?_
     ·have hr := k6
      refine W_region (mv (rfl : _ = Value.int .i64 (k1)) (L_lss (rfl : _ = Value.int .i64 (k1)) (rfl : _ = Value.int .i64 (0)) (by decide) (mv (rfl : _ = Value.bool (decide (k1 < 0))) ?_)))
      rcases Bool.eq_false_or_eq_true (decide (k1 < 0)) with k9 | k9
      ·have hr := ite_t k9 hr; exact gf 34 (rfl : _ = Value.bool (decide (k1 < 0))) k9 (gf 34 (rfl : _ = Value.bool (decide (k1 < 0))) k9 (gf 34 (rfl : _ = Value.bool (decide (k1 < 0))) k9 (gf 34 (rfl : _ = Value.bool (decide (k1 < 0))) k9 (pt (rfl : _ = Value.bool (decide (k1 < 0))) k9 (rfl : _ = Value.bool (true)) (nn ⟨js, true, rfl, jt, (Le.refl _), Option.some.inj hr, rfl, jw, jx, jy, jv, rfl, jz⟩)))))
      ·have hr := ite_f k9 hr; exact gt 34 (rfl : _ = Value.bool (decide (k1 < 0))) k9 (mv (rfl : _ = Value.int .i64 (k1)) (gt 34 (rfl : _ = Value.bool (decide (k1 < 0))) k9 (mv jw (gt 34 (rfl : _ = Value.bool (decide (k1 < 0))) k9 (L_len Try.underlying22 (rfl : _ = w0) (h0.mono (j5.le.trans ju)) (by decide) (gt 34 (rfl : _ = Value.bool (decide (k1 < 0))) k9 (L_geq (rfl : _ = Value.int .i64 (k1)) (rfl : _ = Value.int .i64 ((a0.length : Int))) (by decide) (pf (rfl : _ = Value.bool (decide (k1 < 0))) k9 (rfl : _ = Value.bool (decide ((a0.length : Int) ≤ k1))) (nn ⟨js, (decide ((a0.length : Int) ≤ k1)), rfl, jt, (Le.refl _), Option.some.inj hr, rfl, jw, jx, jy, jv, rfl, jz⟩)))))))))
     ·rintro k9 ka ⟨kb, k8, rfl, kc, kd, k6, ke, kf, kg, kh, ki, kj, kk⟩
      subst k6
      have hr := k7
      try dsimp only at hr
      refine W_cond _ ke (fun kl => ?_) (fun kl => ?_)
      ·have hr := ite_t kl hr; refine sr (asg (rfl : _ = Value.slice none 0 0) (asg (rfl : _ = Value.bool (false)) (asg (rfl : _ = Value.int .i64 (11)) (nn (W_ret (then_r (block_r (then_r (then_r (block_r ?_)))))))))); obtain rfl := Option.some.inj hr; have hr := jl; (try dsimp only at hr); refine then_r (then_r ?_); obtain rfl := Option.some.inj hr; exact done3 (Or.inl rfl) Try.results13 rfl rfl rfl ⟨_, _, rfl, rfl, kc, _, _, _, rfl, Vnil, Vbool, Vint⟩
      ·have hr := ite_f kl hr
       refine W_skip (then_n (W_seq (sr (mv kh (mv kj ?_)))))
       obtain ⟨km, kn, hr⟩ := bind_some hr
       obtain ⟨ko, kp, kq, kr⟩ := (kk).freeze
       refine L_calls_fz cal35 (args2 (rfl : _ = j8) (rfl : _ = Value.int .i64 (k1))) kp kq (fun k hk => by have ks : k = jf := hk; rw [ks]; exact (kk).g) (ref08_Case_can_ok N _ _ _ ((jh.mono (ju.trans (kd.trans kq.le))).ptr kr) k1 km kn) (by decide) (fun kt ku kv kw kx ky => ?_)
       have kz := Tch.ext kc kx
       obtain rfl := ky.bool
       refine L_not (rfl : _ = Value.bool (km)) (by decide) (nn ?_)
       refine W_cond _ (rfl : _ = Value.bool (!km)) (fun g0 => ?_) (fun g0 => ?_)
       ·have hr := ite_t g0 hr; refine sr (asg (rfl : _ = Value.slice none 0 0) (asg (rfl : _ = Value.bool (false)) (asg (rfl : _ = Value.int .i64 (6)) (nn (W_ret (then_r (block_r (then_r (then_r (block_r ?_)))))))))); obtain rfl := Option.some.inj hr; have hr := jl; (try dsimp only at hr); refine then_r (then_r ?_); obtain rfl := Option.some.inj hr; exact done3 (Or.inl rfl) Try.results13 rfl rfl rfl ⟨_, _, rfl, rfl, kz, _, _, _, rfl, Vnil, Vbool, Vint⟩
       ·have hr := ite_f g0 hr; refine W_skip (then_n (W_region (mv kh (L_nilCheck_shell (rfl : _ = j8) (jh.mono (ju.trans (kd.trans kx.le))) (by decide) (L_fieldAddr_shell fld79_2 (rfl : _ = j8) (jh.mono (ju.trans (kd.trans kx.le))) (by decide) (fun g1 g2 => L_load_cell Try.underlying23 rfl (rfl : _ = g1) g2 (by decide) (mv kj ?_))))))); obtain ⟨g3, g4, hr⟩ := bind_some hr; refine L_indexA (sz := 1) Try.underlying23 ty3.inf (rfl : _ = Value.slice (some ⟨jf, 0, none⟩) (jd.At).length (jd.At).length) (rfl : _ = Value.int .i64 (k1)) (idx_some g4).1 (by have := (idx_some g4).2.1; have := ((kk).ext kx).1; omega) (by decide) (L_loadA (xs := jo) ty3 (rfl : _ = Value.pointer (some ⟨jf, (k1).toNat * 1, none⟩)) ((kk).ext kx) g4 (by decide) (fun g5 g6 => ?_)); obtain rfl := g6.int; obtain ⟨g7, hr⟩ := chk_some hr; refine L_add (rfl : _ = Value.int .i64 (g3)) (rfl : _ = Value.int .i64 (1)) g7 (by decide) ?_; obtain ⟨g8, g9, hr⟩ := bind_some hr; refine L_indexA (sz := 1) Try.underlying23 ty3.inf (rfl : _ = Value.slice (some ⟨jf, 0, none⟩) (jd.At).length (jd.At).length) (rfl : _ = Value.int .i64 (k1)) (idx_some g9).1 (by have := (idx_some g9).2.1; have := ((kk).ext kx).1; omega) (by decide) (L_storeA (xs := jo) ty3 (rfl : _ = Value.pointer (some ⟨jf, (k1).toNat * 1, none⟩)) (rfl : _ = Value.int .i64 (g3 + 1)) Vint ((kk).ext kx) g9 (fun ga gb gc => ?_)); have gd := Tch.trans kz gb (fun k hk => Or.inr (by subst hk; exact (Nat.le_trans j0.size jg))); refine L_nil (block_n (then_n (W_region (mv ki ?_)))); obtain ⟨gg, hr⟩ := chk_some hr; exact L_add (rfl : _ = Value.int .i64 (jn)) (rfl : _ = Value.int .i64 (1)) gg (by decide) (asg (rfl : _ = Value.int .i64 (jn + 1)) (nn ⟨jp, Nat.lt_succ_self _, ⟨ga, (jn + 1), (jo.set (k1).toNat (g3 + 1)), rfl, gd, (ju.trans (kd.trans (kx.le.trans gb.le))), hr, rfl, kf, kg, kh, gc⟩⟩))
    ·have hr := ite_f k0 hr; refine W_exit (then_x (then_x (block_here ?_))); exact then_n ⟨js, jo, rfl, jt, ju, Option.some.inj hr, jy, jz⟩
  ·rintro jn jo ⟨jp, jm, rfl, jq, jr, jk, js, jt⟩
   subst jk
   have hr := jl
   try dsimp only at hr
   refine then_n (W_seq ?_)
   obtain ⟨ju, jv, jw, jx⟩ := (jt).freeze
   rw [← jv]
   have jy := Tch.trans jq jw (fun k hk => Or.inr (by subst hk; exact (Nat.le_trans j0.size jg)))
   obtain ⟨jz, k0, hr⟩ := bind_some hr
   refine W_draws mixed (by kernel_rfl) [PV.ptr ((Case.with_At jd jm) : Case), PV.ptr ((Case.with_At jd jm) : Case), PV.ptr ((Case.with_At jd jm).At : List Int), PV.data ((Case.with_At jd jm).At : List Int), PV.ptr ((Case.with_At jd jm) : Case), PV.eq (Value.int .i64 (jz)), PV.eq (Value.bool (decide (jz < 0))), PV.data ((Case.with_At jd jm).At : List Int), PV.eq (Value.bool (decide (jz < 0))), PV.eq (Value.int .i64 (0))] (Steps_cons ?_ (Steps_cons ?_ (Steps_cons ?_ (Steps_cons ?_ (Steps_cons ?_ (Steps_cons ?_ (Steps_cons ?_ (Steps_cons ?_ (Steps_cons ?_ (Steps_cons ?_ Steps_nil)))))))))) ?_
   ·intro k1 k2 k3 k4 k5 Q k6; have k7 : k1 9 = j8 := (k5 9 (by kernel_rfl)).trans js; exact mv k7 (fin k6 (((jh.mono (jr.trans jw.le)).ptr jx).mono k3.le))
   ·intro k1 k2 k3 k4 k5 Q k6; have k7 : Ptr _ (k1 53) ((Case.with_At jd jm) : Case) := k4 0 53 (by kernel_rfl) (by kernel_rfl); obtain ⟨k8, k9, ka⟩ : ∃ v, _ = v ∧ Ptr _ v _ := ⟨_, rfl, k7⟩; exact L_nilCheck_ptr k9 ka (by decide) (fin k6 ka)
   ·intro k1 k2 k3 k4 k5 Q k6; have k7 : Ptr _ (k1 54) ((Case.with_At jd jm) : Case) := k4 1 54 (by kernel_rfl) (by kernel_rfl); obtain ⟨k8, k9, ka⟩ : ∃ v, _ = v ∧ Ptr _ v _ := ⟨_, rfl, k7⟩; exact L_fieldAddr fld79_2 Case.of_At k9 ka (by decide) (fun kb kc => fin k6 kc)
   ·intro k1 k2 k3 k4 k5 Q k6; have k7 : Ptr _ (k1 55) ((Case.with_At jd jm).At : List Int) := k4 2 55 (by kernel_rfl) (by kernel_rfl); obtain ⟨k8, k9, ka⟩ : ∃ v, _ = v ∧ Ptr _ v _ := ⟨_, rfl, k7⟩; exact L_load ty23 k9 ka (by decide) (fun kb kc => fin k6 kc)
   ·intro k1 k2 k3 k4 k5 Q k6; have k7 : k1 9 = j8 := (k5 9 (by kernel_rfl)).trans js; exact mv k7 (fin k6 (((jh.mono (jr.trans jw.le)).ptr jx).mono k3.le))
   ·intro k1 k2 k3 k4 k5 Q k6; have k7 : Ptr _ (k1 57) ((Case.with_At jd jm) : Case) := k4 4 57 (by kernel_rfl) (by kernel_rfl); obtain ⟨k8, k9, ka⟩ : ∃ v, _ = v ∧ Ptr _ v _ := ⟨_, rfl, k7⟩; refine L_calls cal36 (args1 k9) (ref08_Case_least_ok N _ _ _ ka jz k0) (by decide) (fun kb kc kd ke => ?_); have kf := Tch.ext (Ext.refl k2) kd; obtain rfl := ke.int; exact L_nil (k6 _ _ kf rfl)
   ·intro k1 k2 k3 k4 k5 Q k6; have k7 : k1 58 = Value.int .i64 (jz) := k4 5 58 (by kernel_rfl) (by kernel_rfl); exact L_lss k7 (rfl : _ = Value.int .i64 (0)) (by decide) (fin k6 rfl)
   ·intro k1 k2 k3 k4 k5 Q k6; have k7 : V _ (k1 56) ((Case.with_At jd jm).At : List Int) := k4 3 56 (by kernel_rfl) (by kernel_rfl); obtain ⟨k8, k9, ka⟩ : ∃ v, _ = v ∧ V _ v _ := ⟨_, rfl, k7⟩; exact asg k9 (fin k6 ka)
   ·intro k1 k2 k3 k4 k5 Q k6; have k7 : k1 59 = Value.bool (decide (jz < 0)) := k4 6 59 (by kernel_rfl) (by kernel_rfl); exact asg k7 (fin k6 rfl)
   ·intro k1 k2 k3 k4 k5 Q k6; exact asg (rfl : _ = Value.int .i64 (0)) (fin k6 rfl)
   ·intro k1 k2 k3 k4 k5; have k6 := Tch.ext jy k3; have k7 : V _ (k1 6) ((Case.with_At jd jm).At : List Int) := k4 7 6 (by kernel_rfl); obtain ⟨k8, k9, ka⟩ : ∃ v, _ = v ∧ V _ v _ := ⟨_, rfl, k7⟩; have kb : k1 7 = Value.bool (decide (jz < 0)) := k4 8 7 (by kernel_rfl); have kc : k1 8 = Value.int .i64 (0) := k4 9 8 (by kernel_rfl); refine then_n (W_ret ?_); obtain rfl := Option.some.inj hr; exact done3 (Or.inl rfl) Try.results13 k9 kb kc ⟨_, _, rfl, rfl, k6, _, _, _, rfl, ka, Vbool, Vint⟩

theorem law08_DeadFollows_ok (N : Nat) (s0 : St) (w0 : Value) (a0 : List (List Deed)) (h0 : V s0 w0 a0) (a1 : Int) (w2 : Value) (a2 : List Int) (h2 : V s0 w2 a2) (r : Bool) (hr : law08_DeadFollows N a0 a1 a2 = some r) :
    Calls Try.prog 3 #[w0, .int .i64 a1, w2] s0.w (Ret s0 fun v s => V s v r) := by
 unfold law08_DeadFollows at hr
 have j0 := Ext.refl s0
 refine Calls_of (n := 55) (args := [w0, .int .i64 a1, w2]) Try.func3 rfl rfl (by simp) (sr (asg (rfl : _ = Value.bool (false)) (nn (W_seq ?_))))
 obtain ⟨j1, j2, j3⟩ := bind_some hr
 refine W_seq_cut (fun f w => ∃ (s : St) (j4 : Bool), s.w = w ∧ Ext s0 s ∧ Le s0 s ∧ j4 = j1 ∧ f 20 = Value.bool j4 ∧ f 0 = w0 ∧ f 1 = Value.int .i64 (a1) ∧ f 2 = w2) ?_ ?_
 ·have hr := j2
  refine W_region (mv (rfl : _ = w0) ?_)
  obtain ⟨j5, j6, hr⟩ := bind_some hr
  refine L_calls cal9 (args1 (rfl : _ = w0)) (law08_few_ok N _ _ _ h0 j5 j6) (by decide) (fun j7 j8 j9 ja => ?_)
  have jb := Tch.ext j0 j9
  obtain rfl := ja.bool
  refine L_not (rfl : _ = Value.bool (j5)) (by decide) (mv (rfl : _ = Value.bool (!j5)) ?_)
  rcases Bool.eq_false_or_eq_true (!j5) with jc | jc
  ·have hr := ite_t jc hr; exact gf 16 (rfl : _ = Value.bool (!j5)) jc (gf 16 (rfl : _ = Value.bool (!j5)) jc (gf 16 (rfl : _ = Value.bool (!j5)) jc (pt (rfl : _ = Value.bool (!j5)) jc (rfl : _ = Value.bool (true)) (nn ⟨j8, true, rfl, jb, j9.le, Option.some.inj hr, rfl, rfl, rfl, rfl⟩))))
  ·have hr := ite_f jc hr; exact gt 16 (rfl : _ = Value.bool (!j5)) jc (mv (rfl : _ = w2) (gt 16 (rfl : _ = Value.bool (!j5)) jc (L_len Try.underlying23 (rfl : _ = w2) (h2.mono j9.le) (by decide) (gt 16 (rfl : _ = Value.bool (!j5)) jc (L_gtr (rfl : _ = Value.int .i64 ((a2.length : Int))) (rfl : _ = Value.int .i64 (100)) (by decide) (pf (rfl : _ = Value.bool (!j5)) jc (rfl : _ = Value.bool (decide (100 < (a2.length : Int)))) (nn ⟨j8, (decide (100 < (a2.length : Int))), rfl, jb, j9.le, Option.some.inj hr, rfl, rfl, rfl, rfl⟩)))))))
 ·rintro j5 j6 ⟨j7, j4, rfl, j8, j9, j2, ja, jb, jc, jd⟩
  subst j2
  have hr := j3
  try dsimp only at hr
  refine W_cond _ ja (fun je => ?_) (fun je => ?_)
  ·have hr := ite_t je hr; refine sr ?_; obtain ⟨jf, jg, hr⟩ := bind_some hr; refine L_calls cal10 (args0) (law08_works_ok N _  jf jg) (by decide) (fun jh ji jj jk => ?_); have jl := Tch.ext j8 jj; obtain rfl := jk.bool; refine asg (rfl : _ = Value.bool (jf)) (nn (W_ret (then_r ?_))); obtain rfl := Option.some.inj hr; exact done1 (Or.inl rfl) Try.results3 rfl ⟨_, _, rfl, rfl, jl, Vbool⟩
  ·have hr := ite_f je hr
   refine W_skip (then_n (sr (mv jb ?_)))
   obtain ⟨jf, jg, hr⟩ := bind_some hr
   refine L_calls cal12 (args1 (rfl : _ = w0)) (law08_deeds_ok N _ _ _ (h0.mono j9) jf jg) (by decide) (fun jh ji jj jk => ?_)
   have jl := Tch.ext j8 jj
   refine mv jc (mv jd ?_)
   obtain ⟨jm, jn, hr⟩ := bind_some hr
   refine L_calls cal11 (args3 (rfl : _ = jh) (rfl : _ = Value.int .i64 (a1)) (rfl : _ = w2)) (dead_Follow_ok N _ _ _ jk a1 _ _ (h2.mono (j9.trans jj.le)) jm jn) (by decide) (fun jo jp jq jr => ?_)
   have js := Tch.ext jl jq
   obtain ⟨jt, ju, jv, rfl, jw, jx, jy⟩ := jr
   obtain rfl := jx.bool
   obtain rfl := jy.int
   refine mv (rfl : _ = Value.tuple #[jt, Value.bool (jm.2.1), Value.int .i64 (jm.2.2)]) (L_extract (rfl : _ = Value.tuple #[jt, Value.bool (jm.2.1), Value.int .i64 (jm.2.2)]) (k := 0) rfl (by decide) (L_extract (rfl : _ = Value.tuple #[jt, Value.bool (jm.2.1), Value.int .i64 (jm.2.2)]) (k := 1) rfl (by decide) (L_extract (rfl : _ = Value.tuple #[jt, Value.bool (jm.2.1), Value.int .i64 (jm.2.2)]) (k := 2) rfl (by decide) (asg (rfl : _ = jt) (asg (rfl : _ = Value.bool (jm.2.1)) (asg (rfl : _ = Value.int .i64 (jm.2.2)) (nn (sr (mv jb (mv jc (mv jd ?_)))))))))))
   obtain ⟨jz, k0, hr⟩ := bind_some hr
   refine L_calls cal13 (args3 (rfl : _ = w0) (rfl : _ = Value.int .i64 (a1)) (rfl : _ = w2)) (ref08_Follow_ok N _ _ _ (h0.mono (j9.trans (jj.le.trans jq.le))) a1 _ _ (h2.mono (j9.trans (jj.le.trans jq.le))) jz k0) (by decide) (fun k1 k2 k3 k4 => ?_)
   have k5 := Tch.ext js k3
   obtain ⟨k6, k7, k8, rfl, k9, ka, kb⟩ := k4
   obtain rfl := ka.bool
   obtain rfl := kb.int
   refine mv (rfl : _ = Value.tuple #[k6, Value.bool (jz.2.1), Value.int .i64 (jz.2.2)]) (L_extract (rfl : _ = Value.tuple #[k6, Value.bool (jz.2.1), Value.int .i64 (jz.2.2)]) (k := 0) rfl (by decide) (L_extract (rfl : _ = Value.tuple #[k6, Value.bool (jz.2.1), Value.int .i64 (jz.2.2)]) (k := 1) rfl (by decide) (L_extract (rfl : _ = Value.tuple #[k6, Value.bool (jz.2.1), Value.int .i64 (jz.2.2)]) (k := 2) rfl (by decide) (asg (rfl : _ = k6) (asg (rfl : _ = Value.bool (jz.2.1)) (asg (rfl : _ = Value.int .i64 (jz.2.2)) (nn (sr (mv (rfl : _ = jt) (mv (rfl : _ = k6) ?_))))))))))
   obtain ⟨kc, kd, hr⟩ := bind_some hr
   refine L_calls cal14 (args2 (rfl : _ = jt) (rfl : _ = k6)) (ref01_SameInts_ok N _ _ _ (jw.mono k3.le) _ _ k9 kc kd) (by decide) (fun ke kf kg kh => ?_)
   have ki := Tch.ext k5 kg
   obtain rfl := kh.bool
   refine mv (rfl : _ = Value.bool (kc)) ?_
   rcases Bool.eq_false_or_eq_true (kc) with kj | kj
   ·have hr := ite_t kj hr
    refine gt 42 (rfl : _ = Value.bool (kc)) kj (mv (rfl : _ = Value.bool (jm.2.1)) (gt 42 (rfl : _ = Value.bool (kc)) kj (mv (rfl : _ = Value.bool (jz.2.1)) (gt 42 (rfl : _ = Value.bool (kc)) kj (L_beq Try.underlying4 (rfl : _ = Value.bool (jm.2.1)) (rfl : _ = Value.bool (jz.2.1)) (by decide) (pt (rfl : _ = Value.bool (kc)) kj (rfl : _ = Value.bool ((jm.2.1 == jz.2.1))) (mv (rfl : _ = Value.bool ((jm.2.1 == jz.2.1))) ?_)))))))
    rcases Bool.eq_false_or_eq_true ((jm.2.1 == jz.2.1)) with kk | kk
    ·have hr := ite_t kk hr
     refine gt 47 (rfl : _ = Value.bool ((jm.2.1 == jz.2.1))) kk (mv (rfl : _ = Value.int .i64 (jm.2.2)) (gt 47 (rfl : _ = Value.bool ((jm.2.1 == jz.2.1))) kk (mv (rfl : _ = Value.int .i64 (jz.2.2)) (gt 47 (rfl : _ = Value.bool ((jm.2.1 == jz.2.1))) kk (L_eql (rfl : _ = Value.int .i64 (jm.2.2)) (rfl : _ = Value.int .i64 (jz.2.2)) (by decide) (pt (rfl : _ = Value.bool ((jm.2.1 == jz.2.1))) kk (rfl : _ = Value.bool (decide (jm.2.2 = jz.2.2))) (mv (rfl : _ = Value.bool (decide (jm.2.2 = jz.2.2))) ?_)))))))
     rcases Bool.eq_false_or_eq_true (decide (jm.2.2 = jz.2.2)) with kl | kl
     ·have hr := ite_t kl hr; refine gt 52 (rfl : _ = Value.bool (decide (jm.2.2 = jz.2.2))) kl ?_; obtain ⟨km, kn, hr⟩ := bind_some hr; refine L_calls cal10 (args0) (law08_works_ok N _  km kn) (by decide) (fun ko kp kq kr => ?_); have ks := Tch.ext ki kq; obtain rfl := kr.bool; refine pt (rfl : _ = Value.bool (decide (jm.2.2 = jz.2.2))) kl (rfl : _ = Value.bool (km)) (asg (rfl : _ = Value.bool (km)) (nn (W_ret ?_))); obtain rfl := Option.some.inj hr; exact done1 (Or.inl rfl) Try.results3 rfl ⟨_, _, rfl, rfl, ks, Vbool⟩
     ·have hr := ite_f kl hr; refine gf 52 (rfl : _ = Value.bool (decide (jm.2.2 = jz.2.2))) kl (pf (rfl : _ = Value.bool (decide (jm.2.2 = jz.2.2))) kl (rfl : _ = Value.bool (false)) (asg (rfl : _ = Value.bool (false)) (nn (W_ret ?_)))); obtain rfl := Option.some.inj hr; exact done1 (Or.inl rfl) Try.results3 rfl ⟨_, _, rfl, rfl, ki, Vbool⟩
    ·have hr := ite_f kk hr; refine gf 47 (rfl : _ = Value.bool ((jm.2.1 == jz.2.1))) kk (gf 47 (rfl : _ = Value.bool ((jm.2.1 == jz.2.1))) kk (gf 47 (rfl : _ = Value.bool ((jm.2.1 == jz.2.1))) kk (pf (rfl : _ = Value.bool ((jm.2.1 == jz.2.1))) kk (rfl : _ = Value.bool (false)) (mv (rfl : _ = Value.bool (false)) (gf 52 (rfl : _ = Value.bool (false)) rfl (pf (rfl : _ = Value.bool (false)) rfl (rfl : _ = Value.bool (false)) (asg (rfl : _ = Value.bool (false)) (nn (W_ret ?_))))))))); obtain rfl := Option.some.inj hr; exact done1 (Or.inl rfl) Try.results3 rfl ⟨_, _, rfl, rfl, ki, Vbool⟩
   ·have hr := ite_f kj hr; refine gf 42 (rfl : _ = Value.bool (kc)) kj (gf 42 (rfl : _ = Value.bool (kc)) kj (gf 42 (rfl : _ = Value.bool (kc)) kj (pf (rfl : _ = Value.bool (kc)) kj (rfl : _ = Value.bool (false)) (mv (rfl : _ = Value.bool (false)) (gf 47 (rfl : _ = Value.bool (false)) rfl (gf 47 (rfl : _ = Value.bool (false)) rfl (gf 47 (rfl : _ = Value.bool (false)) rfl (pf (rfl : _ = Value.bool (false)) rfl (rfl : _ = Value.bool (false)) (mv (rfl : _ = Value.bool (false)) (gf 52 (rfl : _ = Value.bool (false)) rfl (pf (rfl : _ = Value.bool (false)) rfl (rfl : _ = Value.bool (false)) (asg (rfl : _ = Value.bool (false)) (nn ?_))))))))))))); refine W_ret ?_; obtain rfl := Option.some.inj hr; exact done1 (Or.inl rfl) Try.results3 rfl ⟨_, _, rfl, rfl, ki, Vbool⟩

end Go.Arm
