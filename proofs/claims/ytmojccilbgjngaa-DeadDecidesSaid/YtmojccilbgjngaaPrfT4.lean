/- Each function of the program computes what its plain function says. -/
import Derived.Test.YtmojccilbgjngaaPrfT4c
namespace Go.Arm
open Go Go.RowKit Go.Proofs
theorem law08_same_ok (N : Nat) (s0 : St) (w0 : Value) (a0 : List (List Deed)) (h0 : V s0 w0 a0) (w1 : Value) (a1 : List (List Deed)) (h1 : V s0 w1 a1) (r : Bool) (hr : law08_same N a0 a1 = some r) :
    Calls Try.prog 17 #[w0, w1] s0.w (Ret s0 fun v s => V s v r) := by
 unfold law08_same at hr
 have j0 := Ext.refl s0
 refine Calls_of (n := 87) (args := [w0, w1]) Try.func17 rfl rfl (by simp) (sr (asg (rv (vb false)) (nn (W_seq (sr (mv (rv w0) (ln Try.underlying29 (rv w0) h0 (mv (rv w1) (ln Try.underlying22 (rv w1) h1 (ne (rv (vi ((a0.length : Int)))) (rv (vi ((a1.length : Int)))) (nn ?_)))))))))))
 refine W_cond _ (rv (vb (!decide ((a0.length : Int) = (a1.length : Int))))) (fun j1 => ?_) (fun j1 => ?_)
 ·have hr := ite_t j1 hr; refine sr (asg (rv (vb false)) (nn (W_ret (then_r ?_)))); obtain rfl := Option.some.inj hr; exact done1 (Or.inl rfl) Try.results17 rfl ⟨_, _, rfl, rfl, j0, Vbool⟩
 ·have hr := ite_f j1 hr
  refine W_skip (then_n (W_seq (sr (asg (rv (vi 0)) (nn ?_)))))
  obtain ⟨j2, j3, j4⟩ := bind_some hr
  refine W_cut (fun f w => ∃ (s : St), s.w = w ∧ Ext s0 s ∧ Le s0 s ∧ Sum.inl () = j2) ?_ ?_
  ·refine W_block (W_loop (fun m f w => ∃ (s : St) (j5 : Int), s.w = w ∧ Ext s0 s ∧ Le s0 s ∧ law08_same_l1 N a0 a1 m j5 = some j2 ∧ f 5 = vi j5 ∧ f 0 = w0 ∧ f 1 = w1) N ⟨s0, 0, rfl, j0, (Le.refl _), j3, rfl, rfl, rfl⟩ ?_)
   rintro j6 j7 j8 ⟨j9, j5, rfl, ja, jb, hr, jc, jd, je⟩
   cases j6 with
   | zero => exact absurd hr (by simp [law08_same_l1])
   | succ j6 =>
    rw [law08_same_l1.eq_2] at hr
    refine W_seq (sr (mv jc (mv jd (ln Try.underlying29 (rv w0) (h0.mono jb) (ls (rv (vi j5)) (rv (vi ((a0.length : Int)))) (nn ?_))))))
    refine W_cond _ (rv (vb (decide (j5 < (a0.length : Int))))) (fun jf => ?_) (fun jf => ?_)
    ·have hr := ite_t jf hr
     refine W_skip (then_n (W_seq (W_block (W_seq (W_seq ?_)))))
     obtain ⟨jg, jh, hr⟩ := bind_some hr
     obtain ⟨ji, jj, hr⟩ := bind_some hr
     refine W_draws mixed (by kernel_rfl) [PV.data (a0 : List (List Deed)), PV.eq (vi j5), PV.ptr (jg : List Deed), PV.data (jg : List Deed), PV.eq (vi ((jg.length : Int))), PV.data (a1 : List (List Deed)), PV.eq (vi j5), PV.ptr (ji : List Deed), PV.data (ji : List Deed), PV.eq (vi ((ji.length : Int))), PV.eq (vb (!decide ((jg.length : Int) = (ji.length : Int))))] (Steps_cons ?_ (Steps_cons ?_ (Steps_cons ?_ (Steps_cons ?_ (Steps_cons ?_ (Steps_cons ?_ (Steps_cons ?_ (Steps_cons ?_ (Steps_cons ?_ (Steps_cons ?_ (Steps_cons ?_ Steps_nil))))))))))) ?_
     ·intro jk jl jm jn jo Q jp; have jq : jk 0 = w0 := (jo 0 (by kernel_rfl)).trans jd; exact mv jq (fin jp (h0.mono (jb.trans jm.le)))
     ·intro jk jl jm jn jo Q jp; have jq : jk 5 = vi (j5) := (jo 5 (by kernel_rfl)).trans jc; exact mv jq (fin jp rfl)
     ·intro jk jl jm jn jo Q jp; have jq : V _ (jk 20) (a0 : List (List Deed)) := jn 0 20 (by kernel_rfl) (by kernel_rfl); obtain ⟨jr, js, jt⟩ : ∃ v, _ = v ∧ V _ v _ := ⟨_, rfl, jq⟩; have ju : jk 21 = vi (j5) := jn 1 21 (by kernel_rfl) (by kernel_rfl); exact ix Try.underlying29 ty59.inf js jt ju jh (fun jv jw => fin jp jw)
     ·intro jk jl jm jn jo Q jp; have jq : Ptr _ (jk 22) (jg : List Deed) := jn 2 22 (by kernel_rfl) (by kernel_rfl); obtain ⟨jr, js, jt⟩ : ∃ v, _ = v ∧ Ptr _ v _ := ⟨_, rfl, jq⟩; exact ld ty59 js jt (fun ju jv => fin jp jv)
     ·intro jk jl jm jn jo Q jp; have jq : V _ (jk 23) (jg : List Deed) := jn 3 23 (by kernel_rfl) (by kernel_rfl); obtain ⟨jr, js, jt⟩ : ∃ v, _ = v ∧ V _ v _ := ⟨_, rfl, jq⟩; exact ln Try.underlying59 js jt (fin jp rfl)
     ·intro jk jl jm jn jo Q jp; have jq : jk 1 = w1 := (jo 1 (by kernel_rfl)).trans je; exact mv jq (fin jp (h1.mono (jb.trans jm.le)))
     ·intro jk jl jm jn jo Q jp; have jq : jk 5 = vi (j5) := (jo 5 (by kernel_rfl)).trans jc; exact mv jq (fin jp rfl)
     ·intro jk jl jm jn jo Q jp; have jq : V _ (jk 25) (a1 : List (List Deed)) := jn 5 25 (by kernel_rfl) (by kernel_rfl); obtain ⟨jr, js, jt⟩ : ∃ v, _ = v ∧ V _ v _ := ⟨_, rfl, jq⟩; have ju : jk 26 = vi (j5) := jn 6 26 (by kernel_rfl) (by kernel_rfl); exact ix Try.underlying22 ty65.inf js jt ju jj (fun jv jw => fin jp jw)
     ·intro jk jl jm jn jo Q jp; have jq : Ptr _ (jk 27) (ji : List Deed) := jn 7 27 (by kernel_rfl) (by kernel_rfl); obtain ⟨jr, js, jt⟩ : ∃ v, _ = v ∧ Ptr _ v _ := ⟨_, rfl, jq⟩; exact ld ty65 js jt (fun ju jv => fin jp jv)
     ·intro jk jl jm jn jo Q jp; have jq : V _ (jk 28) (ji : List Deed) := jn 8 28 (by kernel_rfl) (by kernel_rfl); obtain ⟨jr, js, jt⟩ : ∃ v, _ = v ∧ V _ v _ := ⟨_, rfl, jq⟩; exact ln Try.underlying65 js jt (fin jp rfl)
     ·intro jk jl jm jn jo Q jp; have jq : jk 24 = vi ((jg.length : Int)) := jn 4 24 (by kernel_rfl) (by kernel_rfl); have jr : jk 29 = vi ((ji.length : Int)) := jn 9 29 (by kernel_rfl) (by kernel_rfl); exact ne jq jr (fin jp rfl)
     ·intro jk jl jm jn jo
      have jp := Tch.ext ja jm
      have jq : jk 0 = w0 := (jo 0 (by kernel_rfl)).trans jd
      have jr : jk 1 = w1 := (jo 1 (by kernel_rfl)).trans je
      have js : jk 5 = vi (j5) := (jo 5 (by kernel_rfl)).trans jc
      have jt : jk 30 = vb (!decide ((jg.length : Int) = (ji.length : Int))) := jn 10 30 (by kernel_rfl)
      refine then_n ?_
      refine W_cond _ jt (fun ju => ?_) (fun ju => ?_)
      ·have hr := ite_t ju hr; refine sr (asg (rv (vb false)) (nn (W_ret (then_r (block_r (then_r (then_r (block_r ?_)))))))); obtain rfl := Option.some.inj hr; have hr := j4; (try dsimp only at hr); refine then_r (then_r ?_); obtain rfl := Option.some.inj hr; exact done1 (Or.inl rfl) Try.results17 rfl ⟨_, _, rfl, rfl, jp, Vbool⟩
      ·have hr := ite_f ju hr
       refine W_skip (then_n (sr (asg (rv (vi 0)) (nn ?_))))
       obtain ⟨jv, jw, jx⟩ := bind_some hr
       refine W_cut (fun f w => ∃ (s : St), s.w = w ∧ Ext s0 s ∧ Le jl s ∧ Sum.inl () = jv ∧ f 0 = w0 ∧ f 1 = w1 ∧ f 5 = vi (j5)) ?_ ?_
       ·refine W_block (W_loop (fun m f w => ∃ (s : St) (jy : Int), s.w = w ∧ Ext s0 s ∧ Le jl s ∧ law08_same_l2 N a0 a1 j5 m jy = some jv ∧ f 6 = vi jy ∧ f 0 = w0 ∧ f 1 = w1 ∧ f 5 = vi (j5)) N ⟨jl, 0, rfl, jp, (Le.refl _), jw, rfl, jq, jr, js⟩ ?_)
        rintro jz k0 k1 ⟨k2, jy, rfl, k3, k4, hr, k5, k6, k7, k8⟩
        cases jz with
        | zero => exact absurd hr (by simp [law08_same_l2])
        | succ jz =>
         rw [law08_same_l2.eq_2] at hr
         refine W_seq (sr (mv k5 (mv k6 (mv k8 ?_))))
         obtain ⟨k9, ka, hr⟩ := bind_some hr
         refine ix Try.underlying29 ty59.inf (rv w0) (h0.mono (jb.trans (jm.le.trans k4))) (rv (vi j5)) ka (fun kb kc => ld ty59 (rv kb) kc (fun kd ke => ln Try.underlying59 (rv kd) ke (ls (rv (vi jy)) (rv (vi ((k9.length : Int)))) (nn ?_))))
         refine W_cond _ (rv (vb (decide (jy < (k9.length : Int))))) (fun kf => ?_) (fun kf => ?_)
         ·have hr := ite_t kf hr
          refine W_skip (then_n (W_seq (W_block (W_seq ?_))))
          obtain ⟨kg, kh, hr⟩ := bind_some hr
          obtain ⟨ki, kj, hr⟩ := bind_some hr
          obtain ⟨kk, kl, hr⟩ := bind_some hr
          obtain ⟨km, kn, hr⟩ := bind_some hr
          refine W_drawP mixed 18 [PX.data (a0 : List (List Deed)), PX.eq (vi j5), PX.ptr (kg : List Deed), PX.data (kg : List Deed), PX.eq (vi jy), PX.ptr (ki : Deed), PX.data (ki : Deed), PX.data (a1 : List (List Deed)), PX.eq (vi j5), PX.ptr (kk : List Deed), PX.data (kk : List Deed), PX.eq (vi jy), PX.ptr (km : Deed), PX.data (km : Deed), PX.var s0.w.heap.size 64 ((⟨0, 0, 0, 0, false⟩ : Deed) : Deed), PX.var s0.w.heap.size 74 ((⟨0, 0, 0, 0, false⟩ : Deed) : Deed), PX.ptr (ki : Deed), PX.ptr (km : Deed)] [40, 41, 42, 43, 44, 45, 46, 47, 48, 49, 50, 51, 52, 53, 7, 8, 7, 8] [[], [], [], [], [], [], [], [], [], [], [], [], [], [], [], [], [14], [15]] rfl (by kernel_rfl) (ent0 rfl) (dis0 rfl) (StepsX_cons ?_ (StepsX_cons ?_ (StepsX_cons ?_ (StepsX_cons ?_ (StepsX_cons ?_ (StepsX_cons ?_ (StepsX_cons ?_ (StepsX_cons ?_ (StepsX_cons ?_ (StepsX_cons ?_ (StepsX_cons ?_ (StepsX_cons ?_ (StepsX_cons ?_ (StepsX_cons ?_ (StepsX_cons ?_ (StepsX_cons ?_ (StepsX_cons ?_ (StepsX_cons ?_ StepsX_nil)))))))))))))))))) ?_
          ·intro ko kp kq kr ks Q kt; have ku : ko 0 = w0 := (ks 0 (by kernel_rfl)).trans k6; exact mv ku (L_nil (kt _ _ No (Ext.refl kp) (fun _ h => h.elim) (h0.mono (jb.trans (jm.le.trans (k4.trans kq.le)))) (fun _ h => h.elim)))
          ·intro ko kp kq kr ks Q kt; have ku : ko 5 = vi (j5) := (ks 5 (by kernel_rfl)).trans k8; exact mv ku (L_nil (kt _ _ No (Ext.refl kp) (fun _ h => h.elim) rfl (fun _ h => h.elim)))
          ·intro ko kp kq kr ks Q kt; have ku : V _ (ko 40) (a0 : List (List Deed)) := kr 0 (by kernel_rfl) (by show _ < 18; decide); obtain ⟨kv, kw, kx⟩ : ∃ v, _ = v ∧ V _ v _ := ⟨_, rfl, ku⟩; have ky : ko 41 = vi (j5) := kr 1 (by kernel_rfl) (by show _ < 18; decide); exact ix Try.underlying29 ty59.inf kw kx ky kh (fun kz g0 => L_nil (kt _ _ No (Ext.refl kp) (fun _ h => h.elim) g0 (fun _ h => h.elim)))
          ·intro ko kp kq kr ks Q kt; have ku : Ptr _ (ko 42) (kg : List Deed) := kr 2 (by kernel_rfl) (by show _ < 18; decide); obtain ⟨kv, kw, kx⟩ : ∃ v, _ = v ∧ Ptr _ v _ := ⟨_, rfl, ku⟩; exact ld ty59 kw kx (fun ky kz => L_nil (kt _ _ No (Ext.refl kp) (fun _ h => h.elim) kz (fun _ h => h.elim)))
          ·intro ko kp kq kr ks Q kt; have ku : ko 6 = vi (jy) := (ks 6 (by kernel_rfl)).trans k5; exact mv ku (L_nil (kt _ _ No (Ext.refl kp) (fun _ h => h.elim) rfl (fun _ h => h.elim)))
          ·intro ko kp kq kr ks Q kt; have ku : V _ (ko 43) (kg : List Deed) := kr 3 (by kernel_rfl) (by show _ < 18; decide); obtain ⟨kv, kw, kx⟩ : ∃ v, _ = v ∧ V _ v _ := ⟨_, rfl, ku⟩; have ky : ko 44 = vi (jy) := kr 4 (by kernel_rfl) (by show _ < 18; decide); exact ix Try.underlying59 ty64.inf kw kx ky kj (fun kz g0 => L_nil (kt _ _ No (Ext.refl kp) (fun _ h => h.elim) g0 (fun _ h => h.elim)))
          ·intro ko kp kq kr ks Q kt; have ku : Ptr _ (ko 45) (ki : Deed) := kr 5 (by kernel_rfl) (by show _ < 18; decide); obtain ⟨kv, kw, kx⟩ : ∃ v, _ = v ∧ Ptr _ v _ := ⟨_, rfl, ku⟩; exact ld ty64 kw kx (fun ky kz => L_nil (kt _ _ No (Ext.refl kp) (fun _ h => h.elim) kz (fun _ h => h.elim)))
          ·intro ko kp kq kr ks Q kt; have ku : ko 1 = w1 := (ks 1 (by kernel_rfl)).trans k7; exact mv ku (L_nil (kt _ _ No (Ext.refl kp) (fun _ h => h.elim) (h1.mono (jb.trans (jm.le.trans (k4.trans kq.le)))) (fun _ h => h.elim)))
          ·intro ko kp kq kr ks Q kt; have ku : ko 5 = vi (j5) := (ks 5 (by kernel_rfl)).trans k8; exact mv ku (L_nil (kt _ _ No (Ext.refl kp) (fun _ h => h.elim) rfl (fun _ h => h.elim)))
          ·intro ko kp kq kr ks Q kt; have ku : V _ (ko 47) (a1 : List (List Deed)) := kr 7 (by kernel_rfl) (by show _ < 18; decide); obtain ⟨kv, kw, kx⟩ : ∃ v, _ = v ∧ V _ v _ := ⟨_, rfl, ku⟩; have ky : ko 48 = vi (j5) := kr 8 (by kernel_rfl) (by show _ < 18; decide); exact ix Try.underlying22 ty65.inf kw kx ky kl (fun kz g0 => L_nil (kt _ _ No (Ext.refl kp) (fun _ h => h.elim) g0 (fun _ h => h.elim)))
          ·intro ko kp kq kr ks Q kt; have ku : Ptr _ (ko 49) (kk : List Deed) := kr 9 (by kernel_rfl) (by show _ < 18; decide); obtain ⟨kv, kw, kx⟩ : ∃ v, _ = v ∧ Ptr _ v _ := ⟨_, rfl, ku⟩; exact ld ty65 kw kx (fun ky kz => L_nil (kt _ _ No (Ext.refl kp) (fun _ h => h.elim) kz (fun _ h => h.elim)))
          ·intro ko kp kq kr ks Q kt; have ku : ko 6 = vi (jy) := (ks 6 (by kernel_rfl)).trans k5; exact mv ku (L_nil (kt _ _ No (Ext.refl kp) (fun _ h => h.elim) rfl (fun _ h => h.elim)))
          ·intro ko kp kq kr ks Q kt; have ku : V _ (ko 50) (kk : List Deed) := kr 10 (by kernel_rfl) (by show _ < 18; decide); obtain ⟨kv, kw, kx⟩ : ∃ v, _ = v ∧ V _ v _ := ⟨_, rfl, ku⟩; have ky : ko 51 = vi (jy) := kr 11 (by kernel_rfl) (by show _ < 18; decide); exact ix Try.underlying65 ty74.inf kw kx ky kn (fun kz g0 => L_nil (kt _ _ No (Ext.refl kp) (fun _ h => h.elim) g0 (fun _ h => h.elim)))
          ·intro ko kp kq kr ks Q kt; have ku : Ptr _ (ko 52) (km : Deed) := kr 12 (by kernel_rfl) (by show _ < 18; decide); obtain ⟨kv, kw, kx⟩ : ∃ v, _ = v ∧ Ptr _ v _ := ⟨_, rfl, ku⟩; exact ld ty74 kw kx (fun ky kz => L_nil (kt _ _ No (Ext.refl kp) (fun _ h => h.elim) kz (fun _ h => h.elim)))
          ·intro ko kp kq kr ks Q kt; refine L_alloc (α := Deed) (x := ⟨0, 0, 0, 0, false⟩) zero64 Deed.zero_rel (by decide) (fun ku kv kw kx ky => ?_); have kz := Tch.ext (Ext.refl kp) kw; exact L_nil (kt _ _ No kz (fun _ h => h.elim) ⟨_, rfl, (Nat.le_trans (Nat.le_trans k3.size kq.size) kx), ky⟩ (fun k h => Or.inr (by cases h; exact kx)))
          ·intro ko kp kq kr ks Q kt; refine L_alloc (α := Deed) (x := ⟨0, 0, 0, 0, false⟩) zero74 Deed.zero_rel (by decide) (fun ku kv kw kx ky => ?_); have kz := Tch.ext (Ext.refl kp) kw; exact L_nil (kt _ _ No kz (fun _ h => h.elim) ⟨_, rfl, (Nat.le_trans (Nat.le_trans k3.size kq.size) kx), ky⟩ (fun k h => Or.inr (by cases h; exact kx)))
          ·intro ko kp kq kr ks Q kt; obtain ⟨ku, kv, kw, kx⟩ : ∃ b, ko 7 = Value.pointer (some ⟨b, 0, none⟩) ∧ s0.w.heap.size ≤ b ∧ Var kp b 64 ((⟨0, 0, 0, 0, false⟩ : Deed) : Deed) := kr 14 (by kernel_rfl) (by show _ < 18; decide); have ky : V _ (ko 46) (ki : Deed) := kr 6 (by kernel_rfl) (by show _ < 18; decide); obtain ⟨kz, g0, g1⟩ : ∃ v, _ = v ∧ V _ v _ := ⟨_, rfl, ky⟩; exact L_store_ro ty64 kv g0 g1 (kx) (fun g2 g3 g4 => L_nil (kt undef _ _ g3 (fun k h => ⟨14, (List.mem_singleton.2 rfl : (14 : Nat) ∈ [14]), (by show ownP (ko 7) k; rw [kv]; exact congrArg (fun z => Value.pointer (some ⟨z, 0, none⟩)) h.symm)⟩) (by show Ptr _ (ko 7) _; rw [kv]; exact g4) (fun _ h => h.elim)))
          ·intro ko kp kq kr ks Q kt; obtain ⟨ku, kv, kw, kx⟩ : ∃ b, ko 8 = Value.pointer (some ⟨b, 0, none⟩) ∧ s0.w.heap.size ≤ b ∧ Var kp b 74 ((⟨0, 0, 0, 0, false⟩ : Deed) : Deed) := kr 15 (by kernel_rfl) (by show _ < 18; decide); have ky : V _ (ko 53) (km : Deed) := kr 13 (by kernel_rfl) (by show _ < 18; decide); obtain ⟨kz, g0, g1⟩ : ∃ v, _ = v ∧ V _ v _ := ⟨_, rfl, ky⟩; exact L_store_ro ty74 kv g0 g1 (kx) (fun g2 g3 g4 => L_nil (kt undef _ _ g3 (fun k h => ⟨15, (List.mem_singleton.2 rfl : (15 : Nat) ∈ [15]), (by show ownP (ko 8) k; rw [kv]; exact congrArg (fun z => Value.pointer (some ⟨z, 0, none⟩)) h.symm)⟩) (by show Ptr _ (ko 8) _; rw [kv]; exact g4) (fun _ h => h.elim)))
          ·intro ko kp kq kr ks kt
           have ku := Tch.trans k3 kq (fun k h => absurd h (ent_none (k := 18) rfl rfl k))
           obtain ⟨kv, kw, kx⟩ : ∃ p, ko 7 = p ∧ Ptr kp p (ki : Deed) := ⟨_, rfl, kr 16 (by show _ < 18; decide) (by kernel_rfl)⟩
           obtain ⟨ky, kz, g0⟩ : ∃ p, ko 8 = p ∧ Ptr kp p (km : Deed) := ⟨_, rfl, kr 17 (by show _ < 18; decide) (by kernel_rfl)⟩
           have g1 : ko 0 = w0 := (kt 0 (by kernel_rfl)).trans k6
           have g2 : ko 1 = w1 := (kt 1 (by kernel_rfl)).trans k7
           have g3 : ko 5 = vi (j5) := (kt 5 (by kernel_rfl)).trans k8
           have g4 : ko 6 = vi (jy) := (kt 6 (by kernel_rfl)).trans k5
           refine then_n ?_
           obtain ⟨g5, g6, g7⟩ := bind_some hr
           refine W_seq_cut (fun f w => ∃ (s : St) (g8 : Bool), s.w = w ∧ Ext s0 s ∧ Le kp s ∧ g8 = g5 ∧ f 86 = vb g8 ∧ f 0 = w0 ∧ f 1 = w1 ∧ f 5 = vi (j5) ∧ f 6 = vi (jy)) ?_ ?_
           ·have hr := g6
            refine W_region (fa fld64_0 Deed.of_Kind kw kx (fun g9 ga => li ty3 (rv g9) ga (fa fld74_0 Deed.of_Kind kz g0 (fun gb gc => li ty3 (rv gb) gc (ne (rv (vi (ki.Kind))) (rv (vi (km.Kind))) (mv (rv (vb (!decide (ki.Kind = km.Kind)))) ?_))))))
            rcases tf (!decide (ki.Kind = km.Kind)) with gd | gd
            ·have hr := ite_t gd hr; refine gf 59 (rv (vb (!decide (ki.Kind = km.Kind)))) gd (gf 59 (rv (vb (!decide (ki.Kind = km.Kind)))) gd (gf 59 (rv (vb (!decide (ki.Kind = km.Kind)))) gd (gf 59 (rv (vb (!decide (ki.Kind = km.Kind)))) gd (gf 59 (rv (vb (!decide (ki.Kind = km.Kind)))) gd (pt (rv (vb (!decide (ki.Kind = km.Kind)))) gd (rv (vb true)) (mv (rv (vb true)) (gf 66 (rv (vb true)) rfl (gf 66 (rv (vb true)) rfl (gf 66 (rv (vb true)) rfl (gf 66 (rv (vb true)) rfl (gf 66 (rv (vb true)) rfl (pt (rv (vb true)) rfl (rv (vb true)) (mv (rv (vb true)) ?_))))))))))))); exact gf 73 (rv (vb true)) rfl (gf 73 (rv (vb true)) rfl (gf 73 (rv (vb true)) rfl (gf 73 (rv (vb true)) rfl (gf 73 (rv (vb true)) rfl (pt (rv (vb true)) rfl (rv (vb true)) (mv (rv (vb true)) (gf 80 (rv (vb true)) rfl (gf 80 (rv (vb true)) rfl (gf 80 (rv (vb true)) rfl (gf 80 (rv (vb true)) rfl (gf 80 (rv (vb true)) rfl (pt (rv (vb true)) rfl (rv (vb true)) (nn ⟨kp, true, rfl, ku, (Le.refl _), Option.some.inj hr, rfl, g1, g2, g3, g4⟩)))))))))))))
            ·have hr := ite_f gd hr
             refine gt 59 (rv (vb (!decide (ki.Kind = km.Kind)))) gd (fa fld64_1 Deed.of_Peer kw kx (fun gg gh => gt 59 (rv (vb (!decide (ki.Kind = km.Kind)))) gd (li ty3 (rv gg) gh (gt 59 (rv (vb (!decide (ki.Kind = km.Kind)))) gd (fa fld74_1 Deed.of_Peer kz g0 (fun gi gj => gt 59 (rv (vb (!decide (ki.Kind = km.Kind)))) gd (li ty3 (rv gi) gj (gt 59 (rv (vb (!decide (ki.Kind = km.Kind)))) gd (ne (rv (vi (ki.Peer))) (rv (vi (km.Peer))) (pf (rv (vb (!decide (ki.Kind = km.Kind)))) gd (rv (vb (!decide (ki.Peer = km.Peer)))) (mv (rv (vb (!decide (ki.Peer = km.Peer)))) ?_)))))))))))
             rcases tf (!decide (ki.Peer = km.Peer)) with gk | gk
             ·have hr := ite_t gk hr; refine gf 66 (rv (vb (!decide (ki.Peer = km.Peer)))) gk (gf 66 (rv (vb (!decide (ki.Peer = km.Peer)))) gk (gf 66 (rv (vb (!decide (ki.Peer = km.Peer)))) gk (gf 66 (rv (vb (!decide (ki.Peer = km.Peer)))) gk (gf 66 (rv (vb (!decide (ki.Peer = km.Peer)))) gk (pt (rv (vb (!decide (ki.Peer = km.Peer)))) gk (rv (vb true)) (mv (rv (vb true)) (gf 73 (rv (vb true)) rfl (gf 73 (rv (vb true)) rfl (gf 73 (rv (vb true)) rfl (gf 73 (rv (vb true)) rfl (gf 73 (rv (vb true)) rfl (pt (rv (vb true)) rfl (rv (vb true)) (mv (rv (vb true)) ?_))))))))))))); exact gf 80 (rv (vb true)) rfl (gf 80 (rv (vb true)) rfl (gf 80 (rv (vb true)) rfl (gf 80 (rv (vb true)) rfl (gf 80 (rv (vb true)) rfl (pt (rv (vb true)) rfl (rv (vb true)) (nn ⟨kp, true, rfl, ku, (Le.refl _), Option.some.inj hr, rfl, g1, g2, g3, g4⟩))))))
             ·have hr := ite_f gk hr
              refine gt 66 (rv (vb (!decide (ki.Peer = km.Peer)))) gk (fa fld64_2 Deed.of_Tag kw kx (fun gl gm => gt 66 (rv (vb (!decide (ki.Peer = km.Peer)))) gk (li ty3 (rv gl) gm (gt 66 (rv (vb (!decide (ki.Peer = km.Peer)))) gk (fa fld74_2 Deed.of_Tag kz g0 (fun gn go => gt 66 (rv (vb (!decide (ki.Peer = km.Peer)))) gk (li ty3 (rv gn) go (gt 66 (rv (vb (!decide (ki.Peer = km.Peer)))) gk (ne (rv (vi (ki.Tag))) (rv (vi (km.Tag))) (pf (rv (vb (!decide (ki.Peer = km.Peer)))) gk (rv (vb (!decide (ki.Tag = km.Tag)))) (mv (rv (vb (!decide (ki.Tag = km.Tag)))) ?_)))))))))))
              rcases tf (!decide (ki.Tag = km.Tag)) with gp | gp
              ·have hr := ite_t gp hr; exact gf 73 (rv (vb (!decide (ki.Tag = km.Tag)))) gp (gf 73 (rv (vb (!decide (ki.Tag = km.Tag)))) gp (gf 73 (rv (vb (!decide (ki.Tag = km.Tag)))) gp (gf 73 (rv (vb (!decide (ki.Tag = km.Tag)))) gp (gf 73 (rv (vb (!decide (ki.Tag = km.Tag)))) gp (pt (rv (vb (!decide (ki.Tag = km.Tag)))) gp (rv (vb true)) (mv (rv (vb true)) (gf 80 (rv (vb true)) rfl (gf 80 (rv (vb true)) rfl (gf 80 (rv (vb true)) rfl (gf 80 (rv (vb true)) rfl (gf 80 (rv (vb true)) rfl (pt (rv (vb true)) rfl (rv (vb true)) (nn ⟨kp, true, rfl, ku, (Le.refl _), Option.some.inj hr, rfl, g1, g2, g3, g4⟩)))))))))))))
              ·have hr := ite_f gp hr
               refine gt 73 (rv (vb (!decide (ki.Tag = km.Tag)))) gp (fa fld64_3 Deed.of_Req kw kx (fun gq gr => gt 73 (rv (vb (!decide (ki.Tag = km.Tag)))) gp (li ty3 (rv gq) gr (gt 73 (rv (vb (!decide (ki.Tag = km.Tag)))) gp (fa fld74_3 Deed.of_Req kz g0 (fun gs gu => gt 73 (rv (vb (!decide (ki.Tag = km.Tag)))) gp (li ty3 (rv gs) gu (gt 73 (rv (vb (!decide (ki.Tag = km.Tag)))) gp (ne (rv (vi (ki.Req))) (rv (vi (km.Req))) (pf (rv (vb (!decide (ki.Tag = km.Tag)))) gp (rv (vb (!decide (ki.Req = km.Req)))) (mv (rv (vb (!decide (ki.Req = km.Req)))) ?_)))))))))))
               rcases tf (!decide (ki.Req = km.Req)) with gv | gv
               ·have hr := ite_t gv hr; exact gf 80 (rv (vb (!decide (ki.Req = km.Req)))) gv (gf 80 (rv (vb (!decide (ki.Req = km.Req)))) gv (gf 80 (rv (vb (!decide (ki.Req = km.Req)))) gv (gf 80 (rv (vb (!decide (ki.Req = km.Req)))) gv (gf 80 (rv (vb (!decide (ki.Req = km.Req)))) gv (pt (rv (vb (!decide (ki.Req = km.Req)))) gv (rv (vb true)) (nn ⟨kp, true, rfl, ku, (Le.refl _), Option.some.inj hr, rfl, g1, g2, g3, g4⟩))))))
               ·have hr := ite_f gv hr; exact gt 80 (rv (vb (!decide (ki.Req = km.Req)))) gv (fa fld64_4 Deed.of_Sync kw kx (fun gw gx => gt 80 (rv (vb (!decide (ki.Req = km.Req)))) gv (L_load_bool ty4 (rv gw) gx (by decide) (gt 80 (rv (vb (!decide (ki.Req = km.Req)))) gv (fa fld74_4 Deed.of_Sync kz g0 (fun gy gz => gt 80 (rv (vb (!decide (ki.Req = km.Req)))) gv (L_load_bool ty4 (rv gy) gz (by decide) (gt 80 (rv (vb (!decide (ki.Req = km.Req)))) gv (L_bne Try.underlying4 (rv (vb (ki.Sync))) (rv (vb (km.Sync))) (by decide) (pf (rv (vb (!decide (ki.Req = km.Req)))) gv (rv (vb (!(ki.Sync == km.Sync)))) (nn ⟨kp, (!(ki.Sync == km.Sync)), rfl, ku, (Le.refl _), Option.some.inj hr, rfl, g1, g2, g3, g4⟩)))))))))))
           ·rintro g9 ga ⟨gb, g8, rfl, gc, gd, g6, gg, gh, gi, gj, gk⟩
            subst g6
            have hr := g7
            try dsimp only at hr
            refine W_cond _ gg (fun gl => ?_) (fun gl => ?_)
            ·have hr := ite_t gl hr; refine sr (asg (rv (vb false)) (nn (W_ret (block_r (then_r (then_r (block_r ?_))))))); obtain rfl := Option.some.inj hr; have hr := jx; (try dsimp only at hr); refine then_r (block_r (then_r (then_r (block_r ?_)))); obtain rfl := Option.some.inj hr; have hr := j4; (try dsimp only at hr); refine then_r (then_r ?_); obtain rfl := Option.some.inj hr; exact done1 (Or.inl rfl) Try.results17 rfl ⟨_, _, rfl, rfl, gc, Vbool⟩
            ·have hr := ite_f gl hr; refine W_skip (block_n (then_n (W_region (mv gk ?_)))); obtain ⟨gm, hr⟩ := chk_some hr; exact ad (rv (vi jy)) (rv (vi 1)) gm (asg (rv (vi (jy + 1))) (nn ⟨jz, Nat.lt_succ_self _, ⟨gb, (jy + 1), rfl, gc, (k4.trans (kq.le.trans gd)), hr, rfl, gh, gi, gj⟩⟩))
         ·have hr := ite_f kf hr; refine W_exit (then_x (then_x (block_here ?_))); exact then_n ⟨k2, rfl, k3, k4, Option.some.inj hr, k6, k7, k8⟩
       ·rintro jy jz ⟨k0, rfl, k1, k2, jw, k3, k4, k5⟩; subst jw; have hr := jx; (try dsimp only at hr); refine block_n (then_n (W_region (mv k5 ?_))); obtain ⟨k6, hr⟩ := chk_some hr; exact ad (rv (vi j5)) (rv (vi 1)) k6 (asg (rv (vi (j5 + 1))) (nn ⟨j6, Nat.lt_succ_self _, ⟨k0, (j5 + 1), rfl, k1, (jb.trans (jm.le.trans k2)), hr, rfl, k3, k4⟩⟩))
    ·have hr := ite_f jf hr; refine W_exit (then_x (then_x (block_here ?_))); exact then_n ⟨j9, rfl, ja, jb, Option.some.inj hr⟩
  ·rintro j5 j6 ⟨j7, rfl, j8, j9, j3⟩; subst j3; have hr := j4; (try dsimp only at hr); refine then_n (sr (asg (rv (vb true)) (nn (W_ret ?_)))); obtain rfl := Option.some.inj hr; exact done1 (Or.inl rfl) Try.results17 rfl ⟨_, _, rfl, rfl, j8, Vbool⟩

theorem ref08_Case_ended_ok (N : Nat) (s0 : St) (w0 : Value) (bat : Nat) (a0 : Case) (h0 : Shell Case.with_At 2 s0 w0 bat (a0.At).length a0) (hbat : Arr s0 bat 3 (a0.At).length a0.At) (r : (List Int) × (List Int)) (hr : ref08_Case_ended N a0 = some r) :
    Calls Try.prog 85 #[w0] s0.w (RetM (fun k => k = bat) s0 fun v s => V s v r.1 ∧ Arr s bat 3 (a0.At).length r.2) := by
 unfold ref08_Case_ended at hr
 have j0 := Tch.refl (fun k => k = bat) s0
 refine Calls_of (n := 23) (args := [w0]) Try.func85 rfl rfl (by simp) (sr (asg (rv (Value.slice none 0 0)) (nn (sr (asg (rv (Value.slice none 0 0)) (nn ?_))))))
 obtain ⟨j1, j2, j3⟩ := bind_some hr
 refine W_cut (fun f w => ∃ (s : St) (j4 : Value) (j5 : List Int) (j6 : List Int), s.w = w ∧ Tch (fun k => k = bat) s0 s ∧ Le s0 s ∧ Sum.inl (j5, j6) = j1 ∧ f 2 = j4 ∧ V s j4 j5 ∧ Arr s bat 3 (a0.At).length j6) ?_ ?_
 ·refine W_block (W_loop (fun m f w => ∃ (s : St) (j7 : Value) (j8 : List Int) (j9 : List Int), s.w = w ∧ Tch (fun k => k = bat) s0 s ∧ Le s0 s ∧ ref08_Case_ended_l1 N a0 m j8 j9 = some j1 ∧ f 3 = j7 ∧ Bld s s0.w.heap.size 3 j7 j8 ∧ f 0 = w0 ∧ Arr s bat 3 (a0.At).length j9 ∧ (∀ k, (own j7) k → ¬ (fun k => k = bat) k)) N ⟨s0, (Value.slice none 0 0), ([]), a0.At, rfl, j0, (Le.refl _), j2, rfl, Bld.nil, rfl, hbat, (fun k h => absurd h own_nil)⟩ ?_)
  rintro ja jb jc ⟨jd, j7, j8, j9, rfl, je, jf, hr, jg, jh, ji, jj, jk⟩
  cases ja with
  | zero => exact absurd hr (by simp [ref08_Case_ended_l1])
  | succ ja =>
   rw [ref08_Case_ended_l1.eq_2] at hr
   refine W_block (sr (mv ji ?_))
   obtain ⟨jl, jm, hr⟩ := bind_some hr
   obtain ⟨jn, jo, jp, jq⟩ := (jj).freeze
   refine L_calls_fz cal36 (args1 (rv w0)) jo jp (fun k hk => by have jr : k = bat := hk; rw [jr]; exact (jj).g) (ref08_Case_least_ok N _ _ _ ((h0.mono (jf.trans jp.le)).ptr jq) jl jm) (by decide) (fun js jt ju jv jw jx => ?_)
   have jy := Tch.ext je jw
   obtain rfl := jx.int
   refine asg (rv (vi jl)) (nn (W_seq (sr (mv (rv (vi jl)) (ls (rv (vi jl)) (rv (vi 0)) (nn ?_))))))
   refine W_cond _ (rv (vb (decide (jl < 0)))) (fun jz => ?_) (fun jz => ?_)
   ·have hr := ite_t jz hr; refine sr (mv jg (asg (rv j7) (nn (W_ret (then_r (block_r (then_r (block_r ?_)))))))); obtain rfl := Option.some.inj hr; have hr := j3; (try dsimp only at hr); refine then_r ?_; obtain rfl := Option.some.inj hr; exact done1 (Or.inl rfl) Try.results85 rfl ⟨_, _, rfl, rfl, jy, ((jh).ext jw).toV, (jj).ext jw⟩
   ·have hr := ite_f jz hr
    refine W_skip (then_n (sr (mv ji (L_nilCheck_shell (rv w0) (h0.mono (jf.trans jw.le)) (by decide) (L_fieldAddr_shell fld79_2 (rv w0) (h0.mono (jf.trans jw.le)) (by decide) (fun k0 k1 => L_load_cell Try.underlying23 rfl (rv k0) k1 (by decide) (mv (rv (vi jl)) ?_)))))))
    obtain ⟨k2, k3, hr⟩ := bind_some hr
    refine L_indexA (sz := 1) Try.underlying23 ty3.inf (rv (Value.slice (some ⟨bat, 0, none⟩) (a0.At).length (a0.At).length)) (rv (vi jl)) (idx_some k3).1 (by have := (idx_some k3).2.1; have := ((jj).ext jw).1; omega) (by decide) (L_loadA (xs := j9) ty3 (rv (Value.pointer (some ⟨bat, (jl).toNat * 1, none⟩))) ((jj).ext jw) k3 (by decide) (fun k4 k5 => ?_))
    obtain rfl := k5.int
    obtain ⟨k6, hr⟩ := chk_some hr
    refine ad (rv (vi k2)) (rv (vi 1)) k6 ?_
    obtain ⟨k7, k8, hr⟩ := bind_some hr
    refine L_indexA (sz := 1) Try.underlying23 ty3.inf (rv (Value.slice (some ⟨bat, 0, none⟩) (a0.At).length (a0.At).length)) (rv (vi jl)) (idx_some k8).1 (by have := (idx_some k8).2.1; have := ((jj).ext jw).1; omega) (by decide) (L_storeA (xs := j9) ty3 (rv (Value.pointer (some ⟨bat, (jl).toNat * 1, none⟩))) (rv (vi (k2 + 1))) Vint ((jj).ext jw) k8 (fun k9 ka kb => ?_))
    have kc := Tch.trans jy ka (fun k hk => Or.inl hk)
    refine nn (W_region (mv jg (mv (rv (vi jl)) (L_buildSlice (xs := ([jl] : List Int)) Try.underlying23 tyz3 (Parts_cons rfl (rv (vi jl)) Parts_nil) (Vs.cons Vint Vs.nil) rfl (by decide) (by decide) (fun kd ke kf kg kh => ?_)))))
    have ki := Tch.ext kc kf
    obtain ⟨kj, hr⟩ := chk_some hr
    refine L_append (xs := j8) (B := s0.w.heap.size) Try.underlying23 tyz3 (rv j7) (rv ke) ((((jh).ext jw).tch ka jk).ext kf) (ki.size) kh kj.1 kj.2 (by decide) (fun kk kl km => ?_)
    have kn := km.tchM ((((jh).ext jw).tch ka jk).ext kf) ki (Nat.le_refl _)
    have ko : ∀ k, (fun k => k = bat) k → ¬ own kk k := fun k kp kq => by rcases km.own k kq with kr | kr; exact (fun k hk hm => jk k hm hk) k kp kr; have ks := ((kb).ext kf).lt; subst kp; omega
    refine asg (rv kk) (L_nil (block_n ?_))
    exact then_n ⟨ja, Nat.lt_succ_self _, ⟨kl, kk, (j8 ++ ([jl] : List Int)), (j9.set (jl).toNat (k2 + 1)), rfl, kn, (jf.trans (jw.le.trans (ka.le.trans (kf.le.trans km.tch.le)))), hr, rfl, km.bld, ji, ((kb).ext kf).tch km.tch ((fun k hk hm => jk k hm hk) bat rfl), (fun k hk hm => ko k hm hk)⟩⟩
 ·rintro j7 j8 ⟨j9, j4, j5, j6, rfl, ja, jb, j2, jc, jd, je⟩; subst j2; have hr := j3; (try dsimp only at hr); obtain rfl := Option.some.inj hr; exact done1 (Or.inr rfl) Try.results85 jc ⟨_, _, rfl, rfl, ja, jd, je⟩

theorem ref08_End_ok (N : Nat) (s0 : St) (w0 : Value) (a0 : List (List Deed)) (h0 : V s0 w0 a0) (a1 : Int) (r : (List Int) × Int) (hr : ref08_End N a0 a1 = some r) :
    Calls Try.prog 73 #[w0, .int .i64 a1] s0.w (Ret s0 fun v s => ∃ a b, v = .tuple #[a, b] ∧ V s a r.1 ∧ V s b r.2) := by
 unfold ref08_End at hr
 have j0 := Ext.refl s0
 refine Calls_of (n := 23) (args := [w0, .int .i64 a1]) Try.func73 rfl rfl (by simp) (sr (asg (rv (Value.slice none 0 0)) (asg (rv (vi 0)) (nn (sr (mv (rv w0) (mv (rv (vi a1)) ?_)))))))
 obtain ⟨j1, j2, hr⟩ := bind_some hr
 refine L_calls cal34 (args2 (rv w0) (rv (vi a1))) (ref08_started_ok N _ _ _ h0 a1 j1 j2) (by decide) (fun j3 j4 j5 j6 => ?_)
 have j7 := Tch.ext j0 j5
 obtain ⟨j8, j9, rfl, ja, jb⟩ := j6
 obtain rfl := jb.int
 refine mv (rv (Value.tuple #[j8, vi (j1.2)])) (xt (rv (Value.tuple #[j8, vi (j1.2)])) (k := 0) rfl (xt (rv (Value.tuple #[j8, vi (j1.2)])) (k := 1) rfl (asg (rv j8) (asg (rv (vi (j1.2))) (nn (W_seq (sr (mv (rv (vi (j1.2))) (ne (rv (vi (j1.2))) (rv (vi 0)) (nn ?_))))))))))
 refine W_cond _ (rv (vb (!decide (j1.2 = 0)))) (fun jc => ?_) (fun jc => ?_)
 ·have hr := ite_t jc hr; refine sr (mv (rv (vi (j1.2))) (asg (rv (Value.slice none 0 0)) (asg (rv (vi (j1.2))) (nn (W_ret (then_r ?_)))))); obtain rfl := Option.some.inj hr; exact done2 (Or.inl rfl) Try.results73 rfl rfl ⟨_, _, rfl, rfl, j7, _, _, rfl, Vnil, Vint⟩
 ·have hr := ite_f jc hr; refine W_skip (then_n (sr (mv (rv j8) ?_))); obtain ⟨jd, je, hr⟩ := bind_some hr; obtain ⟨jf, jg, jh, ji⟩ := ja.open je; obtain ⟨jj, jk, hr⟩ := bind_some hr; refine L_calls_mut cal85 (args1 (rv j8)) (ref08_Case_ended_ok N _ _ jf (Case.with_At jd jd.At) (jh.at (fun _ => rfl) (ji)) (ji).self jj jk) (by decide) ?_; rintro jl jm jn ⟨jo, jp⟩; have jq := Tch.trans j7 jn (fun k hk => Or.inr (by subst hk; exact (Nat.le_trans j0.size jg))); have jp := (ji).back jp; obtain ⟨jr, js, jt, ju⟩ := (jp).freeze; rw [← js]; have jv := Tch.trans jq jt (fun k hk => Or.inr (by subst hk; exact (Nat.le_trans j0.size jg))); refine nn (sr (mv (rv j8) (L_nilCheck_ptr (rv j8) ((jh.mono (jn.le.trans jt.le)).ptr ju) (by decide) (fa fld79_2 Case.of_At (rv j8) ((jh.mono (jn.le.trans jt.le)).ptr ju) (fun jw jx => ld ty23 (rv jw) jx (fun jy jz => asg (rv jy) (asg (rv (vi 0)) (nn (W_ret ?_))))))))); obtain rfl := Option.some.inj hr; exact done2 (Or.inl rfl) Try.results73 rfl rfl ⟨_, _, rfl, rfl, jv, _, _, rfl, jz, Vint⟩

theorem ref08_comes_ok (N : Nat) (s0 : St) (w0 : Value) (a0 : List (List Deed)) (h0 : V s0 w0 a0) (a1 : Int) (r : Bool) (hr : ref08_comes N a0 a1 = some r) :
    Calls Try.prog 48 #[w0, .int .i64 a1] s0.w (Ret s0 fun v s => V s v r) := by
 unfold ref08_comes at hr
 have j0 := Ext.refl s0
 refine Calls_of (n := 30) (args := [w0, .int .i64 a1]) Try.func48 rfl rfl (by simp) (sr (asg (rv (vb false)) (nn (sr (mv (rv w0) (mv (rv (vi a1)) ?_))))))
 obtain ⟨j1, j2, hr⟩ := bind_some hr
 refine L_calls cal73 (args2 (rv w0) (rv (vi a1))) (ref08_End_ok N _ _ _ h0 a1 j1 j2) (by decide) (fun j3 j4 j5 j6 => ?_)
 have j7 := Tch.ext j0 j5
 obtain ⟨j8, j9, rfl, ja, jb⟩ := j6
 obtain rfl := jb.int
 refine mv (rv (Value.tuple #[j8, vi (j1.2)])) (xt (rv (Value.tuple #[j8, vi (j1.2)])) (k := 0) rfl (xt (rv (Value.tuple #[j8, vi (j1.2)])) (k := 1) rfl (asg (rv j8) (asg (rv (vi (j1.2))) (nn (W_seq (sr (asg (rv (vi 0)) (nn ?_)))))))))
 obtain ⟨jc, jd, je⟩ := bind_some hr
 refine W_cut (fun f w => ∃ (s : St), s.w = w ∧ Ext s0 s ∧ Le j4 s ∧ Sum.inl () = jc) ?_ ?_
 ·refine W_block (W_loop (fun m f w => ∃ (s : St) (jf : Int), s.w = w ∧ Ext s0 s ∧ Le j4 s ∧ ref08_comes_l1 N a0 j1 m jf = some jc ∧ f 7 = vi jf ∧ f 0 = w0 ∧ f 5 = j8) N ⟨j4, 0, rfl, j7, (Le.refl _), jd, rfl, rfl, rfl⟩ ?_)
  rintro jg jh ji ⟨jj, jf, rfl, jk, jl, hr, jm, jn, jo⟩
  cases jg with
  | zero => exact absurd hr (by simp [ref08_comes_l1])
  | succ jg =>
   rw [ref08_comes_l1.eq_2] at hr
   refine W_seq (sr (mv jm (mv jn (ln Try.underlying22 (rv w0) (h0.mono (j5.le.trans jl)) (ls (rv (vi jf)) (rv (vi ((a0.length : Int)))) (nn ?_))))))
   refine W_cond _ (rv (vb (decide (jf < (a0.length : Int))))) (fun jp => ?_) (fun jp => ?_)
   ·have hr := ite_t jp hr
    refine W_skip (then_n (W_seq (W_block (W_seq ?_))))
    obtain ⟨jq, jr, hr⟩ := bind_some hr
    obtain ⟨js, jt, hr⟩ := bind_some hr
    refine W_draws mixed (by kernel_rfl) [PV.data (j1.1 : List Int), PV.eq (vi jf), PV.ptr (jq : Int), PV.eq (vi jq), PV.data (a0 : List (List Deed)), PV.eq (vi jf), PV.ptr (js : List Deed), PV.data (js : List Deed), PV.eq (vi ((js.length : Int))), PV.eq (vb (decide (jq < (js.length : Int))))] (Steps_cons ?_ (Steps_cons ?_ (Steps_cons ?_ (Steps_cons ?_ (Steps_cons ?_ (Steps_cons ?_ (Steps_cons ?_ (Steps_cons ?_ (Steps_cons ?_ (Steps_cons ?_ Steps_nil)))))))))) ?_
    ·intro ju jv jw jx jy Q jz; have k0 : ju 5 = j8 := (jy 5 (by kernel_rfl)).trans jo; exact mv k0 (fin jz (ja.mono (jl.trans jw.le)))
    ·intro ju jv jw jx jy Q jz; have k0 : ju 7 = vi (jf) := (jy 7 (by kernel_rfl)).trans jm; exact mv k0 (fin jz rfl)
    ·intro ju jv jw jx jy Q jz; have k0 : V _ (ju 20) (j1.1 : List Int) := jx 0 20 (by kernel_rfl) (by kernel_rfl); obtain ⟨k1, k2, k3⟩ : ∃ v, _ = v ∧ V _ v _ := ⟨_, rfl, k0⟩; have k4 : ju 21 = vi (jf) := jx 1 21 (by kernel_rfl) (by kernel_rfl); exact ix Try.underlying23 ty3.inf k2 k3 k4 jr (fun k5 k6 => fin jz k6)
    ·intro ju jv jw jx jy Q jz; have k0 : Ptr _ (ju 22) (jq : Int) := jx 2 22 (by kernel_rfl) (by kernel_rfl); obtain ⟨k1, k2, k3⟩ : ∃ v, _ = v ∧ Ptr _ v _ := ⟨_, rfl, k0⟩; exact li ty3 k2 k3 (fin jz rfl)
    ·intro ju jv jw jx jy Q jz; have k0 : ju 0 = w0 := (jy 0 (by kernel_rfl)).trans jn; exact mv k0 (fin jz (h0.mono (j5.le.trans (jl.trans jw.le))))
    ·intro ju jv jw jx jy Q jz; have k0 : ju 7 = vi (jf) := (jy 7 (by kernel_rfl)).trans jm; exact mv k0 (fin jz rfl)
    ·intro ju jv jw jx jy Q jz; have k0 : V _ (ju 24) (a0 : List (List Deed)) := jx 4 24 (by kernel_rfl) (by kernel_rfl); obtain ⟨k1, k2, k3⟩ : ∃ v, _ = v ∧ V _ v _ := ⟨_, rfl, k0⟩; have k4 : ju 25 = vi (jf) := jx 5 25 (by kernel_rfl) (by kernel_rfl); exact ix Try.underlying22 ty65.inf k2 k3 k4 jt (fun k5 k6 => fin jz k6)
    ·intro ju jv jw jx jy Q jz; have k0 : Ptr _ (ju 26) (js : List Deed) := jx 6 26 (by kernel_rfl) (by kernel_rfl); obtain ⟨k1, k2, k3⟩ : ∃ v, _ = v ∧ Ptr _ v _ := ⟨_, rfl, k0⟩; exact ld ty65 k2 k3 (fun k4 k5 => fin jz k5)
    ·intro ju jv jw jx jy Q jz; have k0 : V _ (ju 27) (js : List Deed) := jx 7 27 (by kernel_rfl) (by kernel_rfl); obtain ⟨k1, k2, k3⟩ : ∃ v, _ = v ∧ V _ v _ := ⟨_, rfl, k0⟩; exact ln Try.underlying65 k2 k3 (fin jz rfl)
    ·intro ju jv jw jx jy Q jz; have k0 : ju 23 = vi (jq) := jx 3 23 (by kernel_rfl) (by kernel_rfl); have k1 : ju 28 = vi ((js.length : Int)) := jx 8 28 (by kernel_rfl) (by kernel_rfl); exact ls k0 k1 (fin jz rfl)
    ·intro ju jv jw jx jy
     have jz := Tch.ext jk jw
     have k0 : ju 0 = w0 := (jy 0 (by kernel_rfl)).trans jn
     have k1 : ju 5 = j8 := (jy 5 (by kernel_rfl)).trans jo
     have k2 : ju 7 = vi (jf) := (jy 7 (by kernel_rfl)).trans jm
     have k3 : ju 29 = vb (decide (jq < (js.length : Int))) := jx 9 29 (by kernel_rfl)
     refine then_n ?_
     refine W_cond _ k3 (fun k4 => ?_) (fun k4 => ?_)
     ·have hr := ite_t k4 hr; refine sr (asg (rv (vb false)) (nn (W_ret (block_r (then_r (then_r (block_r ?_))))))); obtain rfl := Option.some.inj hr; have hr := je; (try dsimp only at hr); refine then_r (then_r ?_); obtain rfl := Option.some.inj hr; exact done1 (Or.inl rfl) Try.results48 rfl ⟨_, _, rfl, rfl, jz, Vbool⟩
     ·have hr := ite_f k4 hr; refine W_skip (block_n (then_n (W_region (mv k2 ?_)))); obtain ⟨k5, hr⟩ := chk_some hr; exact ad (rv (vi jf)) (rv (vi 1)) k5 (asg (rv (vi (jf + 1))) (nn ⟨jg, Nat.lt_succ_self _, ⟨jv, (jf + 1), rfl, jz, (jl.trans jw.le), hr, rfl, k0, k1⟩⟩))
   ·have hr := ite_f jp hr; refine W_exit (then_x (then_x (block_here ?_))); exact then_n ⟨jj, rfl, jk, jl, Option.some.inj hr⟩
 ·rintro jf jg ⟨jh, rfl, ji, jj, jd⟩; subst jd; have hr := je; (try dsimp only at hr); refine then_n (sr (asg (rv (vb true)) (nn (W_ret ?_)))); obtain rfl := Option.some.inj hr; exact done1 (Or.inl rfl) Try.results48 rfl ⟨_, _, rfl, rfl, ji, Vbool⟩

theorem ref08_Decide_ok (N : Nat) (s0 : St) (w0 : Value) (a0 : List (List Deed)) (h0 : V s0 w0 a0) (r : Verdict × Int) (hr : ref08_Decide N a0 = some r) :
    Calls Try.prog 19 #[w0] s0.w (Ret s0 fun v s => ∃ a b, v = .tuple #[a, b] ∧ V s a r.1 ∧ V s b r.2) := by
 unfold ref08_Decide at hr
 have j0 := Ext.refl s0
 refine Calls_of (n := 36) (args := [w0]) Try.func19 rfl rfl (by simp) (sr (L_alloc (α := Verdict) (x := ⟨0, 0⟩) zero43 Verdict.zero_rel (by decide) (fun j1 j2 j3 j4 j5 => ?_)))
 have j6 := Tch.ext j0 j3
 refine asg (rv (vi 0)) (nn (sr (mv (rv w0) ?_)))
 obtain ⟨j7, j8, hr⟩ := bind_some hr
 refine L_calls cal16 (args1 (rv w0)) (ref08_Narrow_ok N _ _ _ (h0.mono j3.le) j7 j8) (by decide) (fun j9 ja jb jc => ?_)
 have jd := Tch.ext j6 jb
 obtain ⟨je, jf, jg, rfl, jh, ji, jj⟩ := jc
 obtain rfl := ji.bool
 obtain rfl := jj.int
 refine mv (rv (Value.tuple #[je, vb (j7.2.1), vi (j7.2.2)])) (xt (rv (Value.tuple #[je, vb (j7.2.1), vi (j7.2.2)])) (k := 0) rfl (xt (rv (Value.tuple #[je, vb (j7.2.1), vi (j7.2.2)])) (k := 1) rfl (xt (rv (Value.tuple #[je, vb (j7.2.1), vi (j7.2.2)])) (k := 2) rfl (asg (rv je) (asg (rv (vb (j7.2.1))) (asg (rv (vi (j7.2.2))) (nn (W_seq (sr (mv (rv (vi (j7.2.2))) (ne (rv (vi (j7.2.2))) (rv (vi 0)) (nn ?_))))))))))))
 refine W_cond _ (rv (vb (!decide (j7.2.2 = 0)))) (fun jk => ?_) (fun jk => ?_)
 ·have hr := ite_t jk hr; refine sr (L_bld43_ (s := ja)   (by decide) (fun jl jm => mv (rv (vi (j7.2.2))) (L_store ty43 (rv (Value.pointer (some ⟨j2, 0, none⟩))) (rv jl) jm ((j5).ext jb) (fun jn jo jp => ?_)))); have jq := Tch.trans jd jo (fun k hk => Or.inr (by subst hk; exact (Nat.le_trans j0.size j4))); refine asg (rv (vi (j7.2.2))) (nn (W_ret (then_r ?_))); obtain rfl := Option.some.inj hr; exact done_ct (Or.inl rfl) Try.results19 ty43 rfl (jp) rfl (fun v hv => ⟨_, _, rfl, rfl, jq, _, _, rfl, hv, Vint⟩)
 ·have hr := ite_f jk hr
  refine W_skip (then_n (W_seq (sr (mv (rv (vb (j7.2.1))) (L_not (rv (vb (j7.2.1))) (by decide) (nn ?_))))))
  refine W_cond _ (rv (vb (!j7.2.1))) (fun jl => ?_) (fun jl => ?_)
  ·have hr := ite_t jl hr; refine sr (L_bld43_0_1 (s := ja) (rv (vi 4)) (rv (vi 0)) (Vint : V _ _ (4 : Int)) (Vint : V _ _ (0 : Int)) (by decide) (fun jm jn => L_store ty43 (rv (Value.pointer (some ⟨j2, 0, none⟩))) (rv jm) jn ((j5).ext jb) (fun jo jp jq => ?_))); have jr := Tch.trans jd jp (fun k hk => Or.inr (by subst hk; exact (Nat.le_trans j0.size j4))); refine asg (rv (vi 0)) (nn (W_ret (then_r ?_))); obtain rfl := Option.some.inj hr; exact done_ct (Or.inl rfl) Try.results19 ty43 rfl (jq) rfl (fun v hv => ⟨_, _, rfl, rfl, jr, _, _, rfl, hv, Vint⟩)
  ·have hr := ite_f jl hr
   refine W_skip (then_n (W_seq (sr (mv (rv je) ?_))))
   obtain ⟨jm, jn, hr⟩ := bind_some hr
   refine L_calls cal48 (args2 (rv je) (rv (vi 0))) (ref08_comes_ok N _ _ _ jh 0 jm jn) (by decide) (fun jo jp jq jr => ?_)
   have js := Tch.ext jd jq
   obtain rfl := jr.bool
   refine nn ?_
   refine W_cond _ (rv (vb jm)) (fun jt => ?_) (fun jt => ?_)
   ·have hr := ite_t jt hr; refine sr (L_bld43_0_1 (s := jp) (rv (vi 1)) (rv (vi 0)) (Vint : V _ _ (1 : Int)) (Vint : V _ _ (0 : Int)) (by decide) (fun ju jv => L_store ty43 (rv (Value.pointer (some ⟨j2, 0, none⟩))) (rv ju) jv (((j5).ext jb).ext jq) (fun jw jx jy => ?_))); have jz := Tch.trans js jx (fun k hk => Or.inr (by subst hk; exact (Nat.le_trans j0.size j4))); refine asg (rv (vi 0)) (nn (W_ret (then_r ?_))); obtain rfl := Option.some.inj hr; exact done_ct (Or.inl rfl) Try.results19 ty43 rfl (jy) rfl (fun v hv => ⟨_, _, rfl, rfl, jz, _, _, rfl, hv, Vint⟩)
   ·have hr := ite_f jt hr
    refine W_skip (then_n (W_seq (sr (mv (rv je) ?_))))
    obtain ⟨ju, jv, hr⟩ := bind_some hr
    refine L_calls cal48 (args2 (rv je) (rv (vi 200))) (ref08_comes_ok N _ _ _ (jh.mono jq.le) 200 ju jv) (by decide) (fun jw jx jy jz => ?_)
    have k0 := Tch.ext js jy
    obtain rfl := jz.bool
    refine L_not (rv (vb ju)) (by decide) (nn ?_)
    refine W_cond _ (rv (vb (!ju))) (fun k1 => ?_) (fun k1 => ?_)
    ·have hr := ite_t k1 hr; refine sr (L_bld43_0_1 (s := jx) (rv (vi 3)) (rv (vi 0)) (Vint : V _ _ (3 : Int)) (Vint : V _ _ (0 : Int)) (by decide) (fun k2 k3 => L_store ty43 (rv (Value.pointer (some ⟨j2, 0, none⟩))) (rv k2) k3 ((((j5).ext jb).ext jq).ext jy) (fun k4 k5 k6 => ?_))); have k7 := Tch.trans k0 k5 (fun k hk => Or.inr (by subst hk; exact (Nat.le_trans j0.size j4))); refine asg (rv (vi 0)) (nn (W_ret (then_r ?_))); obtain rfl := Option.some.inj hr; exact done_ct (Or.inl rfl) Try.results19 ty43 rfl (k6) rfl (fun v hv => ⟨_, _, rfl, rfl, k7, _, _, rfl, hv, Vint⟩)
    ·have hr := ite_f k1 hr
     refine W_skip (then_n (sr (asg (rv (vi 1)) (nn (W_seq ?_)))))
     obtain ⟨k2, k3, k4⟩ := bind_some hr
     refine W_cut (fun f w => ∃ (s : St) (k5 : Int), s.w = w ∧ Ext s0 s ∧ Le jx s ∧ k5 = k2 ∧ f 7 = vi k5 ∧ f 2 = Value.pointer (some ⟨j2, 0, none⟩) ∧ Var s j2 43 (⟨0, 0⟩ : Verdict)) ?_ ?_
     ·refine W_block (W_loop (fun m f w => ∃ (s : St) (k6 : Int), s.w = w ∧ Ext s0 s ∧ Le jx s ∧ ref08_Decide_l1 N j7 m k6 = some k2 ∧ f 7 = vi k6 ∧ f 2 = Value.pointer (some ⟨j2, 0, none⟩) ∧ f 4 = je ∧ Var s j2 43 (⟨0, 0⟩ : Verdict)) N ⟨jx, 1, rfl, k0, (Le.refl _), k3, rfl, rfl, rfl, (((j5).ext jb).ext jq).ext jy⟩ ?_)
      rintro k7 k8 k9 ⟨ka, k6, rfl, kb, kc, hr, kd, ke, kf, kg⟩
      cases k7 with
      | zero => exact absurd hr (by simp [ref08_Decide_l1])
      | succ k7 =>
       rw [ref08_Decide_l1.eq_2] at hr
       refine W_seq (sr (mv kf (mv kd ?_)))
       obtain ⟨kh, ki, hr⟩ := bind_some hr
       refine L_calls cal48 (args2 (rv je) (rv (vi k6))) (ref08_comes_ok N _ _ _ (jh.mono (jq.le.trans (jy.le.trans kc))) k6 kh ki) (by decide) (fun kj kk kl km => ?_)
       have kn := Tch.ext kb kl
       obtain rfl := km.bool
       refine L_not (rv (vb kh)) (by decide) (nn ?_)
       refine W_cond _ (rv (vb (!kh))) (fun ko => ?_) (fun ko => ?_)
       ·have hr := ite_t ko hr; refine W_skip (then_n (W_block (W_region (mv kd ?_)))); obtain ⟨kp, hr⟩ := chk_some hr; refine ad (rv (vi k6)) (rv (vi 1)) kp (asg (rv (vi (k6 + 1))) (L_nil (block_n ?_))); exact then_n ⟨k7, Nat.lt_succ_self _, ⟨kk, (k6 + 1), rfl, kn, (kc.trans kl.le), hr, rfl, ke, kf, (kg).ext kl⟩⟩
       ·have hr := ite_f ko hr; refine W_exit (then_x (then_x (block_here ?_))); exact then_n ⟨kk, k6, rfl, kn, (kc.trans kl.le), Option.some.inj hr, kd, ke, (kg).ext kl⟩
     ·rintro k6 k7 ⟨k8, k5, rfl, k9, ka, k3, kb, kc, kd⟩; subst k3; have hr := k4; (try dsimp only at hr); refine then_n (sr (mv kb (L_bld43_0_1 (s := k8) (rv (vi 2)) (rv (vi k5)) (Vint : V _ _ (2 : Int)) (Vint : V _ _ (k5 : Int)) (by decide) (fun ke kf => L_store ty43 kc (rv ke) kf (kd) (fun kg kh ki => ?_))))); have kj := Tch.trans k9 kh (fun k hk => Or.inr (by subst hk; exact (Nat.le_trans j0.size j4))); refine asg (rv (vi 0)) (nn (W_ret ?_)); obtain rfl := Option.some.inj hr; exact done_ct (Or.inl rfl) Try.results19 ty43 kc (ki) rfl (fun v hv => ⟨_, _, rfl, rfl, kj, _, _, rfl, hv, Vint⟩)

theorem law08_DeadDecides_ok (N : Nat) (s0 : St) (w0 : Value) (a0 : List (List Deed)) (h0 : V s0 w0 a0) (r : Bool) (hr : law08_DeadDecides N a0 = some r) :
    Calls Try.prog 4 #[w0] s0.w (Ret s0 fun v s => V s v r) := by
 unfold law08_DeadDecides at hr
 have j0 := Ext.refl s0
 refine Calls_of (n := 80) (args := [w0]) Try.func4 rfl rfl (by simp) (sr (asg (rv (vb false)) (nn (W_seq (sr (mv (rv w0) ?_))))))
 obtain ⟨j1, j2, hr⟩ := bind_some hr
 refine L_calls cal9 (args1 (rv w0)) (law08_few_ok N _ _ _ h0 j1 j2) (by decide) (fun j3 j4 j5 j6 => ?_)
 have j7 := Tch.ext j0 j5
 obtain rfl := j6.bool
 refine L_not (rv (vb j1)) (by decide) (nn ?_)
 refine W_cond _ (rv (vb (!j1))) (fun j8 => ?_) (fun j8 => ?_)
 ·have hr := ite_t j8 hr; refine sr ?_; obtain ⟨j9, ja, hr⟩ := bind_some hr; refine L_calls cal10 (args0) (law08_works_ok N _  j9 ja) (by decide) (fun jb jc jd je => ?_); have jf := Tch.ext j7 jd; obtain rfl := je.bool; refine asg (rv (vb j9)) (nn (W_ret (then_r ?_))); obtain rfl := Option.some.inj hr; exact done1 (Or.inl rfl) Try.results4 rfl ⟨_, _, rfl, rfl, jf, Vbool⟩
 ·have hr := ite_f j8 hr
  refine W_skip (then_n (sr (mv (rv w0) ?_)))
  obtain ⟨j9, ja, hr⟩ := bind_some hr
  refine L_calls cal12 (args1 (rv w0)) (law08_deeds_ok N _ _ _ (h0.mono j5.le) j9 ja) (by decide) (fun jb jc jd je => ?_)
  have jf := Tch.ext j7 jd
  refine asg (rv jb) (nn (sr (mv (rv jb) ?_)))
  obtain ⟨jg, jh, hr⟩ := bind_some hr
  refine L_calls cal15 (args1 (rv jb)) (dead_Narrow_ok N _ _ _ je jg jh) (by decide) (fun ji jj jk jl => ?_)
  have jm := Tch.ext jf jk
  obtain ⟨jn, jo, jp, rfl, jq, jr, js⟩ := jl
  obtain rfl := jr.bool
  obtain rfl := js.int
  refine mv (rv (Value.tuple #[jn, vb (jg.2.1), vi (jg.2.2)])) (xt (rv (Value.tuple #[jn, vb (jg.2.1), vi (jg.2.2)])) (k := 0) rfl (xt (rv (Value.tuple #[jn, vb (jg.2.1), vi (jg.2.2)])) (k := 1) rfl (xt (rv (Value.tuple #[jn, vb (jg.2.1), vi (jg.2.2)])) (k := 2) rfl (asg (rv jn) (asg (rv (vb (jg.2.1))) (asg (rv (vi (jg.2.2))) (nn (sr (mv (rv w0) ?_)))))))))
  obtain ⟨jt, ju, hr⟩ := bind_some hr
  refine L_calls cal16 (args1 (rv w0)) (ref08_Narrow_ok N _ _ _ (h0.mono (j5.le.trans (jd.le.trans jk.le))) jt ju) (by decide) (fun jv jw jx jy => ?_)
  have jz := Tch.ext jm jx
  obtain ⟨k0, k1, k2, rfl, k3, k4, k5⟩ := jy
  obtain rfl := k4.bool
  obtain rfl := k5.int
  refine mv (rv (Value.tuple #[k0, vb (jt.2.1), vi (jt.2.2)])) (xt (rv (Value.tuple #[k0, vb (jt.2.1), vi (jt.2.2)])) (k := 0) rfl (xt (rv (Value.tuple #[k0, vb (jt.2.1), vi (jt.2.2)])) (k := 1) rfl (xt (rv (Value.tuple #[k0, vb (jt.2.1), vi (jt.2.2)])) (k := 2) rfl (asg (rv k0) (asg (rv (vb (jt.2.1))) (asg (rv (vi (jt.2.2))) (nn (W_seq ?_))))))))
  obtain ⟨k6, k7, k8⟩ := bind_some hr
  refine W_seq_cut (fun f w => ∃ (s : St) (k9 : Bool), s.w = w ∧ Ext s0 s ∧ Le jw s ∧ k9 = k6 ∧ f 49 = vb k9 ∧ f 0 = w0 ∧ f 3 = jb) ?_ ?_
  ·have hr := k7
   refine W_region (mv (rv jn) (mv (rv k0) ?_))
   obtain ⟨ka, kb, hr⟩ := bind_some hr
   refine L_calls cal17 (args2 (rv jn) (rv k0)) (law08_same_ok N _ _ _ (jq.mono jx.le) _ _ k3 ka kb) (by decide) (fun kc kd ke kf => ?_)
   have kg := Tch.ext jz ke
   obtain rfl := kf.bool
   refine L_not (rv (vb ka)) (by decide) (mv (rv (vb (!ka))) ?_)
   rcases tf (!ka) with kh | kh
   ·have hr := ite_t kh hr; refine gf 34 (rv (vb (!ka))) kh (gf 34 (rv (vb (!ka))) kh (gf 34 (rv (vb (!ka))) kh (pt (rv (vb (!ka))) kh (rv (vb true)) (mv (rv (vb true)) (gf 39 (rv (vb true)) rfl (gf 39 (rv (vb true)) rfl (gf 39 (rv (vb true)) rfl (pt (rv (vb true)) rfl (rv (vb true)) (mv (rv (vb true)) (gf 44 (rv (vb true)) rfl (gf 44 (rv (vb true)) rfl (gf 44 (rv (vb true)) rfl (gf 44 (rv (vb true)) rfl ?_))))))))))))); exact pt (rv (vb true)) rfl (rv (vb true)) (nn ⟨kd, true, rfl, kg, ke.le, Option.some.inj hr, rfl, rfl, rfl⟩)
   ·have hr := ite_f kh hr
    refine gt 34 (rv (vb (!ka))) kh (mv (rv (vb (jg.2.1))) (gt 34 (rv (vb (!ka))) kh (mv (rv (vb (jt.2.1))) (gt 34 (rv (vb (!ka))) kh (L_bne Try.underlying4 (rv (vb (jg.2.1))) (rv (vb (jt.2.1))) (by decide) (pf (rv (vb (!ka))) kh (rv (vb (!(jg.2.1 == jt.2.1)))) (mv (rv (vb (!(jg.2.1 == jt.2.1)))) ?_)))))))
    rcases tf (!(jg.2.1 == jt.2.1)) with ki | ki
    ·have hr := ite_t ki hr; exact gf 39 (rv (vb (!(jg.2.1 == jt.2.1)))) ki (gf 39 (rv (vb (!(jg.2.1 == jt.2.1)))) ki (gf 39 (rv (vb (!(jg.2.1 == jt.2.1)))) ki (pt (rv (vb (!(jg.2.1 == jt.2.1)))) ki (rv (vb true)) (mv (rv (vb true)) (gf 44 (rv (vb true)) rfl (gf 44 (rv (vb true)) rfl (gf 44 (rv (vb true)) rfl (gf 44 (rv (vb true)) rfl (pt (rv (vb true)) rfl (rv (vb true)) (nn ⟨kd, true, rfl, kg, ke.le, Option.some.inj hr, rfl, rfl, rfl⟩))))))))))
    ·have hr := ite_f ki hr
     refine gt 39 (rv (vb (!(jg.2.1 == jt.2.1)))) ki (mv (rv (vi (jg.2.2))) (gt 39 (rv (vb (!(jg.2.1 == jt.2.1)))) ki (mv (rv (vi (jt.2.2))) (gt 39 (rv (vb (!(jg.2.1 == jt.2.1)))) ki (ne (rv (vi (jg.2.2))) (rv (vi (jt.2.2))) (pf (rv (vb (!(jg.2.1 == jt.2.1)))) ki (rv (vb (!decide (jg.2.2 = jt.2.2)))) (mv (rv (vb (!decide (jg.2.2 = jt.2.2)))) ?_)))))))
     rcases tf (!decide (jg.2.2 = jt.2.2)) with kj | kj
     ·have hr := ite_t kj hr; exact gf 44 (rv (vb (!decide (jg.2.2 = jt.2.2)))) kj (gf 44 (rv (vb (!decide (jg.2.2 = jt.2.2)))) kj (gf 44 (rv (vb (!decide (jg.2.2 = jt.2.2)))) kj (gf 44 (rv (vb (!decide (jg.2.2 = jt.2.2)))) kj (pt (rv (vb (!decide (jg.2.2 = jt.2.2)))) kj (rv (vb true)) (nn ⟨kd, true, rfl, kg, ke.le, Option.some.inj hr, rfl, rfl, rfl⟩)))))
     ·have hr := ite_f kj hr; refine gt 44 (rv (vb (!decide (jg.2.2 = jt.2.2)))) kj (mv (rv jb) (gt 44 (rv (vb (!decide (jg.2.2 = jt.2.2)))) kj (mv (rv w0) (gt 44 (rv (vb (!decide (jg.2.2 = jt.2.2)))) kj ?_)))); obtain ⟨kk, kl, hr⟩ := bind_some hr; refine L_calls cal17 (args2 (rv jb) (rv w0)) (law08_same_ok N _ _ _ (je.mono (jk.le.trans (jx.le.trans ke.le))) _ _ (h0.mono (j5.le.trans (jd.le.trans (jk.le.trans (jx.le.trans ke.le))))) kk kl) (by decide) (fun km kn ko kp => ?_); have kq := Tch.ext kg ko; obtain rfl := kp.bool; exact gt 44 (rv (vb (!decide (jg.2.2 = jt.2.2)))) kj (L_not (rv (vb kk)) (by decide) (pf (rv (vb (!decide (jg.2.2 = jt.2.2)))) kj (rv (vb (!kk))) (nn ⟨kn, (!kk), rfl, kq, (ke.le.trans ko.le), Option.some.inj hr, rfl, rfl, rfl⟩)))
  ·rintro ka kb ⟨kc, k9, rfl, kd, ke, k7, kf, kg, kh⟩
   subst k7
   have hr := k8
   try dsimp only at hr
   refine W_cond _ kf (fun ki => ?_) (fun ki => ?_)
   ·have hr := ite_t ki hr; refine sr (asg (rv (vb false)) (nn (W_ret (then_r ?_)))); obtain rfl := Option.some.inj hr; exact done1 (Or.inl rfl) Try.results4 rfl ⟨_, _, rfl, rfl, kd, Vbool⟩
   ·have hr := ite_f ki hr
    refine W_skip (then_n (sr (mv kh ?_)))
    obtain ⟨kj, kk, hr⟩ := bind_some hr
    refine L_calls cal18 (args1 (rv jb)) (dead_Decide_ok N _ _ _ (je.mono (jk.le.trans (jx.le.trans ke))) kj kk) (by decide) (fun kl km kn ko => ?_)
    have kp := Tch.ext kd kn
    obtain ⟨kq, kr, rfl, ks, kt⟩ := ko
    obtain rfl := kt.int
    refine mv (rv (Value.tuple #[kq, vi (kj.2)])) (xt (rv (Value.tuple #[kq, vi (kj.2)])) (k := 0) rfl (xt (rv (Value.tuple #[kq, vi (kj.2)])) (k := 1) rfl (L_alloc (α := Verdict) (x := ⟨0, 0⟩) zero40 Verdict.zero_rel (by decide) (fun ku kv kw kx ky => ?_))))
    have kz := Tch.ext kp kw
    refine L_store_ro ty40 (rv (Value.pointer (some ⟨kv, 0, none⟩))) (rv kq) (ks.mono kw.le) (ky) (fun g0 g1 g2 => ?_)
    have g3 := Tch.trans kz g1 (fun k hk => Or.inr (by subst hk; exact (Nat.le_trans kp.size kx)))
    refine asg (rv (vi (kj.2))) (nn (sr (mv kg ?_)))
    obtain ⟨g4, g5, hr⟩ := bind_some hr
    refine L_calls cal19 (args1 (rv w0)) (ref08_Decide_ok N _ _ _ (h0.mono (j5.le.trans (jd.le.trans (jk.le.trans (jx.le.trans (ke.trans (kn.le.trans (kw.le.trans g1.le)))))))) g4 g5) (by decide) (fun g6 g7 g8 g9 => ?_)
    have ga := Tch.ext g3 g8
    obtain ⟨gb, gc, rfl, gd, gg⟩ := g9
    obtain rfl := gg.int
    refine mv (rv (Value.tuple #[gb, vi (g4.2)])) (xt (rv (Value.tuple #[gb, vi (g4.2)])) (k := 0) rfl (xt (rv (Value.tuple #[gb, vi (g4.2)])) (k := 1) rfl (L_alloc (α := Verdict) (x := ⟨0, 0⟩) zero43 Verdict.zero_rel (by decide) (fun gh gi gj gk gl => ?_))))
    have gm := Tch.ext ga gj
    refine L_store_ro ty43 (rv (Value.pointer (some ⟨gi, 0, none⟩))) (rv gb) (gd.mono gj.le) (gl) (fun gn go gp => ?_)
    have gq := Tch.trans gm go (fun k hk => Or.inr (by subst hk; exact (Nat.le_trans ga.size gk)))
    refine asg (rv (vi (g4.2))) (nn (sr (fa fld40_0 Verdict.of_Kind (rv (Value.pointer (some ⟨kv, 0, none⟩))) (g2.mono (g8.le.trans (gj.le.trans go.le))) (fun gr gs => li ty3 (rv gr) gs (fa fld43_0 Verdict.of_Kind (rv (Value.pointer (some ⟨gi, 0, none⟩))) gp (fun gu gv => li ty3 (rv gu) gv (el (rv (vi (kj.1.Kind))) (rv (vi (g4.1.Kind))) (mv (rv (vb (decide (kj.1.Kind = g4.1.Kind)))) ?_))))))))
    rcases tf (decide (kj.1.Kind = g4.1.Kind)) with gw | gw
    ·have hr := ite_t gw hr
     refine gt 65 (rv (vb (decide (kj.1.Kind = g4.1.Kind)))) gw (fa fld40_1 Verdict.of_Room (rv (Value.pointer (some ⟨kv, 0, none⟩))) (g2.mono (g8.le.trans (gj.le.trans go.le))) (fun gx gy => gt 65 (rv (vb (decide (kj.1.Kind = g4.1.Kind)))) gw (li ty3 (rv gx) gy (gt 65 (rv (vb (decide (kj.1.Kind = g4.1.Kind)))) gw (fa fld43_1 Verdict.of_Room (rv (Value.pointer (some ⟨gi, 0, none⟩))) gp (fun gz u0 => gt 65 (rv (vb (decide (kj.1.Kind = g4.1.Kind)))) gw (li ty3 (rv gz) u0 (gt 65 (rv (vb (decide (kj.1.Kind = g4.1.Kind)))) gw (el (rv (vi (kj.1.Room))) (rv (vi (g4.1.Room))) (pt (rv (vb (decide (kj.1.Kind = g4.1.Kind)))) gw (rv (vb (decide (kj.1.Room = g4.1.Room)))) (mv (rv (vb (decide (kj.1.Room = g4.1.Room)))) ?_)))))))))))
     rcases tf (decide (kj.1.Room = g4.1.Room)) with u1 | u1
     ·have hr := ite_t u1 hr
      refine gt 72 (rv (vb (decide (kj.1.Room = g4.1.Room)))) u1 (mv (rv (vi (kj.2))) (gt 72 (rv (vb (decide (kj.1.Room = g4.1.Room)))) u1 (mv (rv (vi (g4.2))) (gt 72 (rv (vb (decide (kj.1.Room = g4.1.Room)))) u1 (el (rv (vi (kj.2))) (rv (vi (g4.2))) (pt (rv (vb (decide (kj.1.Room = g4.1.Room)))) u1 (rv (vb (decide (kj.2 = g4.2)))) (mv (rv (vb (decide (kj.2 = g4.2)))) ?_)))))))
      rcases tf (decide (kj.2 = g4.2)) with u2 | u2
      ·have hr := ite_t u2 hr; refine gt 77 (rv (vb (decide (kj.2 = g4.2)))) u2 ?_; obtain ⟨u3, u4, hr⟩ := bind_some hr; refine L_calls cal10 (args0) (law08_works_ok N _  u3 u4) (by decide) (fun u5 u6 u7 u9 => ?_); have ua := Tch.ext gq u7; obtain rfl := u9.bool; refine pt (rv (vb (decide (kj.2 = g4.2)))) u2 (rv (vb u3)) (asg (rv (vb u3)) (nn (W_ret ?_))); obtain rfl := Option.some.inj hr; exact done1 (Or.inl rfl) Try.results4 rfl ⟨_, _, rfl, rfl, ua, Vbool⟩
      ·have hr := ite_f u2 hr; refine gf 77 (rv (vb (decide (kj.2 = g4.2)))) u2 (pf (rv (vb (decide (kj.2 = g4.2)))) u2 (rv (vb false)) (asg (rv (vb false)) (nn (W_ret ?_)))); obtain rfl := Option.some.inj hr; exact done1 (Or.inl rfl) Try.results4 rfl ⟨_, _, rfl, rfl, gq, Vbool⟩
     ·have hr := ite_f u1 hr; refine gf 72 (rv (vb (decide (kj.1.Room = g4.1.Room)))) u1 (gf 72 (rv (vb (decide (kj.1.Room = g4.1.Room)))) u1 (gf 72 (rv (vb (decide (kj.1.Room = g4.1.Room)))) u1 (pf (rv (vb (decide (kj.1.Room = g4.1.Room)))) u1 (rv (vb false)) (mv (rv (vb false)) (gf 77 (rv (vb false)) rfl (pf (rv (vb false)) rfl (rv (vb false)) (asg (rv (vb false)) (nn (W_ret ?_))))))))); obtain rfl := Option.some.inj hr; exact done1 (Or.inl rfl) Try.results4 rfl ⟨_, _, rfl, rfl, gq, Vbool⟩
    ·have hr := ite_f gw hr; refine gf 65 (rv (vb (decide (kj.1.Kind = g4.1.Kind)))) gw (gf 65 (rv (vb (decide (kj.1.Kind = g4.1.Kind)))) gw (gf 65 (rv (vb (decide (kj.1.Kind = g4.1.Kind)))) gw (gf 65 (rv (vb (decide (kj.1.Kind = g4.1.Kind)))) gw (gf 65 (rv (vb (decide (kj.1.Kind = g4.1.Kind)))) gw (pf (rv (vb (decide (kj.1.Kind = g4.1.Kind)))) gw (rv (vb false)) (mv (rv (vb false)) (gf 72 (rv (vb false)) rfl (gf 72 (rv (vb false)) rfl (gf 72 (rv (vb false)) rfl (pf (rv (vb false)) rfl (rv (vb false)) (mv (rv (vb false)) (gf 77 (rv (vb false)) rfl (pf (rv (vb false)) rfl (rv (vb false)) ?_))))))))))))); refine asg (rv (vb false)) (nn (W_ret ?_)); obtain rfl := Option.some.inj hr; exact done1 (Or.inl rfl) Try.results4 rfl ⟨_, _, rfl, rfl, gq, Vbool⟩

end Go.Arm
