/- Each function of the program computes what its plain function says. -/
import Derived.Test.YtmojccilbgjngaaPrfT3a
namespace Go.Arm
open Go Go.RowKit Go.Proofs
theorem dead_run_taken_ok (N : Nat) (s0 : St) (w0 : Value) (a0 : Run) (h0 : Ptr s0 w0 a0) (a1 : Int) (a2 : Int) (r : Bool) (hr : dead_run_taken N a0 a1 a2 = some r) :
    Calls Try.prog 60 #[w0, .int .i64 a1, .int .i64 a2] s0.w (Ret s0 fun v s => V s v r) := by
 unfold dead_run_taken at hr
 have j0 := Ext.refl s0
 refine Calls_of (n := 72) (args := [w0, .int .i64 a1, .int .i64 a2]) Try.func60 rfl rfl (by simp) (sr (asg (rfl : _ = Value.bool (false)) (nn (sr (mv (rfl : _ = w0) (L_nilCheck_ptr (rfl : _ = w0) h0 (by decide) (L_fieldAddr fld72_0 Run.of_c (rfl : _ = w0) h0 (by decide) (fun j1 j2 => L_load ty29 (rfl : _ = j1) j2 (by decide) (fun j3 j4 => mv (rfl : _ = Value.int .i64 (a1)) ?_)))))))))
 obtain ⟨j5, j6, hr⟩ := bind_some hr
 refine L_index Try.underlying29 ty59.inf (rfl : _ = j3) j4 (rfl : _ = Value.int .i64 (a1)) j6 (by decide) (fun j7 j8 => L_load ty59 (rfl : _ = j7) j8 (by decide) (fun j9 ja => mv (rfl : _ = Value.int .i64 (a2)) ?_))
 obtain ⟨jb, jc, hr⟩ := bind_some hr
 refine L_index Try.underlying59 ty64.inf (rfl : _ = j9) ja (rfl : _ = Value.int .i64 (a2)) jc (by decide) (fun jd je => L_load ty64 (rfl : _ = jd) je (by decide) (fun jf jg => L_alloc (α := Deed) (x := ⟨0, 0, 0, 0, false⟩) zero64 Deed.zero_rel (by decide) (fun jh ji jj jk jl => ?_)))
 have jm := Tch.ext j0 jj
 refine L_store_ro ty64 (rfl : _ = Value.pointer (some ⟨ji, 0, none⟩)) (rfl : _ = jf) (jg.mono jj.le) (jl) (fun jn jo jp => ?_)
 have jq := Tch.trans jm jo (fun k hk => Or.inr (by subst hk; exact (Nat.le_trans j0.size jk)))
 refine nn (sr (mv (rfl : _ = w0) (mv (rfl : _ = Value.int .i64 (a1)) (L_fieldAddr fld64_1 Deed.of_Peer (rfl : _ = Value.pointer (some ⟨ji, 0, none⟩)) jp (by decide) (fun jr js => li ty3 (rfl : _ = jr) js ?_)))))
 obtain ⟨jt, ju, hr⟩ := bind_some hr
 refine L_calls cal81 (args3 (rfl : _ = w0) (rfl : _ = Value.int .i64 (a1)) (rfl : _ = Value.int .i64 (jb.Peer))) (dead_run_pairs_ok N _ _ _ (h0.mono (jj.le.trans jo.le)) a1 jb.Peer jt ju) (by decide) (fun jv jw jx jy => ?_)
 have jz := Tch.ext jq jx
 refine asg (rfl : _ = jv) (nn (W_seq (sr (mv (rfl : _ = jv) (mv (rfl : _ = Value.int .i64 (a2)) (L_lookup (m := jt.l) (z0 := (0 : Int)) Try.underlying92 Try.underlying3 zero3 Vint (rfl : _ = jv) (rfl : _ = Value.int .i64 (a2)) (jy).toMap (by decide) (fun k0 k1 => ?_)))))))
 obtain rfl := k1.int
 refine L_geq (rfl : _ = Value.int .i64 ((mget jt.l a2).getD (0 : Int))) (rfl : _ = Value.int .i64 (0)) (by decide) (nn ?_)
 refine W_cond _ (rfl : _ = Value.bool (decide (0 ≤ ((mget jt.l a2).getD (0 : Int))))) (fun k2 => ?_) (fun k2 => ?_)
 ·have hr := ite_t k2 hr; refine sr (asg (rfl : _ = Value.bool (true)) (nn (W_ret (then_r ?_)))); obtain rfl := Option.some.inj hr; exact done1 (Or.inl rfl) Try.results60 rfl ⟨_, _, rfl, rfl, jz, Vbool⟩
 ·have hr := ite_f k2 hr
  refine W_skip (then_n (sr (asg (rfl : _ = Value.int .i64 (0)) (nn (W_seq (sr (mv (rfl : _ = jv) (L_range (m := jt.l) Try.underlying92 (rfl : _ = jv) (jy).toMap (by decide) (fun k3 k4 k5 k6 k7 => ?_)))))))))
  have k8 := Tch.ext jz k5
  refine nn ?_
  obtain ⟨k9, ka, kb⟩ := bind_some hr
  refine W_cut (fun f w => ∃ (s : St) (kc : Int), s.w = w ∧ Ext s0 s ∧ Le k3 s ∧ Sum.inl kc = k9 ∧ f 9 = Value.int .i64 kc ∧ f 0 = w0 ∧ f 7 = Value.pointer (some ⟨ji, 0, none⟩)) ?_ ?_
  ·refine W_block (W_loop (fun m f w => ∃ (kd : List (Int × Int)) (s : St) (ke : Int), s.w = w ∧ Ext s0 s ∧ Le k3 s ∧ (∀ l : List (Int × Int), l.Perm kd → foldE (ρ := Bool) (dead_run_taken_l1 N a0 a1 a2) (fun (q : Int) => match q with | ke => ke) l ke = some k9) ∧ Iter s k4 kd ∧ kd.length = m ∧ f 9 = Value.int .i64 ke ∧ f 0 = w0 ∧ f 1 = Value.int .i64 (a1) ∧ f 2 = Value.int .i64 (a2) ∧ f 7 = Value.pointer (some ⟨ji, 0, none⟩) ∧ f 32 = Value.pointer (some ⟨k4, 0, none⟩)) jt.l.length ⟨jt.l, k3, 0, rfl, k8, (Le.refl _), (fun l hl => (foldE_perm (dead_run_taken_l1_comm N a0 a1 a2) hl _).trans ka), k7, rfl, rfl, rfl, rfl, rfl, rfl, rfl⟩ ?_)
   rintro kf kg kh ⟨kd, ki, ke, rfl, kj, kk, kl, km, kn, ko, kp, kq, kr, ks, kt⟩
   refine sr ?_
   refine L_next kt (km) (by decide) (fun ku => ?_) (fun kv kw kx ky kz g0 g1 => ?_)
   ·have hr := kl [] (by rw [ku]); unfold foldE at hr; refine L_extract (rfl : _ = Value.tuple #[Value.bool (false)]) (k := 0) rfl (by decide) (nn (W_seq ?_)); refine W_cond _ (rfl : _ = Value.bool (false)) (fun h => absurd (h.symm.trans rfl) (by decide)) (fun _ => ?_); refine W_exit (then_x (then_x (block_here ?_))); exact then_n ⟨ki, ke, rfl, kj, kk, Option.some.inj hr, ko, kp, ks⟩
   ·have g2 := Tch.trans kj g0 (fun k hk => Or.inr (by subst hk; exact (Nat.le_trans jz.size k6)))
    obtain ⟨g3, hr, g4⟩ := foldE_cons kl kz
    unfold dead_run_taken_l1 at hr
    try dsimp only at hr
    refine L_extract (rfl : _ = Value.tuple #[Value.bool (true), Value.int .i64 (kv.1), ky]) (k := 0) rfl (by decide) (nn (W_seq ?_))
    refine W_cond _ (rfl : _ = Value.bool (true)) (fun _ => ?_) (fun h => absurd (h.symm.trans rfl) (by decide))
    refine W_skip (then_n (W_block (sr (L_entry kt (g1) (by decide) (fun g5 g6 => ?_)))))
    obtain rfl := g6.int
    refine L_extract (rfl : _ = Value.tuple #[Value.int .i64 (kv.1), Value.int .i64 (kv.2)]) (k := 0) rfl (by decide) (L_extract (rfl : _ = Value.tuple #[Value.int .i64 (kv.1), Value.int .i64 (kv.2)]) (k := 1) rfl (by decide) (asg (rfl : _ = Value.int .i64 (kv.1)) (asg (rfl : _ = Value.int .i64 (kv.2)) (nn (sr (mv (rfl : _ = Value.int .i64 (kv.1)) (mv kr (L_lss (rfl : _ = Value.int .i64 (kv.1)) (rfl : _ = Value.int .i64 (a2)) (by decide) (mv (rfl : _ = Value.bool (decide (kv.1 < a2))) ?_)))))))))
    rcases Bool.eq_false_or_eq_true (decide (kv.1 < a2)) with g7 | g7
    ·have hr := ite_t g7 hr
     refine gt 41 (rfl : _ = Value.bool (decide (kv.1 < a2))) g7 (mv (rfl : _ = Value.int .i64 (kv.2)) (gt 41 (rfl : _ = Value.bool (decide (kv.1 < a2))) g7 (L_lss (rfl : _ = Value.int .i64 (kv.2)) (rfl : _ = Value.int .i64 (0)) (by decide) (pt (rfl : _ = Value.bool (decide (kv.1 < a2))) g7 (rfl : _ = Value.bool (decide (kv.2 < 0))) (mv (rfl : _ = Value.bool (decide (kv.2 < 0))) ?_)))))
     rcases Bool.eq_false_or_eq_true (decide (kv.2 < 0)) with g8 | g8
     ·have hr := ite_t g8 hr
      refine gt 45 (rfl : _ = Value.bool (decide (kv.2 < 0))) g8 (mv kp (gt 45 (rfl : _ = Value.bool (decide (kv.2 < 0))) g8 (L_nilCheck_ptr (rfl : _ = w0) (h0.mono (jj.le.trans (jo.le.trans (jx.le.trans (k5.le.trans (kk.trans g0.le)))))) (by decide) (gt 45 (rfl : _ = Value.bool (decide (kv.2 < 0))) g8 (L_fieldAddr fld72_0 Run.of_c (rfl : _ = w0) (h0.mono (jj.le.trans (jo.le.trans (jx.le.trans (k5.le.trans (kk.trans g0.le)))))) (by decide) (fun g9 ga => gt 45 (rfl : _ = Value.bool (decide (kv.2 < 0))) g8 (L_load ty29 (rfl : _ = g9) ga (by decide) (fun gb gc => gt 45 (rfl : _ = Value.bool (decide (kv.2 < 0))) g8 (mv kq (gt 45 (rfl : _ = Value.bool (decide (kv.2 < 0))) g8 ?_))))))))))
      obtain ⟨gd, gg, hr⟩ := bind_some hr
      refine L_index Try.underlying29 ty59.inf (rfl : _ = gb) gc (rfl : _ = Value.int .i64 (a1)) gg (by decide) (fun gh gi => gt 45 (rfl : _ = Value.bool (decide (kv.2 < 0))) g8 (L_load ty59 (rfl : _ = gh) gi (by decide) (fun gj gk => gt 45 (rfl : _ = Value.bool (decide (kv.2 < 0))) g8 (mv (rfl : _ = Value.int .i64 (kv.1)) (gt 45 (rfl : _ = Value.bool (decide (kv.2 < 0))) g8 ?_)))))
      obtain ⟨gl, gm, hr⟩ := bind_some hr
      refine L_index Try.underlying59 ty64.inf (rfl : _ = gj) gk (rfl : _ = Value.int .i64 (kv.1)) gm (by decide) (fun gn go => gt 45 (rfl : _ = Value.bool (decide (kv.2 < 0))) g8 (L_fieldAddr fld64_4 Deed.of_Sync (rfl : _ = gn) go (by decide) (fun gp gq => gt 45 (rfl : _ = Value.bool (decide (kv.2 < 0))) g8 (L_load_bool ty4 (rfl : _ = gp) gq (by decide) (gt 45 (rfl : _ = Value.bool (decide (kv.2 < 0))) g8 (L_not (rfl : _ = Value.bool (gl.Sync)) (by decide) (pt (rfl : _ = Value.bool (decide (kv.2 < 0))) g8 (rfl : _ = Value.bool (!gl.Sync)) (nn ?_))))))))
      refine W_cond _ (rfl : _ = Value.bool (!gl.Sync)) (fun gr => ?_) (fun gr => ?_)
      ·have hr := ite_t gr hr; refine W_region (mv ko ?_); obtain ⟨gs, hr⟩ := chk_some hr; refine L_add (rfl : _ = Value.int .i64 (ke)) (rfl : _ = Value.int .i64 (1)) gs (by decide) (asg (rfl : _ = Value.int .i64 (ke + 1)) (L_nil (block_n ?_))); obtain rfl := Option.some.inj hr; exact then_n ⟨kw.length, by have := kz.length_eq; have := kn; simp at *; omega, ⟨kw, kx, (ke + 1), rfl, g2, (kk.trans g0.le), g4, ((g1)).iter, rfl, rfl, kp, kq, kr, ks, kt⟩⟩
      ·have hr := ite_f gr hr; refine W_skip (block_n ?_); obtain rfl := Option.some.inj hr; exact then_n ⟨kw.length, by have := kz.length_eq; have := kn; simp at *; omega, ⟨kw, kx, ke, rfl, g2, (kk.trans g0.le), g4, ((g1)).iter, rfl, ko, kp, kq, kr, ks, kt⟩⟩
     ·have hr := ite_f g8 hr; refine gf 45 (rfl : _ = Value.bool (decide (kv.2 < 0))) g8 (gf 45 (rfl : _ = Value.bool (decide (kv.2 < 0))) g8 (gf 45 (rfl : _ = Value.bool (decide (kv.2 < 0))) g8 (gf 45 (rfl : _ = Value.bool (decide (kv.2 < 0))) g8 (gf 45 (rfl : _ = Value.bool (decide (kv.2 < 0))) g8 (gf 45 (rfl : _ = Value.bool (decide (kv.2 < 0))) g8 (gf 45 (rfl : _ = Value.bool (decide (kv.2 < 0))) g8 (gf 45 (rfl : _ = Value.bool (decide (kv.2 < 0))) g8 (gf 45 (rfl : _ = Value.bool (decide (kv.2 < 0))) g8 (gf 45 (rfl : _ = Value.bool (decide (kv.2 < 0))) g8 (gf 45 (rfl : _ = Value.bool (decide (kv.2 < 0))) g8 (gf 45 (rfl : _ = Value.bool (decide (kv.2 < 0))) g8 (pf (rfl : _ = Value.bool (decide (kv.2 < 0))) g8 (rfl : _ = Value.bool (false)) (nn ?_))))))))))))); refine W_cond _ (rfl : _ = Value.bool (false)) (fun h => absurd (h.symm.trans rfl) (by decide)) (fun _ => ?_); refine W_skip (block_n ?_); obtain rfl := Option.some.inj hr; exact then_n ⟨kw.length, by have := kz.length_eq; have := kn; simp at *; omega, ⟨kw, kx, ke, rfl, g2, (kk.trans g0.le), g4, ((g1)).iter, rfl, ko, kp, kq, kr, ks, kt⟩⟩
    ·have hr := ite_f g7 hr; refine gf 41 (rfl : _ = Value.bool (decide (kv.1 < a2))) g7 (gf 41 (rfl : _ = Value.bool (decide (kv.1 < a2))) g7 (pf (rfl : _ = Value.bool (decide (kv.1 < a2))) g7 (rfl : _ = Value.bool (false)) (mv (rfl : _ = Value.bool (false)) (gf 45 (rfl : _ = Value.bool (false)) rfl (gf 45 (rfl : _ = Value.bool (false)) rfl (gf 45 (rfl : _ = Value.bool (false)) rfl (gf 45 (rfl : _ = Value.bool (false)) rfl (gf 45 (rfl : _ = Value.bool (false)) rfl (gf 45 (rfl : _ = Value.bool (false)) rfl (gf 45 (rfl : _ = Value.bool (false)) rfl (gf 45 (rfl : _ = Value.bool (false)) rfl (gf 45 (rfl : _ = Value.bool (false)) rfl (gf 45 (rfl : _ = Value.bool (false)) rfl ?_))))))))))))); refine gf 45 (rfl : _ = Value.bool (false)) rfl (gf 45 (rfl : _ = Value.bool (false)) rfl (pf (rfl : _ = Value.bool (false)) rfl (rfl : _ = Value.bool (false)) (nn ?_))); refine W_cond _ (rfl : _ = Value.bool (false)) (fun h => absurd (h.symm.trans rfl) (by decide)) (fun _ => ?_); refine W_skip (block_n ?_); obtain rfl := Option.some.inj hr; exact then_n ⟨kw.length, by have := kz.length_eq; have := kn; simp at *; omega, ⟨kw, kx, ke, rfl, g2, (kk.trans g0.le), g4, ((g1)).iter, rfl, ko, kp, kq, kr, ks, kt⟩⟩
  ·rintro kd ke ⟨kf, kc, rfl, kg, kh, ka, ki, kj, kk⟩
   subst ka
   have hr := kb
   try dsimp only at hr
   refine then_n (sr (L_fieldAddr fld64_4 Deed.of_Sync kk (jp.mono (jx.le.trans (k5.le.trans kh))) (by decide) (fun kl km => L_load_bool ty4 (rfl : _ = kl) km (by decide) (L_not (rfl : _ = Value.bool (jb.Sync)) (by decide) (mv (rfl : _ = Value.bool (!jb.Sync)) ?_)))))
   rcases Bool.eq_false_or_eq_true (!jb.Sync) with kn | kn
   ·have hr := ite_t kn hr; refine gt 64 (rfl : _ = Value.bool (!jb.Sync)) kn (mv ki (gt 64 (rfl : _ = Value.bool (!jb.Sync)) kn (mv kj (gt 64 (rfl : _ = Value.bool (!jb.Sync)) kn (L_nilCheck_ptr (rfl : _ = w0) (h0.mono (jj.le.trans (jo.le.trans (jx.le.trans (k5.le.trans kh))))) (by decide) (gt 64 (rfl : _ = Value.bool (!jb.Sync)) kn (L_fieldAddr fld72_1 Run.of_room (rfl : _ = w0) (h0.mono (jj.le.trans (jo.le.trans (jx.le.trans (k5.le.trans kh))))) (by decide) (fun ko kp => gt 64 (rfl : _ = Value.bool (!jb.Sync)) kn (li ty3 (rfl : _ = ko) kp (gt 64 (rfl : _ = Value.bool (!jb.Sync)) kn (L_lss (rfl : _ = Value.int .i64 (kc)) (rfl : _ = Value.int .i64 (a0.room)) (by decide) (pt (rfl : _ = Value.bool (!jb.Sync)) kn (rfl : _ = Value.bool (decide (kc < a0.room))) (asg (rfl : _ = Value.bool (decide (kc < a0.room))) ?_))))))))))))); refine nn (W_ret ?_); obtain rfl := Option.some.inj hr; exact done1 (Or.inl rfl) Try.results60 rfl ⟨_, _, rfl, rfl, kg, Vbool⟩
   ·have hr := ite_f kn hr; refine gf 64 (rfl : _ = Value.bool (!jb.Sync)) kn (gf 64 (rfl : _ = Value.bool (!jb.Sync)) kn (gf 64 (rfl : _ = Value.bool (!jb.Sync)) kn (gf 64 (rfl : _ = Value.bool (!jb.Sync)) kn (gf 64 (rfl : _ = Value.bool (!jb.Sync)) kn (gf 64 (rfl : _ = Value.bool (!jb.Sync)) kn (pf (rfl : _ = Value.bool (!jb.Sync)) kn (rfl : _ = Value.bool (false)) (asg (rfl : _ = Value.bool (false)) (nn (W_ret ?_))))))))); obtain rfl := Option.some.inj hr; exact done1 (Or.inl rfl) Try.results60 rfl ⟨_, _, rfl, rfl, kg, Vbool⟩

theorem dead_run_can_1_ok (N : Nat) (s0 : St) (w0 : Value) (a0 : Ref Run) (h0 : Ptr s0 w0 a0) (w1 : Value) (a1 : Int) (h1 : Ptr s0 w1 a1) (w2 : Value) (a2 : Int) (h2 : Ptr s0 w2 a2) (r : Bool) (hr : dead_run_can_1 N a0 a1 a2 = some r) :
    Calls Try.prog 59 #[w0, w1, w2] s0.w (Ret s0 fun v s => V s v r) := by
 unfold dead_run_can_1 at hr
 have j0 := Ext.refl s0
 refine Calls_of (n := 8) (args := [w0, w1, w2]) Try.func59 rfl rfl (by simp) (sr (asg (rfl : _ = Value.bool (false)) (nn (sr (L_load ty67 (rfl : _ = w0) h0 (by decide) (fun j1 j2 => li ty3 (rfl : _ = w1) h1 (li ty3 (rfl : _ = w2) h2 ?_)))))))
 obtain ⟨j3, j4, hr⟩ := bind_some hr
 refine L_calls cal60 (args3 (rfl : _ = j1) (rfl : _ = Value.int .i64 (a1)) (rfl : _ = Value.int .i64 (a2))) (dead_run_taken_ok N _ _ _ j2.toPtr a1 a2 j3 j4) (by decide) (fun j5 j6 j7 j8 => ?_)
 have j9 := Tch.ext j0 j7
 obtain rfl := j8.bool
 refine asg (rfl : _ = Value.bool (j3)) (nn (W_ret ?_))
 obtain rfl := Option.some.inj hr
 exact done1 (Or.inl rfl) Try.results59 rfl ⟨_, _, rfl, rfl, j9, Vbool⟩

theorem dead_run_received_ok (N : Nat) (s0 : St) (w0 : Value) (a0 : Run) (h0 : Ptr s0 w0 a0) (a1 : Int) (a2 : Int) (r : Bool) (hr : dead_run_received N a0 a1 a2 = some r) :
    Calls Try.prog 62 #[w0, .int .i64 a1, .int .i64 a2] s0.w (Ret s0 fun v s => V s v r) := by
 unfold dead_run_received at hr
 have j0 := Ext.refl s0
 refine Calls_of (n := 31) (args := [w0, .int .i64 a1, .int .i64 a2]) Try.func62 rfl rfl (by simp) (sr (asg (rfl : _ = Value.bool (false)) (nn (W_seq (sr (mv (rfl : _ = w0) (mv (rfl : _ = w0) (L_nilCheck_ptr (rfl : _ = w0) h0 (by decide) (L_fieldAddr fld72_0 Run.of_c (rfl : _ = w0) h0 (by decide) (fun j1 j2 => L_load ty29 (rfl : _ = j1) j2 (by decide) (fun j3 j4 => mv (rfl : _ = Value.int .i64 (a1)) ?_)))))))))))
 obtain ⟨j5, j6, hr⟩ := bind_some hr
 refine L_index Try.underlying29 ty59.inf (rfl : _ = j3) j4 (rfl : _ = Value.int .i64 (a1)) j6 (by decide) (fun j7 j8 => L_load ty59 (rfl : _ = j7) j8 (by decide) (fun j9 ja => mv (rfl : _ = Value.int .i64 (a2)) ?_))
 obtain ⟨jb, jc, hr⟩ := bind_some hr
 refine L_index Try.underlying59 ty64.inf (rfl : _ = j9) ja (rfl : _ = Value.int .i64 (a2)) jc (by decide) (fun jd je => L_fieldAddr fld64_1 Deed.of_Peer (rfl : _ = jd) je (by decide) (fun jf jg => li ty3 (rfl : _ = jf) jg (mv (rfl : _ = Value.int .i64 (a1)) ?_)))
 obtain ⟨jh, ji, hr⟩ := bind_some hr
 refine L_calls cal81 (args3 (rfl : _ = w0) (rfl : _ = Value.int .i64 (jb.Peer)) (rfl : _ = Value.int .i64 (a1))) (dead_run_pairs_ok N _ _ _ h0 jb.Peer a1 jh ji) (by decide) (fun jj jk jl jm => ?_)
 have jn := Tch.ext j0 jl
 refine L_range (m := jh.l) Try.underlying92 (rfl : _ = jj) (jm).toMap (by decide) (fun jo jp jq jr js => ?_)
 have jt := Tch.ext jn jq
 refine nn ?_
 obtain ⟨ju, jv, jw⟩ := bind_some hr
 refine W_cut (fun f w => ∃ (s : St), s.w = w ∧ Ext s0 s ∧ Le jo s ∧ Sum.inl () = ju) ?_ ?_
 ·refine W_block (W_loop (fun m f w => ∃ (jx : List (Int × Int)) (s : St), s.w = w ∧ Ext s0 s ∧ Le jo s ∧ (∀ l : List (Int × Int), l.Perm jx → foldE (ρ := Bool) (dead_run_received_l1 N a2) (fun (q : Unit) => match q with | () => ()) l () = some ju) ∧ Iter s jp jx ∧ jx.length = m ∧ f 2 = Value.int .i64 (a2) ∧ f 23 = Value.pointer (some ⟨jp, 0, none⟩)) jh.l.length ⟨jh.l, jo, rfl, jt, (Le.refl _), (fun l hl => (foldE_perm (dead_run_received_l1_comm N a2) hl _).trans jv), js, rfl, rfl, rfl⟩ ?_)
  rintro jy jz k0 ⟨jx, k1, rfl, k2, k3, k4, k5, k6, k7, k8⟩
  refine sr ?_
  refine L_next k8 (k5) (by decide) (fun k9 => ?_) (fun ka kb kc kd ke kf kg => ?_)
  ·have hr := k4 [] (by rw [k9]); unfold foldE at hr; refine L_extract (rfl : _ = Value.tuple #[Value.bool (false)]) (k := 0) rfl (by decide) (nn (W_seq ?_)); refine W_cond _ (rfl : _ = Value.bool (false)) (fun h => absurd (h.symm.trans rfl) (by decide)) (fun _ => ?_); refine W_exit (then_x (then_x (block_here ?_))); exact then_n ⟨k1, rfl, k2, k3, Option.some.inj hr⟩
  ·have kh := Tch.trans k2 kf (fun k hk => Or.inr (by subst hk; exact (Nat.le_trans jn.size jr)))
   obtain ⟨ki, hr, kj⟩ := foldE_cons k4 ke
   unfold dead_run_received_l1 at hr
   try dsimp only at hr
   refine L_extract (rfl : _ = Value.tuple #[Value.bool (true), Value.int .i64 (ka.1), kd]) (k := 0) rfl (by decide) (nn (W_seq ?_))
   refine W_cond _ (rfl : _ = Value.bool (true)) (fun _ => ?_) (fun h => absurd (h.symm.trans rfl) (by decide))
   refine W_skip (then_n (W_block (sr (L_entry k8 (kg) (by decide) (fun kk kl => ?_)))))
   obtain rfl := kl.int
   refine L_extract (rfl : _ = Value.tuple #[Value.int .i64 (ka.1), Value.int .i64 (ka.2)]) (k := 1) rfl (by decide) (asg (rfl : _ = Value.int .i64 (ka.2)) (nn (sr (mv (rfl : _ = Value.int .i64 (ka.2)) (mv k7 (L_eql (rfl : _ = Value.int .i64 (ka.2)) (rfl : _ = Value.int .i64 (a2)) (by decide) (nn ?_)))))))
   refine W_cond _ (rfl : _ = Value.bool (decide (ka.2 = a2))) (fun km => ?_) (fun km => ?_)
   ·have hr := ite_t km hr; refine sr (asg (rfl : _ = Value.bool (true)) (nn (W_ret (block_r (then_r (block_r ?_)))))); obtain rfl := Option.some.inj hr; have hr := kj _ (List.Perm.refl _); unfold foldK at hr; (try dsimp only at hr); obtain rfl := Option.some.inj hr; have hr := jw; (try dsimp only at hr); refine then_r (then_r ?_); obtain rfl := Option.some.inj hr; exact done1 (Or.inl rfl) Try.results62 rfl ⟨_, _, rfl, rfl, kh, Vbool⟩
   ·have hr := ite_f km hr; refine W_skip (block_n ?_); obtain rfl := Option.some.inj hr; exact then_n ⟨kb.length, by have := ke.length_eq; have := k6; simp at *; omega, ⟨kb, kc, rfl, kh, (k3.trans kf.le), kj, ((kg)).iter, rfl, k7, k8⟩⟩
 ·rintro jx jy ⟨jz, rfl, k0, k1, jv⟩; subst jv; have hr := jw; (try dsimp only at hr); refine then_n (sr (asg (rfl : _ = Value.bool (false)) (nn (W_ret ?_)))); obtain rfl := Option.some.inj hr; exact done1 (Or.inl rfl) Try.results62 rfl ⟨_, _, rfl, rfl, k0, Vbool⟩

theorem dead_run_can_2_ok (N : Nat) (s0 : St) (w0 : Value) (a0 : Ref Run) (h0 : Ptr s0 w0 a0) (w1 : Value) (a1 : Int) (h1 : Ptr s0 w1 a1) (w2 : Value) (a2 : Int) (h2 : Ptr s0 w2 a2) (r : Bool) (hr : dead_run_can_2 N a0 a1 a2 = some r) :
    Calls Try.prog 61 #[w0, w1, w2] s0.w (Ret s0 fun v s => V s v r) := by
 unfold dead_run_can_2 at hr
 have j0 := Ext.refl s0
 refine Calls_of (n := 8) (args := [w0, w1, w2]) Try.func61 rfl rfl (by simp) (sr (asg (rfl : _ = Value.bool (false)) (nn (sr (L_load ty67 (rfl : _ = w0) h0 (by decide) (fun j1 j2 => li ty3 (rfl : _ = w1) h1 (li ty3 (rfl : _ = w2) h2 ?_)))))))
 obtain ⟨j3, j4, hr⟩ := bind_some hr
 refine L_calls cal62 (args3 (rfl : _ = j1) (rfl : _ = Value.int .i64 (a1)) (rfl : _ = Value.int .i64 (a2))) (dead_run_received_ok N _ _ _ j2.toPtr a1 a2 j3 j4) (by decide) (fun j5 j6 j7 j8 => ?_)
 have j9 := Tch.ext j0 j7
 obtain rfl := j8.bool
 refine asg (rfl : _ = Value.bool (j3)) (nn (W_ret ?_))
 obtain rfl := Option.some.inj hr
 exact done1 (Or.inl rfl) Try.results61 rfl ⟨_, _, rfl, rfl, j9, Vbool⟩

theorem dead_run_meetings_1_ok (N : Nat) (s0 : St) (w0 : Value) (a0 : Deed) (h0 : V s0 w0 a0) (r : Bool) (hr : dead_run_meetings_1 N a0 = some r) :
    Calls Try.prog 87 #[w0] s0.w (Ret s0 fun v s => V s v r) := by
 unfold dead_run_meetings_1 at hr
 have j0 := Ext.refl s0
 refine Calls_of (n := 6) (args := [w0]) Try.func87 rfl rfl (by simp) (sr (L_box (rfl : _ = w0) h0 (by decide) (fun j1 j2 j3 j4 => ?_)))
 have j5 := Tch.ext j0 j3
 refine asg (rfl : _ = Value.bool (false)) (nn (sr (L_fieldAddr fld64_0 Deed.of_Kind (rfl : _ = j2) j4 (by decide) (fun j6 j7 => li ty3 (rfl : _ = j6) j7 (L_eql (rfl : _ = Value.int .i64 (a0.Kind)) (rfl : _ = Value.int .i64 (6)) (by decide) (asg (rfl : _ = Value.bool (decide (a0.Kind = 6))) (nn (W_ret ?_))))))))
 obtain rfl := Option.some.inj hr
 exact done1 (Or.inl rfl) Try.results87 rfl ⟨_, _, rfl, rfl, j5, Vbool⟩

theorem dead_run_meetings_ok (N : Nat) (s0 : St) (w0 : Value) (a0 : Run) (h0 : Ptr s0 w0 a0) (a1 : Int) (r : Int) (hr : dead_run_meetings N a0 a1 = some r) :
    Calls Try.prog 76 #[w0, .int .i64 a1] s0.w (Ret s0 fun v s => V s v r) := by
 unfold dead_run_meetings at hr
 have j0 := Ext.refl s0
 refine Calls_of (n := 9) (args := [w0, .int .i64 a1]) Try.func76 rfl rfl (by simp) (sr (asg (rfl : _ = Value.int .i64 (0)) (nn (sr (mv (rfl : _ = w0) (mv (rfl : _ = Value.int .i64 (a1)) ?_))))))
 obtain ⟨j1, j2, hr⟩ := bind_some hr
 refine L_calls cal86 (args2 (rfl : _ = w0) (rfl : _ = Value.int .i64 (a1))) (dead_run_begun_ok N _ _ _ h0 a1 j1 j2) (by decide) (fun j3 j4 j5 j6 => ?_)
 have j7 := Tch.ext j0 j5
 obtain ⟨j8, j9, hr⟩ := bind_some hr
 refine L_calls cal79 (args2 (rfl : _ = j3) (rfl : _ = Value.func (.func 87) #[] #[])) (dead_count_lang_Deed_ok N _ _ _ j6 _ (fun x => dead_run_meetings_1 N x ) (Fn1.mk0 cal87 fun t vx x r hl hv hr => dead_run_meetings_1_ok N t vx x hv  r hr) j8 j9) (by decide) (fun ja jb jc jd => ?_)
 have je := Tch.ext j7 jc
 obtain rfl := jd.int
 refine asg (rfl : _ = Value.int .i64 (j8)) (nn (W_ret ?_))
 obtain rfl := Option.some.inj hr
 exact done1 (Or.inl rfl) Try.results76 rfl ⟨_, _, rfl, rfl, je, Vint⟩

theorem dead_run_late_ok (N : Nat) (s0 : St) (w0 : Value) (a0 : Run) (h0 : Ptr s0 w0 a0) (a1 : Int) (r : (List Int)) (hr : dead_run_late N a0 a1 = some r) :
    Calls Try.prog 51 #[w0, .int .i64 a1] s0.w (Ret s0 fun v s => V s v r) := by
 unfold dead_run_late at hr
 have j0 := Ext.refl s0
 refine Calls_of (n := 28) (args := [w0, .int .i64 a1]) Try.func51 rfl rfl (by simp) (sr (asg (rfl : _ = Value.slice none 0 0) (nn (sr (asg (rfl : _ = Value.slice none 0 0) (nn (W_seq (sr (mv (rfl : _ = w0) (L_nilCheck_ptr (rfl : _ = w0) h0 (by decide) (L_fieldAddr fld72_0 Run.of_c (rfl : _ = w0) h0 (by decide) (fun j1 j2 => L_load ty29 (rfl : _ = j1) j2 (by decide) (fun j3 j4 => L_len Try.underlying29 (rfl : _ = j3) j4 (by decide) ?_)))))))))))))
 refine mv (rfl : _ = Value.int .i64 (0)) (nn ?_)
 obtain ⟨j5, j6, j7⟩ := bind_some hr
 refine W_cut (fun f w => ∃ (s : St) (j8 : Value) (j9 : List Int), s.w = w ∧ Ext s0 s ∧ Le s0 s ∧ j9 = j5 ∧ f 5 = j8 ∧ Bld s s0.w.heap.size 3 j8 j9) ?_ ?_
 ·refine W_block (W_loop (fun m f w => ∃ (s : St) (ja : Value) (jb : List Int) (jc : Int), s.w = w ∧ Ext s0 s ∧ Le s0 s ∧ dead_run_late_l1 N a0 a1 m jb jc = some j5 ∧ f 5 = ja ∧ Bld s s0.w.heap.size 3 ja jb ∧ f 12 = Value.int .i64 jc ∧ f 0 = w0 ∧ f 1 = Value.int .i64 (a1) ∧ f 11 = Value.int .i64 ((a0.c.length : Int))) N ⟨s0, (Value.slice none 0 0), ([]), 0, rfl, j0, (Le.refl _), j6, rfl, Bld.nil, rfl, rfl, rfl, rfl⟩ ?_)
  rintro jd je jf ⟨jg, ja, jb, jc, rfl, jh, ji, hr, jj, jk, jl, jm, jn, jo⟩
  cases jd with
  | zero => exact absurd hr (by simp [dead_run_late_l1])
  | succ jd =>
   rw [dead_run_late_l1.eq_2] at hr
   refine sr (L_lss jl jo (by decide) (nn (W_seq ?_)))
   refine W_cond _ (rfl : _ = Value.bool (decide (jc < (a0.c.length : Int)))) (fun jp => ?_) (fun jp => ?_)
   ·have hr := ite_t jp hr
    refine W_skip (then_n (W_seq (W_block (sr (mv jl (asg (rfl : _ = Value.int .i64 (jc)) (nn (sr (mv jm (mv (rfl : _ = Value.int .i64 (jc)) ?_))))))))))
    obtain ⟨jq, jr, hr⟩ := bind_some hr
    refine L_calls cal76 (args2 (rfl : _ = w0) (rfl : _ = Value.int .i64 (jc))) (dead_run_meetings_ok N _ _ _ (h0.mono ji) jc jq jr) (by decide) (fun js jt ju jv => ?_)
    have jw := Tch.ext jh ju
    obtain rfl := jv.int
    refine mv jm (mv jn ?_)
    obtain ⟨jx, jy, hr⟩ := bind_some hr
    refine L_calls cal76 (args2 (rfl : _ = w0) (rfl : _ = Value.int .i64 (a1))) (dead_run_meetings_ok N _ _ _ (h0.mono (ji.trans ju.le)) a1 jx jy) (by decide) (fun jz k0 k1 k2 => ?_)
    have k3 := Tch.ext jw k1
    obtain rfl := k2.int
    refine L_lss (rfl : _ = Value.int .i64 (jq)) (rfl : _ = Value.int .i64 (jx)) (by decide) (nn ?_)
    refine W_cond _ (rfl : _ = Value.bool (decide (jq < jx))) (fun k4 => ?_) (fun k4 => ?_)
    ·have hr := ite_t k4 hr; refine W_region (mv jj (mv (rfl : _ = Value.int .i64 (jc)) (L_buildSlice (xs := ([jc] : List Int)) Try.underlying23 tyz3 (Parts_cons rfl (rfl : _ = Value.int .i64 (jc)) Parts_nil) (Vs.cons Vint Vs.nil) rfl (by decide) (by decide) (fun k5 k6 k7 k8 k9 => ?_)))); have ka := Tch.ext k3 k7; obtain ⟨kb, hr⟩ := chk_some hr; refine L_append (xs := jb) (B := s0.w.heap.size) Try.underlying23 tyz3 (rfl : _ = ja) (rfl : _ = k6) ((((jk).ext ju).ext k1).ext k7) (ka.size) k9 kb.1 kb.2 (by decide) (fun kc kd ke => ?_); have kf := ke.tchM ((((jk).ext ju).ext k1).ext k7) ka (Nat.le_refl _); refine asg (rfl : _ = kc) (L_nil (block_n (then_n (W_region ?_)))); obtain ⟨kg, hr⟩ := chk_some hr; exact L_add jl (rfl : _ = Value.int .i64 (1)) kg (by decide) (mv (rfl : _ = Value.int .i64 (jc + 1)) (nn ⟨jd, Nat.lt_succ_self _, ⟨kd, kc, (jb ++ ([jc] : List Int)), (jc + 1), rfl, kf, (ji.trans (ju.le.trans (k1.le.trans (k7.le.trans ke.tch.le)))), hr, rfl, ke.bld, rfl, jm, jn, jo⟩⟩))
    ·have hr := ite_f k4 hr; refine W_skip (block_n (then_n (W_region ?_))); obtain ⟨k5, hr⟩ := chk_some hr; exact L_add jl (rfl : _ = Value.int .i64 (1)) k5 (by decide) (mv (rfl : _ = Value.int .i64 (jc + 1)) (nn ⟨jd, Nat.lt_succ_self _, ⟨k0, ja, jb, (jc + 1), rfl, k3, (ji.trans (ju.le.trans k1.le)), hr, jj, ((jk).ext ju).ext k1, rfl, jm, jn, jo⟩⟩))
   ·have hr := ite_f jp hr; refine W_exit (then_x (then_x (block_here ?_))); exact then_n ⟨jg, ja, jb, rfl, jh, ji, Option.some.inj hr, jj, jk⟩
 ·rintro ja jb ⟨jc, j8, j9, rfl, jd, je, j6, jf, jg⟩; subst j6; have hr := j7; (try dsimp only at hr); refine then_n (sr (mv jf (asg (rfl : _ = j8) (nn (W_ret ?_))))); obtain rfl := Option.some.inj hr; exact done1 (Or.inl rfl) Try.results51 rfl ⟨_, _, rfl, rfl, jd, (jg).toV⟩

theorem dead_run_can_3_ok (N : Nat) (s0 : St) (w0 : Value) (a0 : Ref Run) (h0 : Ptr s0 w0 a0) (w1 : Value) (a1 : Int) (h1 : Ptr s0 w1 a1) (r : Bool) (hr : dead_run_can_3 N a0 a1 = some r) :
    Calls Try.prog 63 #[w0, w1] s0.w (Ret s0 fun v s => V s v r) := by
 unfold dead_run_can_3 at hr
 have j0 := Ext.refl s0
 refine Calls_of (n := 8) (args := [w0, w1]) Try.func63 rfl rfl (by simp) (sr (asg (rfl : _ = Value.bool (false)) (nn (sr (L_load ty67 (rfl : _ = w0) h0 (by decide) (fun j1 j2 => li ty3 (rfl : _ = w1) h1 ?_))))))
 obtain ⟨j3, j4, hr⟩ := bind_some hr
 refine L_calls cal51 (args2 (rfl : _ = j1) (rfl : _ = Value.int .i64 (a1))) (dead_run_late_ok N _ _ _ j2.toPtr a1 j3 j4) (by decide) (fun j5 j6 j7 j8 => ?_)
 have j9 := Tch.ext j0 j7
 refine L_len Try.underlying23 (rfl : _ = j5) j8 (by decide) (L_eql (rfl : _ = Value.int .i64 ((j3.length : Int))) (rfl : _ = Value.int .i64 (0)) (by decide) (asg (rfl : _ = Value.bool (decide ((j3.length : Int) = 0))) (nn (W_ret ?_))))
 obtain rfl := Option.some.inj hr
 exact done1 (Or.inl rfl) Try.results63 rfl ⟨_, _, rfl, rfl, j9, Vbool⟩

theorem dead_run_request_1_ok (N : Nat) (s0 : St) (w0 : Value) (a0 : Deed) (h0 : V s0 w0 a0) (w1 : Value) (a1 : Int) (h1 : Ptr s0 w1 a1) (r : Bool) (hr : dead_run_request_1 N a0 a1 = some r) :
    Calls Try.prog 74 #[w0, w1] s0.w (Ret s0 fun v s => V s v r) := by
 unfold dead_run_request_1 at hr
 have j0 := Ext.refl s0
 refine Calls_of (n := 12) (args := [w0, w1]) Try.func74 rfl rfl (by simp) (sr (L_box (rfl : _ = w0) h0 (by decide) (fun j1 j2 j3 j4 => ?_)))
 have j5 := Tch.ext j0 j3
 refine asg (rfl : _ = Value.bool (false)) (nn (sr (L_load ty64 (rfl : _ = j2) j4 (by decide) (fun j6 j7 => ?_))))
 obtain ⟨j8, j9, hr⟩ := bind_some hr
 refine L_calls cal75 (args1 (rfl : _ = j6)) (dead_begins_ok N _ _ _ j7 j8 j9) (by decide) (fun ja jb jc jd => ?_)
 have je := Tch.ext j5 jc
 obtain rfl := jd.bool
 refine mv (rfl : _ = Value.bool (j8)) ?_
 rcases Bool.eq_false_or_eq_true (j8) with jf | jf
 ·have hr := ite_t jf hr; refine gt 6 (rfl : _ = Value.bool (j8)) jf (L_fieldAddr fld64_3 Deed.of_Req (rfl : _ = j2) (j4.mono jc.le) (by decide) (fun jg jh => gt 6 (rfl : _ = Value.bool (j8)) jf (li ty3 (rfl : _ = jg) jh (gt 6 (rfl : _ = Value.bool (j8)) jf (li ty3 (rfl : _ = w1) (h1.mono (j3.le.trans jc.le)) (gt 6 (rfl : _ = Value.bool (j8)) jf (L_eql (rfl : _ = Value.int .i64 (a0.Req)) (rfl : _ = Value.int .i64 (a1)) (by decide) (pt (rfl : _ = Value.bool (j8)) jf (rfl : _ = Value.bool (decide (a0.Req = a1))) (asg (rfl : _ = Value.bool (decide (a0.Req = a1))) (nn (W_ret ?_))))))))))); obtain rfl := Option.some.inj hr; exact done1 (Or.inl rfl) Try.results74 rfl ⟨_, _, rfl, rfl, je, Vbool⟩
 ·have hr := ite_f jf hr; refine gf 6 (rfl : _ = Value.bool (j8)) jf (gf 6 (rfl : _ = Value.bool (j8)) jf (gf 6 (rfl : _ = Value.bool (j8)) jf (gf 6 (rfl : _ = Value.bool (j8)) jf (pf (rfl : _ = Value.bool (j8)) jf (rfl : _ = Value.bool (false)) (asg (rfl : _ = Value.bool (false)) (nn (W_ret ?_))))))); obtain rfl := Option.some.inj hr; exact done1 (Or.inl rfl) Try.results74 rfl ⟨_, _, rfl, rfl, je, Vbool⟩

theorem dead_run_request_ok (N : Nat) (s0 : St) (w0 : Value) (a0 : Run) (h0 : Ptr s0 w0 a0) (a1 : Int) (a2 : Int) (r : Int) (hr : dead_run_request N a0 a1 a2 = some r) :
    Calls Try.prog 50 #[w0, .int .i64 a1, .int .i64 a2] s0.w (Ret s0 fun v s => V s v r) := by
 unfold dead_run_request at hr
 have j0 := Ext.refl s0
 refine Calls_of (n := 16) (args := [w0, .int .i64 a1, .int .i64 a2]) Try.func50 rfl rfl (by simp) (sr (L_box (rfl : _ = Value.int .i64 (a2)) Vint (by decide) (fun j1 j2 j3 j4 => ?_)))
 have j5 := Tch.ext j0 j3
 refine asg (rfl : _ = Value.int .i64 (0)) (nn (sr (mv (rfl : _ = w0) (L_nilCheck_ptr (rfl : _ = w0) (h0.mono j3.le) (by decide) (L_fieldAddr fld72_0 Run.of_c (rfl : _ = w0) (h0.mono j3.le) (by decide) (fun j6 j7 => L_load ty29 (rfl : _ = j6) j7 (by decide) (fun j8 j9 => mv (rfl : _ = Value.int .i64 (a1)) ?_)))))))
 obtain ⟨ja, jb, hr⟩ := bind_some hr
 refine L_index Try.underlying29 ty59.inf (rfl : _ = j8) j9 (rfl : _ = Value.int .i64 (a1)) jb (by decide) (fun jc jd => L_load ty59 (rfl : _ = jc) jd (by decide) (fun je jf => L_makeFunc (args1 (rfl : _ = j2)) (by decide) ?_))
 obtain ⟨jg, jh, hr⟩ := bind_some hr
 refine L_calls cal71 (args2 (rfl : _ = je) (rfl : _ = Value.func (.func 74) #[] #[j2])) (slices_IndexFunc_Llang_Deed_lang_Deed_ok N _ _ _ jf _ (fun x => dead_run_request_1 N x a2) (Fn1.mk1 cal74 fun t vx x r hl hv hr => dead_run_request_1_ok N t vx x hv _ _ ((j4).mono hl) r hr) jg jh) (by decide) (fun ji jj jk jl => ?_)
 have jm := Tch.ext j5 jk
 obtain rfl := jl.int
 refine asg (rfl : _ = Value.int .i64 (jg)) (nn (W_ret ?_))
 obtain rfl := Option.some.inj hr
 exact done1 (Or.inl rfl) Try.results50 rfl ⟨_, _, rfl, rfl, jm, Vint⟩

theorem dead_run_can_4_ok (N : Nat) (s0 : St) (w0 : Value) (a0 : Ref Run) (h0 : Ptr s0 w0 a0) (w1 : Value) (a1 : Int) (h1 : Ptr s0 w1 a1) (w2 : Value) (a2 : Int) (h2 : Ptr s0 w2 a2) (r : Bool) (hr : dead_run_can_4 N a0 a1 a2 = some r) :
    Calls Try.prog 64 #[w0, w1, w2] s0.w (Ret s0 fun v s => V s v r) := by
 unfold dead_run_can_4 at hr
 have j0 := Ext.refl s0
 refine Calls_of (n := 38) (args := [w0, w1, w2]) Try.func64 rfl rfl (by simp) (sr (asg (rfl : _ = Value.bool (false)) (nn (W_seq ?_))))
 obtain ⟨j1, j2, hr⟩ := bind_some hr
 obtain ⟨j3, j4, hr⟩ := bind_some hr
 obtain ⟨j5, j6, hr⟩ := bind_some hr
 refine W_draws mixed (by kernel_rfl) [PV.ptr (a0.x : Run), PV.eq (Value.int .i64 (a1)), PV.ptr (a0.x : Run), PV.ptr (a0.x : Run), PV.ptr (a0.x.c : List (List Deed)), PV.data (a0.x.c : List (List Deed)), PV.eq (Value.int .i64 (a1)), PV.ptr (j1 : List Deed), PV.data (j1 : List Deed), PV.eq (Value.int .i64 (a2)), PV.ptr (j3 : Deed), PV.ptr (j3.Req : Int), PV.eq (Value.int .i64 (j3.Req)), PV.eq (Value.int .i64 (j5)), PV.eq (Value.int .i64 (j5))] (Steps_cons ?_ (Steps_cons ?_ (Steps_cons ?_ (Steps_cons ?_ (Steps_cons ?_ (Steps_cons ?_ (Steps_cons ?_ (Steps_cons ?_ (Steps_cons ?_ (Steps_cons ?_ (Steps_cons ?_ (Steps_cons ?_ (Steps_cons ?_ (Steps_cons ?_ (Steps_cons ?_ Steps_nil))))))))))))))) ?_
 ·intro j7 j8 j9 ja jb Q jc; have jd : j7 0 = w0 := (jb 0 (by kernel_rfl)).trans rfl; exact L_load ty67 jd (h0.mono j9.le) (by decide) (fun je jf => fin jc jf.toPtr)
 ·intro j7 j8 j9 ja jb Q jc; have jd : j7 1 = w1 := (jb 1 (by kernel_rfl)).trans rfl; exact li ty3 jd (h1.mono j9.le) (fin jc rfl)
 ·intro j7 j8 j9 ja jb Q jc; have jd : j7 0 = w0 := (jb 0 (by kernel_rfl)).trans rfl; exact L_load ty67 jd (h0.mono j9.le) (by decide) (fun je jf => fin jc jf.toPtr)
 ·intro j7 j8 j9 ja jb Q jc; have jd : Ptr _ (j7 7) (a0.x : Run) := ja 2 7 (by kernel_rfl) (by kernel_rfl); obtain ⟨je, jf, jg⟩ : ∃ v, _ = v ∧ Ptr _ v _ := ⟨_, rfl, jd⟩; exact L_nilCheck_ptr jf jg (by decide) (fin jc jg)
 ·intro j7 j8 j9 ja jb Q jc; have jd : Ptr _ (j7 8) (a0.x : Run) := ja 3 8 (by kernel_rfl) (by kernel_rfl); obtain ⟨je, jf, jg⟩ : ∃ v, _ = v ∧ Ptr _ v _ := ⟨_, rfl, jd⟩; exact L_fieldAddr fld72_0 Run.of_c jf jg (by decide) (fun jh ji => fin jc ji)
 ·intro j7 j8 j9 ja jb Q jc; have jd : Ptr _ (j7 9) (a0.x.c : List (List Deed)) := ja 4 9 (by kernel_rfl) (by kernel_rfl); obtain ⟨je, jf, jg⟩ : ∃ v, _ = v ∧ Ptr _ v _ := ⟨_, rfl, jd⟩; exact L_load ty29 jf jg (by decide) (fun jh ji => fin jc ji)
 ·intro j7 j8 j9 ja jb Q jc; have jd : j7 1 = w1 := (jb 1 (by kernel_rfl)).trans rfl; exact li ty3 jd (h1.mono j9.le) (fin jc rfl)
 ·intro j7 j8 j9 ja jb Q jc; have jd : V _ (j7 10) (a0.x.c : List (List Deed)) := ja 5 10 (by kernel_rfl) (by kernel_rfl); obtain ⟨je, jf, jg⟩ : ∃ v, _ = v ∧ V _ v _ := ⟨_, rfl, jd⟩; have jh : j7 11 = Value.int .i64 (a1) := ja 6 11 (by kernel_rfl) (by kernel_rfl); exact L_index Try.underlying29 ty59.inf jf jg jh j2 (by decide) (fun ji jj => fin jc jj)
 ·intro j7 j8 j9 ja jb Q jc; have jd : Ptr _ (j7 12) (j1 : List Deed) := ja 7 12 (by kernel_rfl) (by kernel_rfl); obtain ⟨je, jf, jg⟩ : ∃ v, _ = v ∧ Ptr _ v _ := ⟨_, rfl, jd⟩; exact L_load ty59 jf jg (by decide) (fun jh ji => fin jc ji)
 ·intro j7 j8 j9 ja jb Q jc; have jd : j7 2 = w2 := (jb 2 (by kernel_rfl)).trans rfl; exact li ty3 jd (h2.mono j9.le) (fin jc rfl)
 ·intro j7 j8 j9 ja jb Q jc; have jd : V _ (j7 13) (j1 : List Deed) := ja 8 13 (by kernel_rfl) (by kernel_rfl); obtain ⟨je, jf, jg⟩ : ∃ v, _ = v ∧ V _ v _ := ⟨_, rfl, jd⟩; have jh : j7 14 = Value.int .i64 (a2) := ja 9 14 (by kernel_rfl) (by kernel_rfl); exact L_index Try.underlying59 ty64.inf jf jg jh j4 (by decide) (fun ji jj => fin jc jj)
 ·intro j7 j8 j9 ja jb Q jc; have jd : Ptr _ (j7 15) (j3 : Deed) := ja 10 15 (by kernel_rfl) (by kernel_rfl); obtain ⟨je, jf, jg⟩ : ∃ v, _ = v ∧ Ptr _ v _ := ⟨_, rfl, jd⟩; exact L_fieldAddr fld64_3 Deed.of_Req jf jg (by decide) (fun jh ji => fin jc ji)
 ·intro j7 j8 j9 ja jb Q jc; have jd : Ptr _ (j7 16) (j3.Req : Int) := ja 11 16 (by kernel_rfl) (by kernel_rfl); obtain ⟨je, jf, jg⟩ : ∃ v, _ = v ∧ Ptr _ v _ := ⟨_, rfl, jd⟩; exact li ty3 jf jg (fin jc rfl)
 ·intro j7 j8 j9 ja jb Q jc; have jd : Ptr _ (j7 5) (a0.x : Run) := ja 0 5 (by kernel_rfl) (by kernel_rfl); obtain ⟨je, jf, jg⟩ : ∃ v, _ = v ∧ Ptr _ v _ := ⟨_, rfl, jd⟩; have jh : j7 6 = Value.int .i64 (a1) := ja 1 6 (by kernel_rfl) (by kernel_rfl); have ji : j7 17 = Value.int .i64 (j3.Req) := ja 12 17 (by kernel_rfl) (by kernel_rfl); refine L_calls cal50 (args3 jf jh ji) (dead_run_request_ok N _ _ _ jg a1 j3.Req j5 j6) (by decide) (fun jj jk jl jm => ?_); have jn := Tch.ext (Ext.refl j8) jl; obtain rfl := jm.int; exact L_nil (jc _ _ jn rfl)
 ·intro j7 j8 j9 ja jb Q jc; have jd : j7 18 = Value.int .i64 (j5) := ja 13 18 (by kernel_rfl) (by kernel_rfl); exact asg jd (fin jc rfl)
 ·intro j7 j8 j9 ja jb
  have jc := Tch.ext j0 j9
  have jd : j7 0 = w0 := (jb 0 (by kernel_rfl)).trans rfl
  have je : j7 1 = w1 := (jb 1 (by kernel_rfl)).trans rfl
  have jf : j7 4 = Value.int .i64 (j5) := ja 14 4 (by kernel_rfl)
  refine then_n (W_seq (W_seq ?_))
  obtain ⟨jg, jh, hr⟩ := bind_some hr
  obtain ⟨ji, jj, hr⟩ := bind_some hr
  obtain ⟨jk, jl, hr⟩ := bind_some hr
  refine W_draws mixed (by kernel_rfl) [PV.ptr (a0.x : Run), PV.ptr (a0.x : Run), PV.ptr (a0.x.c : List (List Deed)), PV.data (a0.x.c : List (List Deed)), PV.eq (Value.int .i64 (a1)), PV.ptr (jg : List Deed), PV.data (jg : List Deed), PV.eq (Value.int .i64 (j5)), PV.ptr (ji : Deed), PV.data (ji : Deed), PV.eq (Value.bool (jk))] (Steps_cons ?_ (Steps_cons ?_ (Steps_cons ?_ (Steps_cons ?_ (Steps_cons ?_ (Steps_cons ?_ (Steps_cons ?_ (Steps_cons ?_ (Steps_cons ?_ (Steps_cons ?_ (Steps_cons ?_ Steps_nil))))))))))) ?_
  ·intro jm jn jo jp jq Q jr; have js : jm 0 = w0 := (jq 0 (by kernel_rfl)).trans jd; exact L_load ty67 js (h0.mono (j9.le.trans jo.le)) (by decide) (fun jt ju => fin jr ju.toPtr)
  ·intro jm jn jo jp jq Q jr; have js : Ptr _ (jm 19) (a0.x : Run) := jp 0 19 (by kernel_rfl) (by kernel_rfl); obtain ⟨jt, ju, jv⟩ : ∃ v, _ = v ∧ Ptr _ v _ := ⟨_, rfl, js⟩; exact L_nilCheck_ptr ju jv (by decide) (fin jr jv)
  ·intro jm jn jo jp jq Q jr; have js : Ptr _ (jm 20) (a0.x : Run) := jp 1 20 (by kernel_rfl) (by kernel_rfl); obtain ⟨jt, ju, jv⟩ : ∃ v, _ = v ∧ Ptr _ v _ := ⟨_, rfl, js⟩; exact L_fieldAddr fld72_0 Run.of_c ju jv (by decide) (fun jw jx => fin jr jx)
  ·intro jm jn jo jp jq Q jr; have js : Ptr _ (jm 21) (a0.x.c : List (List Deed)) := jp 2 21 (by kernel_rfl) (by kernel_rfl); obtain ⟨jt, ju, jv⟩ : ∃ v, _ = v ∧ Ptr _ v _ := ⟨_, rfl, js⟩; exact L_load ty29 ju jv (by decide) (fun jw jx => fin jr jx)
  ·intro jm jn jo jp jq Q jr; have js : jm 1 = w1 := (jq 1 (by kernel_rfl)).trans je; exact li ty3 js (h1.mono (j9.le.trans jo.le)) (fin jr rfl)
  ·intro jm jn jo jp jq Q jr; have js : V _ (jm 22) (a0.x.c : List (List Deed)) := jp 3 22 (by kernel_rfl) (by kernel_rfl); obtain ⟨jt, ju, jv⟩ : ∃ v, _ = v ∧ V _ v _ := ⟨_, rfl, js⟩; have jw : jm 23 = Value.int .i64 (a1) := jp 4 23 (by kernel_rfl) (by kernel_rfl); exact L_index Try.underlying29 ty59.inf ju jv jw jh (by decide) (fun jx jy => fin jr jy)
  ·intro jm jn jo jp jq Q jr; have js : Ptr _ (jm 24) (jg : List Deed) := jp 5 24 (by kernel_rfl) (by kernel_rfl); obtain ⟨jt, ju, jv⟩ : ∃ v, _ = v ∧ Ptr _ v _ := ⟨_, rfl, js⟩; exact L_load ty59 ju jv (by decide) (fun jw jx => fin jr jx)
  ·intro jm jn jo jp jq Q jr; have js : jm 4 = Value.int .i64 (j5) := (jq 4 (by kernel_rfl)).trans jf; exact mv js (fin jr rfl)
  ·intro jm jn jo jp jq Q jr; have js : V _ (jm 25) (jg : List Deed) := jp 6 25 (by kernel_rfl) (by kernel_rfl); obtain ⟨jt, ju, jv⟩ : ∃ v, _ = v ∧ V _ v _ := ⟨_, rfl, js⟩; have jw : jm 26 = Value.int .i64 (j5) := jp 7 26 (by kernel_rfl) (by kernel_rfl); exact L_index Try.underlying59 ty64.inf ju jv jw jj (by decide) (fun jx jy => fin jr jy)
  ·intro jm jn jo jp jq Q jr; have js : Ptr _ (jm 27) (ji : Deed) := jp 8 27 (by kernel_rfl) (by kernel_rfl); obtain ⟨jt, ju, jv⟩ : ∃ v, _ = v ∧ Ptr _ v _ := ⟨_, rfl, js⟩; exact L_load ty64 ju jv (by decide) (fun jw jx => fin jr jx)
  ·intro jm jn jo jp jq Q jr; have js : V _ (jm 28) (ji : Deed) := jp 9 28 (by kernel_rfl) (by kernel_rfl); obtain ⟨jt, ju, jv⟩ : ∃ v, _ = v ∧ V _ v _ := ⟨_, rfl, js⟩; refine L_calls cal40 (args1 ju) (dead_sends_ok N _ _ _ jv jk jl) (by decide) (fun jw jx jy jz => ?_); have k0 := Tch.ext (Ext.refl jn) jy; obtain rfl := jz.bool; exact L_nil (jr _ _ k0 rfl)
  ·intro jm jn jo jp jq
   have jr := Tch.ext jc jo
   have js : jm 0 = w0 := (jq 0 (by kernel_rfl)).trans jd
   have jt : jm 1 = w1 := (jq 1 (by kernel_rfl)).trans je
   have ju : jm 4 = Value.int .i64 (j5) := (jq 4 (by kernel_rfl)).trans jf
   have jv : jm 29 = Value.bool (jk) := jp 10 29 (by kernel_rfl)
   refine then_n ?_
   refine W_cond _ jv (fun jw => ?_) (fun jw => ?_)
   ·have hr := ite_t jw hr; refine sr (L_load ty67 js (h0.mono (j9.le.trans jo.le)) (by decide) (fun jx jy => li ty3 jt (h1.mono (j9.le.trans jo.le)) (mv ju ?_))); obtain ⟨jz, k0, hr⟩ := bind_some hr; refine L_calls cal60 (args3 (rfl : _ = jx) (rfl : _ = Value.int .i64 (a1)) (rfl : _ = Value.int .i64 (j5))) (dead_run_taken_ok N _ _ _ jy.toPtr a1 j5 jz k0) (by decide) (fun k1 k2 k3 k4 => ?_); have k5 := Tch.ext jr k3; obtain rfl := k4.bool; refine asg (rfl : _ = Value.bool (jz)) (nn (W_ret (then_r ?_))); obtain rfl := Option.some.inj hr; exact done1 (Or.inl rfl) Try.results64 rfl ⟨_, _, rfl, rfl, k5, Vbool⟩
   ·have hr := ite_f jw hr; refine W_skip (then_n (sr (L_load ty67 js (h0.mono (j9.le.trans jo.le)) (by decide) (fun jx jy => li ty3 jt (h1.mono (j9.le.trans jo.le)) (mv ju ?_))))); obtain ⟨jz, k0, hr⟩ := bind_some hr; refine L_calls cal62 (args3 (rfl : _ = jx) (rfl : _ = Value.int .i64 (a1)) (rfl : _ = Value.int .i64 (j5))) (dead_run_received_ok N _ _ _ jy.toPtr a1 j5 jz k0) (by decide) (fun k1 k2 k3 k4 => ?_); have k5 := Tch.ext jr k3; obtain rfl := k4.bool; refine asg (rfl : _ = Value.bool (jz)) (nn (W_ret ?_)); obtain rfl := Option.some.inj hr; exact done1 (Or.inl rfl) Try.results64 rfl ⟨_, _, rfl, rfl, k5, Vbool⟩

set_option maxHeartbeats 1046000 in
theorem dead_run_can_ok (N : Nat) (s0 : St) (w0 : Value) (a0 : Run) (h0 : Ptr s0 w0 a0) (a1 : Int) (r : Bool) (hr : dead_run_can N a0 a1 = some r) :
    Calls Try.prog 32 #[w0, .int .i64 a1] s0.w (Ret s0 fun v s => V s v r) := by
 unfold dead_run_can at hr
 have j0 := Ext.refl s0
 refine Calls_of (n := 52) (args := [w0, .int .i64 a1]) Try.func32 rfl rfl (by simp) (sr (L_box (rfl : _ = w0) (h0).toV (by decide) (fun j1 j2 j3 j4 => ?_)))
 have j5 := Tch.ext j0 j3
 refine L_box (rfl : _ = Value.int .i64 (a1)) Vint (by decide) (fun j6 j7 j8 j9 => ?_)
 have ja := Tch.ext j5 j8
 refine asg (rfl : _ = Value.bool (false)) (nn (W_seq ?_))
 obtain ⟨jb, jc, hr⟩ := bind_some hr
 refine W_drawP mixed 9 [PX.ptr (a0 : Run), PX.ptr (a0 : Run), PX.ptr (a0.at_ : List Int), PX.data (a0.at_ : List Int), PX.eq (Value.int .i64 (a1)), PX.ptr (jb : Int), PX.eq (Value.int .i64 (jb)), PX.var s0.w.heap.size 3 ((0 : Int) : Int), PX.ptr (jb : Int)] [8, 9, 10, 11, 12, 13, 14, 5, 5] [[], [], [], [], [], [], [], [], [7]] rfl (by kernel_rfl) (ent0 rfl) (dis0 rfl) (StepsX_cons ?_ (StepsX_cons ?_ (StepsX_cons ?_ (StepsX_cons ?_ (StepsX_cons ?_ (StepsX_cons ?_ (StepsX_cons ?_ (StepsX_cons ?_ (StepsX_cons ?_ StepsX_nil))))))))) ?_
 ·intro jd je jf jg jh Q ji; have jj : jd 2 = j2 := (jh 2 (by kernel_rfl)).trans rfl; exact L_load ty67 jj (j4.mono (j8.le.trans jf.le)) (by decide) (fun jk jl => L_nil (ji _ _ No (Ext.refl je) (fun _ h => h.elim) jl.toPtr (fun _ h => h.elim)))
 ·intro jd je jf jg jh Q ji; have jj : Ptr _ (jd 8) (a0 : Run) := jg 0 (by kernel_rfl) (by show _ < 9; decide); obtain ⟨jk, jl, jm⟩ : ∃ v, _ = v ∧ Ptr _ v _ := ⟨_, rfl, jj⟩; exact L_nilCheck_ptr jl jm (by decide) (L_nil (ji _ _ No (Ext.refl je) (fun _ h => h.elim) jm (fun _ h => h.elim)))
 ·intro jd je jf jg jh Q ji; have jj : Ptr _ (jd 9) (a0 : Run) := jg 1 (by kernel_rfl) (by show _ < 9; decide); obtain ⟨jk, jl, jm⟩ : ∃ v, _ = v ∧ Ptr _ v _ := ⟨_, rfl, jj⟩; exact L_fieldAddr fld72_2 Run.of_at_ jl jm (by decide) (fun jn jo => L_nil (ji _ _ No (Ext.refl je) (fun _ h => h.elim) jo (fun _ h => h.elim)))
 ·intro jd je jf jg jh Q ji; have jj : Ptr _ (jd 10) (a0.at_ : List Int) := jg 2 (by kernel_rfl) (by show _ < 9; decide); obtain ⟨jk, jl, jm⟩ : ∃ v, _ = v ∧ Ptr _ v _ := ⟨_, rfl, jj⟩; exact L_load ty23 jl jm (by decide) (fun jn jo => L_nil (ji _ _ No (Ext.refl je) (fun _ h => h.elim) jo (fun _ h => h.elim)))
 ·intro jd je jf jg jh Q ji; have jj : jd 3 = j7 := (jh 3 (by kernel_rfl)).trans rfl; exact li ty3 jj (j9.mono jf.le) (L_nil (ji _ _ No (Ext.refl je) (fun _ h => h.elim) rfl (fun _ h => h.elim)))
 ·intro jd je jf jg jh Q ji; have jj : V _ (jd 11) (a0.at_ : List Int) := jg 3 (by kernel_rfl) (by show _ < 9; decide); obtain ⟨jk, jl, jm⟩ : ∃ v, _ = v ∧ V _ v _ := ⟨_, rfl, jj⟩; have jn : jd 12 = Value.int .i64 (a1) := jg 4 (by kernel_rfl) (by show _ < 9; decide); exact L_index Try.underlying23 ty3.inf jl jm jn jc (by decide) (fun jo jp => L_nil (ji _ _ No (Ext.refl je) (fun _ h => h.elim) jp (fun _ h => h.elim)))
 ·intro jd je jf jg jh Q ji; have jj : Ptr _ (jd 13) (jb : Int) := jg 5 (by kernel_rfl) (by show _ < 9; decide); obtain ⟨jk, jl, jm⟩ : ∃ v, _ = v ∧ Ptr _ v _ := ⟨_, rfl, jj⟩; exact li ty3 jl jm (L_nil (ji _ _ No (Ext.refl je) (fun _ h => h.elim) rfl (fun _ h => h.elim)))
 ·intro jd je jf jg jh Q ji; refine L_alloc (α := Int) (x := 0) zero3 (fun _ => rfl) (by decide) (fun jj jk jl jm jn => ?_); have jo := Tch.ext (Ext.refl je) jl; exact L_nil (ji _ _ No jo (fun _ h => h.elim) ⟨_, rfl, (Nat.le_trans (Nat.le_trans ja.size jf.size) jm), jn⟩ (fun k h => Or.inr (by cases h; exact jm)))
 ·intro jd je jf jg jh Q ji; obtain ⟨jj, jk, jl, jm⟩ : ∃ b, jd 5 = Value.pointer (some ⟨b, 0, none⟩) ∧ s0.w.heap.size ≤ b ∧ Var je b 3 ((0 : Int) : Int) := jg 7 (by kernel_rfl) (by show _ < 9; decide); have jn : jd 14 = Value.int .i64 (jb) := jg 6 (by kernel_rfl) (by show _ < 9; decide); exact L_store_ro ty3 jk jn Vint (jm) (fun jo jp jq => L_nil (ji undef _ _ jp (fun k h => ⟨7, (List.mem_singleton.2 rfl : (7 : Nat) ∈ [7]), (by show ownP (jd 5) k; rw [jk]; exact congrArg (fun z => Value.pointer (some ⟨z, 0, none⟩)) h.symm)⟩) (by show Ptr _ (jd 5) _; rw [jk]; exact jq) (fun _ h => h.elim)))
 ·intro jd je jf jg jh ji
  have jj := Tch.trans ja jf (fun k h => absurd h (ent_none (k := 9) rfl rfl k))
  obtain ⟨jk, jl, jm⟩ : ∃ p, jd 5 = p ∧ Ptr je p (jb : Int) := ⟨_, rfl, jg 8 (by show _ < 9; decide) (by kernel_rfl)⟩
  have jn : jd 2 = j2 := (ji 2 (by kernel_rfl)).trans rfl
  have jo : jd 3 = j7 := (ji 3 (by kernel_rfl)).trans rfl
  refine then_n (W_seq (W_seq ?_))
  obtain ⟨jp, jq, hr⟩ := bind_some hr
  refine W_draws mixed (by kernel_rfl) [PV.eq (Value.int .i64 (jb)), PV.ptr (a0 : Run), PV.ptr (a0 : Run), PV.ptr (a0.c : List (List Deed)), PV.data (a0.c : List (List Deed)), PV.eq (Value.int .i64 (a1)), PV.ptr (jp : List Deed), PV.data (jp : List Deed), PV.eq (Value.int .i64 ((jp.length : Int))), PV.eq (Value.bool (decide (jb = (jp.length : Int))))] (Steps_cons ?_ (Steps_cons ?_ (Steps_cons ?_ (Steps_cons ?_ (Steps_cons ?_ (Steps_cons ?_ (Steps_cons ?_ (Steps_cons ?_ (Steps_cons ?_ (Steps_cons ?_ Steps_nil)))))))))) ?_
  ·intro jr js jt ju jv Q jw; have jx : jr 5 = jk := (jv 5 (by kernel_rfl)).trans jl; exact li ty3 jx (jm.mono jt.le) (fin jw rfl)
  ·intro jr js jt ju jv Q jw; have jx : jr 2 = j2 := (jv 2 (by kernel_rfl)).trans jn; exact L_load ty67 jx (j4.mono (j8.le.trans (jf.le.trans jt.le))) (by decide) (fun jy jz => fin jw jz.toPtr)
  ·intro jr js jt ju jv Q jw; have jx : Ptr _ (jr 16) (a0 : Run) := ju 1 16 (by kernel_rfl) (by kernel_rfl); obtain ⟨jy, jz, k0⟩ : ∃ v, _ = v ∧ Ptr _ v _ := ⟨_, rfl, jx⟩; exact L_nilCheck_ptr jz k0 (by decide) (fin jw k0)
  ·intro jr js jt ju jv Q jw; have jx : Ptr _ (jr 17) (a0 : Run) := ju 2 17 (by kernel_rfl) (by kernel_rfl); obtain ⟨jy, jz, k0⟩ : ∃ v, _ = v ∧ Ptr _ v _ := ⟨_, rfl, jx⟩; exact L_fieldAddr fld72_0 Run.of_c jz k0 (by decide) (fun k1 k2 => fin jw k2)
  ·intro jr js jt ju jv Q jw; have jx : Ptr _ (jr 18) (a0.c : List (List Deed)) := ju 3 18 (by kernel_rfl) (by kernel_rfl); obtain ⟨jy, jz, k0⟩ : ∃ v, _ = v ∧ Ptr _ v _ := ⟨_, rfl, jx⟩; exact L_load ty29 jz k0 (by decide) (fun k1 k2 => fin jw k2)
  ·intro jr js jt ju jv Q jw; have jx : jr 3 = j7 := (jv 3 (by kernel_rfl)).trans jo; exact li ty3 jx (j9.mono (jf.le.trans jt.le)) (fin jw rfl)
  ·intro jr js jt ju jv Q jw; have jx : V _ (jr 19) (a0.c : List (List Deed)) := ju 4 19 (by kernel_rfl) (by kernel_rfl); obtain ⟨jy, jz, k0⟩ : ∃ v, _ = v ∧ V _ v _ := ⟨_, rfl, jx⟩; have k1 : jr 20 = Value.int .i64 (a1) := ju 5 20 (by kernel_rfl) (by kernel_rfl); exact L_index Try.underlying29 ty59.inf jz k0 k1 jq (by decide) (fun k2 k3 => fin jw k3)
  ·intro jr js jt ju jv Q jw; have jx : Ptr _ (jr 21) (jp : List Deed) := ju 6 21 (by kernel_rfl) (by kernel_rfl); obtain ⟨jy, jz, k0⟩ : ∃ v, _ = v ∧ Ptr _ v _ := ⟨_, rfl, jx⟩; exact L_load ty59 jz k0 (by decide) (fun k1 k2 => fin jw k2)
  ·intro jr js jt ju jv Q jw; have jx : V _ (jr 22) (jp : List Deed) := ju 7 22 (by kernel_rfl) (by kernel_rfl); obtain ⟨jy, jz, k0⟩ : ∃ v, _ = v ∧ V _ v _ := ⟨_, rfl, jx⟩; exact L_len Try.underlying59 jz k0 (by decide) (fin jw rfl)
  ·intro jr js jt ju jv Q jw; have jx : jr 15 = Value.int .i64 (jb) := ju 0 15 (by kernel_rfl) (by kernel_rfl); have jy : jr 23 = Value.int .i64 ((jp.length : Int)) := ju 8 23 (by kernel_rfl) (by kernel_rfl); exact L_eql jx jy (by decide) (fin jw rfl)
  ·intro jr js jt ju jv
   have jw := Tch.ext jj jt
   have jx : jr 2 = j2 := (jv 2 (by kernel_rfl)).trans jn
   have jy : jr 3 = j7 := (jv 3 (by kernel_rfl)).trans jo
   have jz : jr 5 = jk := (jv 5 (by kernel_rfl)).trans jl
   have k0 : jr 24 = Value.bool (decide (jb = (jp.length : Int))) := ju 9 24 (by kernel_rfl)
   refine then_n ?_
   refine W_cond _ k0 (fun k1 => ?_) (fun k1 => ?_)
   ·have hr := ite_t k1 hr; refine sr (asg (rfl : _ = Value.bool (false)) (nn (W_ret (then_r ?_)))); obtain rfl := Option.some.inj hr; exact done1 (Or.inl rfl) Try.results32 rfl ⟨_, _, rfl, rfl, jw, Vbool⟩
   ·have hr := ite_f k1 hr
    refine W_skip (then_n (W_seq ?_))
    obtain ⟨k2, k3, hr⟩ := bind_some hr
    obtain ⟨k4, k5, hr⟩ := bind_some hr
    rcases Bool.eq_false_or_eq_true (decide (k4.Kind = (1 : Int))) with k6 | k6
    ·have hr := ite_t k6 hr
     refine W_drawI mixed (by kernel_rfl) (IM js.w.heap.size 26 0 9 ([(2, (1 : Int), (⟨Value.func (.func 59) #[] #[j2, j7, jk]⟩ : RawV)), (4, (2 : Int), (⟨Value.func (.func 61) #[] #[j2, j7, jk]⟩ : RawV)), (6, (6 : Int), (⟨Value.func (.func 63) #[] #[j2, j7]⟩ : RawV)), (8, (5 : Int), (⟨Value.func (.func 64) #[] #[j2, j7, jk]⟩ : RawV))] : List (Nat × Int × RawV))) [PL.any, PL.eq (Value.func (.func 59) #[] #[j2, j7, jk]), PL.any, PL.eq (Value.func (.func 61) #[] #[j2, j7, jk]), PL.any, PL.eq (Value.func (.func 63) #[] #[j2, j7]), PL.any, PL.eq (Value.func (.func 64) #[] #[j2, j7, jk]), PL.any, PL.mapq ([((1 : Int), (⟨Value.func (.func 59) #[] #[j2, j7, jk]⟩ : RawV)), ((2 : Int), (⟨Value.func (.func 61) #[] #[j2, j7, jk]⟩ : RawV)), ((6 : Int), (⟨Value.func (.func 63) #[] #[j2, j7]⟩ : RawV)), ((5 : Int), (⟨Value.func (.func 64) #[] #[j2, j7, jk]⟩ : RawV))] : List (Int × RawV)), PL.ptr (a0 : Run), PL.ptr (a0 : Run), PL.ptr (a0.c : List (List Deed)), PL.data (a0.c : List (List Deed)), PL.eq (Value.int .i64 (a1)), PL.ptr (k2 : List Deed), PL.data (k2 : List Deed), PL.eq (Value.int .i64 (jb)), PL.ptr (k4 : Deed), PL.ptr (k4.Kind : Int), PL.eq (Value.int .i64 (k4.Kind)), PL.two (PL.eq (Value.func (.func 59) #[] #[j2, j7, jk])) (PL.eq (Value.bool (true))), PL.two (PL.eq (Value.func (.func 59) #[] #[j2, j7, jk])) (PL.eq (Value.bool (true))), PL.eq (Value.func (.func 59) #[] #[j2, j7, jk]), PL.eq (Value.bool (true)), PL.eq (Value.func (.func 59) #[] #[j2, j7, jk]), PL.eq (Value.bool (true))] (fun _ => IM_none) (StepsI_cons ?_ (StepsI_cons ?_ (StepsI_cons ?_ (StepsI_cons ?_ (StepsI_cons ?_ (StepsI_cons ?_ (StepsI_cons ?_ (StepsI_cons ?_ (StepsI_cons ?_ (StepsI_cons ?_ (StepsI_cons ?_ (StepsI_cons ?_ (StepsI_cons ?_ (StepsI_cons ?_ (StepsI_cons ?_ (StepsI_cons ?_ (StepsI_cons ?_ (StepsI_cons ?_ (StepsI_cons ?_ (StepsI_cons ?_ (StepsI_cons ?_ (StepsI_cons ?_ (StepsI_cons ?_ (StepsI_cons ?_ (StepsI_cons ?_ (StepsI_cons ?_ (StepsI_cons ?_ StepsI_nil))))))))))))))))))))))))))) ?_
     ·intro k7 k8 k9 ka kb kc kd ke kf kg Q kh; exact L_makeMap (β := RawV) (by decide) (fun ki kj kk kl km => L_nil (kh _ _ (Tch.ext kd kk) kk.le trivial (IM_new km (Nat.le_trans kd.size kl) (all_of (wait_of kc) [2, 4, 6, 8] rfl (by kernel_rfl)) rfl)))
     ·intro k7 k8 k9 ka kb kc kd ke kf kg Q kh; have ki : k8 2 = j2 := (kf 2 (by kernel_rfl)).trans jx; have kj : k8 3 = j7 := (kf 3 (by kernel_rfl)).trans jy; have kk : k8 5 = jk := (kf 5 (by kernel_rfl)).trans jz; exact L_makeFunc (args3 ki kj kk) (by decide) (L_nil (kh _ _ (Tch.ext kd (Ext.refl k9)) (Ext.refl k9).le rfl (IM_keep kg (Ext.refl k9) rfl rfl rfl rfl)))
     ·intro k7 k8 k9 ka kb kc kd ke kf kg Q kh; have ki : k8 27 = Value.func (.func 59) #[] #[j2, j7, jk] := ke 1 27 (by kernel_rfl) (by kernel_rfl); exact IM_insert (q := 2) Try.underlying101 Try.underlying3 kg (kb 0 (by kernel_rfl)) (wait_of kc 9 (by kernel_rfl)) ka (rfl : _ = Value.int .i64 (1)) ki (Vraw rfl) (List.Mem.head _) (by show List.Nodup [2, 4, 6, 8]; decide) (by show List.Nodup ([1, 2, 6, 5] : List Int); decide) kd (Nat.le_refl _) (fun kj kk kl km => L_nil (kh undef _ kk kl trivial km))
     ·intro k7 k8 k9 ka kb kc kd ke kf kg Q kh; have ki : k8 2 = j2 := (kf 2 (by kernel_rfl)).trans jx; have kj : k8 3 = j7 := (kf 3 (by kernel_rfl)).trans jy; have kk : k8 5 = jk := (kf 5 (by kernel_rfl)).trans jz; exact L_makeFunc (args3 ki kj kk) (by decide) (L_nil (kh _ _ (Tch.ext kd (Ext.refl k9)) (Ext.refl k9).le rfl (IM_keep kg (Ext.refl k9) rfl rfl rfl rfl)))
     ·intro k7 k8 k9 ka kb kc kd ke kf kg Q kh; have ki : k8 28 = Value.func (.func 61) #[] #[j2, j7, jk] := ke 3 28 (by kernel_rfl) (by kernel_rfl); exact IM_insert (q := 4) Try.underlying101 Try.underlying3 kg (kb 0 (by kernel_rfl)) (wait_of kc 9 (by kernel_rfl)) ka (rfl : _ = Value.int .i64 (2)) ki (Vraw rfl) (List.Mem.tail _ (List.Mem.head _)) (by show List.Nodup [2, 4, 6, 8]; decide) (by show List.Nodup ([1, 2, 6, 5] : List Int); decide) kd (Nat.le_refl _) (fun kj kk kl km => L_nil (kh undef _ kk kl trivial km))
     ·intro k7 k8 k9 ka kb kc kd ke kf kg Q kh; have ki : k8 2 = j2 := (kf 2 (by kernel_rfl)).trans jx; have kj : k8 3 = j7 := (kf 3 (by kernel_rfl)).trans jy; exact L_makeFunc (args2 ki kj) (by decide) (L_nil (kh _ _ (Tch.ext kd (Ext.refl k9)) (Ext.refl k9).le rfl (IM_keep kg (Ext.refl k9) rfl rfl rfl rfl)))
     ·intro k7 k8 k9 ka kb kc kd ke kf kg Q kh; have ki : k8 29 = Value.func (.func 63) #[] #[j2, j7] := ke 5 29 (by kernel_rfl) (by kernel_rfl); exact IM_insert (q := 6) Try.underlying101 Try.underlying3 kg (kb 0 (by kernel_rfl)) (wait_of kc 9 (by kernel_rfl)) ka (rfl : _ = Value.int .i64 (6)) ki (Vraw rfl) (List.Mem.tail _ (List.Mem.tail _ (List.Mem.head _))) (by show List.Nodup [2, 4, 6, 8]; decide) (by show List.Nodup ([1, 2, 6, 5] : List Int); decide) kd (Nat.le_refl _) (fun kj kk kl km => L_nil (kh undef _ kk kl trivial km))
     ·intro k7 k8 k9 ka kb kc kd ke kf kg Q kh; have ki : k8 2 = j2 := (kf 2 (by kernel_rfl)).trans jx; have kj : k8 3 = j7 := (kf 3 (by kernel_rfl)).trans jy; have kk : k8 5 = jk := (kf 5 (by kernel_rfl)).trans jz; exact L_makeFunc (args3 ki kj kk) (by decide) (L_nil (kh _ _ (Tch.ext kd (Ext.refl k9)) (Ext.refl k9).le rfl (IM_keep kg (Ext.refl k9) rfl rfl rfl rfl)))
     ·intro k7 k8 k9 ka kb kc kd ke kf kg Q kh; have ki : k8 30 = Value.func (.func 64) #[] #[j2, j7, jk] := ke 7 30 (by kernel_rfl) (by kernel_rfl); exact IM_insert (q := 8) Try.underlying101 Try.underlying3 kg (kb 0 (by kernel_rfl)) (wait_of kc 9 (by kernel_rfl)) ka (rfl : _ = Value.int .i64 (5)) ki (Vraw rfl) (List.Mem.tail _ (List.Mem.tail _ (List.Mem.tail _ (List.Mem.head _)))) (by show List.Nodup [2, 4, 6, 8]; decide) (by show List.Nodup ([1, 2, 6, 5] : List Int); decide) kd (Nat.le_refl _) (fun kj kk kl km => L_nil (kh undef _ kk kl trivial km))
     ·intro k7 k8 k9 ka kb kc kd ke kf kg Q kh; obtain ⟨ki, kj, kk, kl, km⟩ := IM_done kg (kb 0 (by kernel_rfl)) ka (all_of kb [2, 4, 6, 8] rfl (by kernel_rfl)) (by show List.Nodup ([1, 2, 6, 5] : List Int); decide) kd (Nat.le_refl _); rw [← kj]; exact mv (rfl : _ = k8 26) (L_nil (kh _ _ kk kl km (IM_at rfl)))
     ·intro k7 k8 k9 ka kb kc kd ke kf kg Q kh; have ki : k8 2 = j2 := (kf 2 (by kernel_rfl)).trans jx; exact L_load ty67 ki (j4.mono (j8.le.trans (jf.le.trans (jt.le.trans kd.le)))) (by decide) (fun kj kk => L_nil (kh _ _ (Tch.ext kd (Ext.refl k9)) (Ext.refl k9).le kk.toPtr (IM_keep kg (Ext.refl k9) rfl rfl rfl rfl)))
     ·intro k7 k8 k9 ka kb kc kd ke kf kg Q kh; have ki : Ptr _ (k8 32) (a0 : Run) := ke 10 32 (by kernel_rfl) (by kernel_rfl); obtain ⟨kj, kk, kl⟩ : ∃ v, _ = v ∧ Ptr _ v _ := ⟨_, rfl, ki⟩; exact L_nilCheck_ptr kk kl (by decide) (L_nil (kh _ _ (Tch.ext kd (Ext.refl k9)) (Ext.refl k9).le kl (IM_keep kg (Ext.refl k9) rfl rfl rfl rfl)))
     ·intro k7 k8 k9 ka kb kc kd ke kf kg Q kh; have ki : Ptr _ (k8 33) (a0 : Run) := ke 11 33 (by kernel_rfl) (by kernel_rfl); obtain ⟨kj, kk, kl⟩ : ∃ v, _ = v ∧ Ptr _ v _ := ⟨_, rfl, ki⟩; exact L_fieldAddr fld72_0 Run.of_c kk kl (by decide) (fun km kn => L_nil (kh _ _ (Tch.ext kd (Ext.refl k9)) (Ext.refl k9).le kn (IM_keep kg (Ext.refl k9) rfl rfl rfl rfl)))
     ·intro k7 k8 k9 ka kb kc kd ke kf kg Q kh; have ki : Ptr _ (k8 34) (a0.c : List (List Deed)) := ke 12 34 (by kernel_rfl) (by kernel_rfl); obtain ⟨kj, kk, kl⟩ : ∃ v, _ = v ∧ Ptr _ v _ := ⟨_, rfl, ki⟩; exact L_load ty29 kk kl (by decide) (fun km kn => L_nil (kh _ _ (Tch.ext kd (Ext.refl k9)) (Ext.refl k9).le kn (IM_keep kg (Ext.refl k9) rfl rfl rfl rfl)))
     ·intro k7 k8 k9 ka kb kc kd ke kf kg Q kh; have ki : k8 3 = j7 := (kf 3 (by kernel_rfl)).trans jy; exact li ty3 ki (j9.mono (jf.le.trans (jt.le.trans kd.le))) (L_nil (kh _ _ (Tch.ext kd (Ext.refl k9)) (Ext.refl k9).le rfl (IM_keep kg (Ext.refl k9) rfl rfl rfl rfl)))
     ·intro k7 k8 k9 ka kb kc kd ke kf kg Q kh; have ki : V _ (k8 35) (a0.c : List (List Deed)) := ke 13 35 (by kernel_rfl) (by kernel_rfl); obtain ⟨kj, kk, kl⟩ : ∃ v, _ = v ∧ V _ v _ := ⟨_, rfl, ki⟩; have km : k8 36 = Value.int .i64 (a1) := ke 14 36 (by kernel_rfl) (by kernel_rfl); exact L_index Try.underlying29 ty59.inf kk kl km k3 (by decide) (fun kn ko => L_nil (kh _ _ (Tch.ext kd (Ext.refl k9)) (Ext.refl k9).le ko (IM_keep kg (Ext.refl k9) rfl rfl rfl rfl)))
     ·intro k7 k8 k9 ka kb kc kd ke kf kg Q kh; have ki : Ptr _ (k8 37) (k2 : List Deed) := ke 15 37 (by kernel_rfl) (by kernel_rfl); obtain ⟨kj, kk, kl⟩ : ∃ v, _ = v ∧ Ptr _ v _ := ⟨_, rfl, ki⟩; exact L_load ty59 kk kl (by decide) (fun km kn => L_nil (kh _ _ (Tch.ext kd (Ext.refl k9)) (Ext.refl k9).le kn (IM_keep kg (Ext.refl k9) rfl rfl rfl rfl)))
     ·intro k7 k8 k9 ka kb kc kd ke kf kg Q kh; have ki : k8 5 = jk := (kf 5 (by kernel_rfl)).trans jz; exact li ty3 ki (jm.mono (jt.le.trans kd.le)) (L_nil (kh _ _ (Tch.ext kd (Ext.refl k9)) (Ext.refl k9).le rfl (IM_keep kg (Ext.refl k9) rfl rfl rfl rfl)))
     ·intro k7 k8 k9 ka kb kc kd ke kf kg Q kh; have ki : V _ (k8 38) (k2 : List Deed) := ke 16 38 (by kernel_rfl) (by kernel_rfl); obtain ⟨kj, kk, kl⟩ : ∃ v, _ = v ∧ V _ v _ := ⟨_, rfl, ki⟩; have km : k8 39 = Value.int .i64 (jb) := ke 17 39 (by kernel_rfl) (by kernel_rfl); exact L_index Try.underlying59 ty64.inf kk kl km k5 (by decide) (fun kn ko => L_nil (kh _ _ (Tch.ext kd (Ext.refl k9)) (Ext.refl k9).le ko (IM_keep kg (Ext.refl k9) rfl rfl rfl rfl)))
     ·intro k7 k8 k9 ka kb kc kd ke kf kg Q kh; have ki : Ptr _ (k8 40) (k4 : Deed) := ke 18 40 (by kernel_rfl) (by kernel_rfl); obtain ⟨kj, kk, kl⟩ : ∃ v, _ = v ∧ Ptr _ v _ := ⟨_, rfl, ki⟩; exact L_fieldAddr fld64_0 Deed.of_Kind kk kl (by decide) (fun km kn => L_nil (kh _ _ (Tch.ext kd (Ext.refl k9)) (Ext.refl k9).le kn (IM_keep kg (Ext.refl k9) rfl rfl rfl rfl)))
     ·intro k7 k8 k9 ka kb kc kd ke kf kg Q kh; have ki : Ptr _ (k8 41) (k4.Kind : Int) := ke 19 41 (by kernel_rfl) (by kernel_rfl); obtain ⟨kj, kk, kl⟩ : ∃ v, _ = v ∧ Ptr _ v _ := ⟨_, rfl, ki⟩; exact li ty3 kk kl (L_nil (kh _ _ (Tch.ext kd (Ext.refl k9)) (Ext.refl k9).le rfl (IM_keep kg (Ext.refl k9) rfl rfl rfl rfl)))
     ·intro k7 k8 k9 ka kb kc kd ke kf kg Q kh; obtain ⟨ki, kj, kk⟩ : ∃ v, k8 31 = v ∧ MapQ k9 v ([((1 : Int), (⟨Value.func (.func 59) #[] #[j2, j7, jk]⟩ : RawV)), ((2 : Int), (⟨Value.func (.func 61) #[] #[j2, j7, jk]⟩ : RawV)), ((6 : Int), (⟨Value.func (.func 63) #[] #[j2, j7]⟩ : RawV)), ((5 : Int), (⟨Value.func (.func 64) #[] #[j2, j7, jk]⟩ : RawV))] : List (Int × RawV)) := ⟨_, rfl, ke 9 31 (by kernel_rfl) (by kernel_rfl)⟩; have kl : k8 42 = Value.int .i64 (k4.Kind) := ke 20 42 (by kernel_rfl) (by kernel_rfl); refine L_lookup_q (m := ([((1 : Int), (⟨Value.func (.func 59) #[] #[j2, j7, jk]⟩ : RawV)), ((2 : Int), (⟨Value.func (.func 61) #[] #[j2, j7, jk]⟩ : RawV)), ((6 : Int), (⟨Value.func (.func 63) #[] #[j2, j7]⟩ : RawV)), ((5 : Int), (⟨Value.func (.func 64) #[] #[j2, j7, jk]⟩ : RawV))] : List (Int × RawV))) (z0 := (⟨Value.nilFunc⟩ : RawV)) Try.underlying101 Try.underlying3 zero25 (Vraw rfl) kj kl kk (by decide) ?_; have km : mget ([((1 : Int), (⟨Value.func (.func 59) #[] #[j2, j7, jk]⟩ : RawV)), ((2 : Int), (⟨Value.func (.func 61) #[] #[j2, j7, jk]⟩ : RawV)), ((6 : Int), (⟨Value.func (.func 63) #[] #[j2, j7]⟩ : RawV)), ((5 : Int), (⟨Value.func (.func 64) #[] #[j2, j7, jk]⟩ : RawV))] : List (Int × RawV)) k4.Kind = some (⟨Value.func (.func 59) #[] #[j2, j7, jk]⟩ : RawV) := (mget_hit k6); rw [km]; intro kn ko; obtain rfl : kn = _ := ko.raw; exact L_nil (kh _ _ kd (Le.refl _) ⟨_, _, rfl, rfl, rfl⟩ (IM_keep kg (Ext.refl _) rfl rfl rfl rfl))
     ·intro k7 k8 k9 ka kb kc kd ke kf kg Q kh; have ki : (PV.two (PV.eq (Value.func (.func 59) #[] #[j2, j7, jk])) (PV.eq (Value.bool (true)))).p (k8 43) k9 := ke 21 43 (by kernel_rfl) (by kernel_rfl); obtain ⟨kj, kk, kl, km, kn⟩ := ki; obtain rfl : kj = _ := km; obtain rfl : kk = _ := kn; exact mv kl (L_nil (kh _ _ (Tch.ext kd (Ext.refl k9)) (Ext.refl k9).le ⟨_, _, rfl, rfl, rfl⟩ (IM_keep kg (Ext.refl k9) rfl rfl rfl rfl)))
     ·intro k7 k8 k9 ka kb kc kd ke kf kg Q kh; have ki : (PV.two (PV.eq (Value.func (.func 59) #[] #[j2, j7, jk])) (PV.eq (Value.bool (true)))).p (k8 25) k9 := ke 22 25 (by kernel_rfl) (by kernel_rfl); obtain ⟨kj, kk, kl, km, kn⟩ := ki; obtain rfl : kj = _ := km; obtain rfl : kk = _ := kn; exact L_extract kl (k := 0) rfl (by decide) (L_nil (kh _ _ (Tch.ext kd (Ext.refl k9)) (Ext.refl k9).le rfl (IM_keep kg (Ext.refl k9) rfl rfl rfl rfl)))
     ·intro k7 k8 k9 ka kb kc kd ke kf kg Q kh; have ki : (PV.two (PV.eq (Value.func (.func 59) #[] #[j2, j7, jk])) (PV.eq (Value.bool (true)))).p (k8 25) k9 := ke 22 25 (by kernel_rfl) (by kernel_rfl); obtain ⟨kj, kk, kl, km, kn⟩ := ki; obtain rfl : kj = _ := km; obtain rfl : kk = _ := kn; exact L_extract kl (k := 1) rfl (by decide) (L_nil (kh _ _ (Tch.ext kd (Ext.refl k9)) (Ext.refl k9).le rfl (IM_keep kg (Ext.refl k9) rfl rfl rfl rfl)))
     ·intro k7 k8 k9 ka kb kc kd ke kf kg Q kh; have ki : k8 44 = Value.func (.func 59) #[] #[j2, j7, jk] := ke 23 44 (by kernel_rfl) (by kernel_rfl); exact asg ki (L_nil (kh _ _ (Tch.ext kd (Ext.refl k9)) (Ext.refl k9).le rfl (IM_keep kg (Ext.refl k9) rfl rfl rfl rfl)))
     ·intro k7 k8 k9 ka kb kc kd ke kf kg Q kh; have ki : k8 45 = Value.bool (true) := ke 24 45 (by kernel_rfl) (by kernel_rfl); exact asg ki (L_nil (kh _ _ (Tch.ext kd (Ext.refl k9)) (Ext.refl k9).le rfl (IM_keep kg (Ext.refl k9) rfl rfl rfl rfl)))
     ·intro k7 k8 k9 ka kb; have kc := Tch.ext jw k9; have kd : k7 6 = Value.func (.func 59) #[] #[j2, j7, jk] := ka 25 6 (by kernel_rfl); have ke : k7 7 = Value.bool (true) := ka 26 7 (by kernel_rfl); refine then_n (sr (mv ke (L_not (rfl : _ = Value.bool (true)) (by decide) (mv (rfl : _ = Value.bool (!true)) (gt 48 (rfl : _ = Value.bool (!true)) rfl (mv kd (gt 48 (rfl : _ = Value.bool (!true)) rfl ?_))))))); obtain ⟨kf, kg, hr⟩ := bind_some hr; refine L_callv cal59 (rfl : _ = Value.func (.func 59) #[] #[j2, j7, jk]) (args0) (dead_run_can_1_ok N _ _ _ (j4.mono (j8.le.trans (jf.le.trans (jt.le.trans k9.le)))) _ _ (j9.mono (jf.le.trans (jt.le.trans k9.le))) _ _ (jm.mono (jt.le.trans k9.le)) kf kg) (by decide) (fun kh ki kj kk => ?_); have kl := Tch.ext kc kj; obtain rfl := kk.bool; refine pf (rfl : _ = Value.bool (!true)) rfl (rfl : _ = Value.bool (kf)) (asg (rfl : _ = Value.bool (kf)) (nn (W_ret ?_))); obtain rfl := Option.some.inj hr; exact done1 (Or.inl rfl) Try.results32 rfl ⟨_, _, rfl, rfl, kl, Vbool⟩
    ·have hr := ite_f k6 hr
     rcases Bool.eq_false_or_eq_true (decide (k4.Kind = (2 : Int))) with k7 | k7
     ·have hr := ite_t k7 hr
      refine W_drawI mixed (by kernel_rfl) (IM js.w.heap.size 26 0 9 ([(2, (1 : Int), (⟨Value.func (.func 59) #[] #[j2, j7, jk]⟩ : RawV)), (4, (2 : Int), (⟨Value.func (.func 61) #[] #[j2, j7, jk]⟩ : RawV)), (6, (6 : Int), (⟨Value.func (.func 63) #[] #[j2, j7]⟩ : RawV)), (8, (5 : Int), (⟨Value.func (.func 64) #[] #[j2, j7, jk]⟩ : RawV))] : List (Nat × Int × RawV))) [PL.any, PL.eq (Value.func (.func 59) #[] #[j2, j7, jk]), PL.any, PL.eq (Value.func (.func 61) #[] #[j2, j7, jk]), PL.any, PL.eq (Value.func (.func 63) #[] #[j2, j7]), PL.any, PL.eq (Value.func (.func 64) #[] #[j2, j7, jk]), PL.any, PL.mapq ([((1 : Int), (⟨Value.func (.func 59) #[] #[j2, j7, jk]⟩ : RawV)), ((2 : Int), (⟨Value.func (.func 61) #[] #[j2, j7, jk]⟩ : RawV)), ((6 : Int), (⟨Value.func (.func 63) #[] #[j2, j7]⟩ : RawV)), ((5 : Int), (⟨Value.func (.func 64) #[] #[j2, j7, jk]⟩ : RawV))] : List (Int × RawV)), PL.ptr (a0 : Run), PL.ptr (a0 : Run), PL.ptr (a0.c : List (List Deed)), PL.data (a0.c : List (List Deed)), PL.eq (Value.int .i64 (a1)), PL.ptr (k2 : List Deed), PL.data (k2 : List Deed), PL.eq (Value.int .i64 (jb)), PL.ptr (k4 : Deed), PL.ptr (k4.Kind : Int), PL.eq (Value.int .i64 (k4.Kind)), PL.two (PL.eq (Value.func (.func 61) #[] #[j2, j7, jk])) (PL.eq (Value.bool (true))), PL.two (PL.eq (Value.func (.func 61) #[] #[j2, j7, jk])) (PL.eq (Value.bool (true))), PL.eq (Value.func (.func 61) #[] #[j2, j7, jk]), PL.eq (Value.bool (true)), PL.eq (Value.func (.func 61) #[] #[j2, j7, jk]), PL.eq (Value.bool (true))] (fun _ => IM_none) (StepsI_cons ?_ (StepsI_cons ?_ (StepsI_cons ?_ (StepsI_cons ?_ (StepsI_cons ?_ (StepsI_cons ?_ (StepsI_cons ?_ (StepsI_cons ?_ (StepsI_cons ?_ (StepsI_cons ?_ (StepsI_cons ?_ (StepsI_cons ?_ (StepsI_cons ?_ (StepsI_cons ?_ (StepsI_cons ?_ (StepsI_cons ?_ (StepsI_cons ?_ (StepsI_cons ?_ (StepsI_cons ?_ (StepsI_cons ?_ (StepsI_cons ?_ (StepsI_cons ?_ (StepsI_cons ?_ (StepsI_cons ?_ (StepsI_cons ?_ (StepsI_cons ?_ (StepsI_cons ?_ StepsI_nil))))))))))))))))))))))))))) ?_
      ·intro k8 k9 ka kb kc kd ke kf kg kh Q ki; exact L_makeMap (β := RawV) (by decide) (fun kj kk kl km kn => L_nil (ki _ _ (Tch.ext ke kl) kl.le trivial (IM_new kn (Nat.le_trans ke.size km) (all_of (wait_of kd) [2, 4, 6, 8] rfl (by kernel_rfl)) rfl)))
      ·intro k8 k9 ka kb kc kd ke kf kg kh Q ki; have kj : k9 2 = j2 := (kg 2 (by kernel_rfl)).trans jx; have kk : k9 3 = j7 := (kg 3 (by kernel_rfl)).trans jy; have kl : k9 5 = jk := (kg 5 (by kernel_rfl)).trans jz; exact L_makeFunc (args3 kj kk kl) (by decide) (L_nil (ki _ _ (Tch.ext ke (Ext.refl ka)) (Ext.refl ka).le rfl (IM_keep kh (Ext.refl ka) rfl rfl rfl rfl)))
      ·intro k8 k9 ka kb kc kd ke kf kg kh Q ki; have kj : k9 27 = Value.func (.func 59) #[] #[j2, j7, jk] := kf 1 27 (by kernel_rfl) (by kernel_rfl); exact IM_insert (q := 2) Try.underlying101 Try.underlying3 kh (kc 0 (by kernel_rfl)) (wait_of kd 9 (by kernel_rfl)) kb (rfl : _ = Value.int .i64 (1)) kj (Vraw rfl) (List.Mem.head _) (by show List.Nodup [2, 4, 6, 8]; decide) (by show List.Nodup ([1, 2, 6, 5] : List Int); decide) ke (Nat.le_refl _) (fun kk kl km kn => L_nil (ki undef _ kl km trivial kn))
      ·intro k8 k9 ka kb kc kd ke kf kg kh Q ki; have kj : k9 2 = j2 := (kg 2 (by kernel_rfl)).trans jx; have kk : k9 3 = j7 := (kg 3 (by kernel_rfl)).trans jy; have kl : k9 5 = jk := (kg 5 (by kernel_rfl)).trans jz; exact L_makeFunc (args3 kj kk kl) (by decide) (L_nil (ki _ _ (Tch.ext ke (Ext.refl ka)) (Ext.refl ka).le rfl (IM_keep kh (Ext.refl ka) rfl rfl rfl rfl)))
      ·intro k8 k9 ka kb kc kd ke kf kg kh Q ki; have kj : k9 28 = Value.func (.func 61) #[] #[j2, j7, jk] := kf 3 28 (by kernel_rfl) (by kernel_rfl); exact IM_insert (q := 4) Try.underlying101 Try.underlying3 kh (kc 0 (by kernel_rfl)) (wait_of kd 9 (by kernel_rfl)) kb (rfl : _ = Value.int .i64 (2)) kj (Vraw rfl) (List.Mem.tail _ (List.Mem.head _)) (by show List.Nodup [2, 4, 6, 8]; decide) (by show List.Nodup ([1, 2, 6, 5] : List Int); decide) ke (Nat.le_refl _) (fun kk kl km kn => L_nil (ki undef _ kl km trivial kn))
      ·intro k8 k9 ka kb kc kd ke kf kg kh Q ki; have kj : k9 2 = j2 := (kg 2 (by kernel_rfl)).trans jx; have kk : k9 3 = j7 := (kg 3 (by kernel_rfl)).trans jy; exact L_makeFunc (args2 kj kk) (by decide) (L_nil (ki _ _ (Tch.ext ke (Ext.refl ka)) (Ext.refl ka).le rfl (IM_keep kh (Ext.refl ka) rfl rfl rfl rfl)))
      ·intro k8 k9 ka kb kc kd ke kf kg kh Q ki; have kj : k9 29 = Value.func (.func 63) #[] #[j2, j7] := kf 5 29 (by kernel_rfl) (by kernel_rfl); exact IM_insert (q := 6) Try.underlying101 Try.underlying3 kh (kc 0 (by kernel_rfl)) (wait_of kd 9 (by kernel_rfl)) kb (rfl : _ = Value.int .i64 (6)) kj (Vraw rfl) (List.Mem.tail _ (List.Mem.tail _ (List.Mem.head _))) (by show List.Nodup [2, 4, 6, 8]; decide) (by show List.Nodup ([1, 2, 6, 5] : List Int); decide) ke (Nat.le_refl _) (fun kk kl km kn => L_nil (ki undef _ kl km trivial kn))
      ·intro k8 k9 ka kb kc kd ke kf kg kh Q ki; have kj : k9 2 = j2 := (kg 2 (by kernel_rfl)).trans jx; have kk : k9 3 = j7 := (kg 3 (by kernel_rfl)).trans jy; have kl : k9 5 = jk := (kg 5 (by kernel_rfl)).trans jz; exact L_makeFunc (args3 kj kk kl) (by decide) (L_nil (ki _ _ (Tch.ext ke (Ext.refl ka)) (Ext.refl ka).le rfl (IM_keep kh (Ext.refl ka) rfl rfl rfl rfl)))
      ·intro k8 k9 ka kb kc kd ke kf kg kh Q ki; have kj : k9 30 = Value.func (.func 64) #[] #[j2, j7, jk] := kf 7 30 (by kernel_rfl) (by kernel_rfl); exact IM_insert (q := 8) Try.underlying101 Try.underlying3 kh (kc 0 (by kernel_rfl)) (wait_of kd 9 (by kernel_rfl)) kb (rfl : _ = Value.int .i64 (5)) kj (Vraw rfl) (List.Mem.tail _ (List.Mem.tail _ (List.Mem.tail _ (List.Mem.head _)))) (by show List.Nodup [2, 4, 6, 8]; decide) (by show List.Nodup ([1, 2, 6, 5] : List Int); decide) ke (Nat.le_refl _) (fun kk kl km kn => L_nil (ki undef _ kl km trivial kn))
      ·intro k8 k9 ka kb kc kd ke kf kg kh Q ki; obtain ⟨kj, kk, kl, km, kn⟩ := IM_done kh (kc 0 (by kernel_rfl)) kb (all_of kc [2, 4, 6, 8] rfl (by kernel_rfl)) (by show List.Nodup ([1, 2, 6, 5] : List Int); decide) ke (Nat.le_refl _); rw [← kk]; exact mv (rfl : _ = k9 26) (L_nil (ki _ _ kl km kn (IM_at rfl)))
      ·intro k8 k9 ka kb kc kd ke kf kg kh Q ki; have kj : k9 2 = j2 := (kg 2 (by kernel_rfl)).trans jx; exact L_load ty67 kj (j4.mono (j8.le.trans (jf.le.trans (jt.le.trans ke.le)))) (by decide) (fun kk kl => L_nil (ki _ _ (Tch.ext ke (Ext.refl ka)) (Ext.refl ka).le kl.toPtr (IM_keep kh (Ext.refl ka) rfl rfl rfl rfl)))
      ·intro k8 k9 ka kb kc kd ke kf kg kh Q ki; have kj : Ptr _ (k9 32) (a0 : Run) := kf 10 32 (by kernel_rfl) (by kernel_rfl); obtain ⟨kk, kl, km⟩ : ∃ v, _ = v ∧ Ptr _ v _ := ⟨_, rfl, kj⟩; exact L_nilCheck_ptr kl km (by decide) (L_nil (ki _ _ (Tch.ext ke (Ext.refl ka)) (Ext.refl ka).le km (IM_keep kh (Ext.refl ka) rfl rfl rfl rfl)))
      ·intro k8 k9 ka kb kc kd ke kf kg kh Q ki; have kj : Ptr _ (k9 33) (a0 : Run) := kf 11 33 (by kernel_rfl) (by kernel_rfl); obtain ⟨kk, kl, km⟩ : ∃ v, _ = v ∧ Ptr _ v _ := ⟨_, rfl, kj⟩; exact L_fieldAddr fld72_0 Run.of_c kl km (by decide) (fun kn ko => L_nil (ki _ _ (Tch.ext ke (Ext.refl ka)) (Ext.refl ka).le ko (IM_keep kh (Ext.refl ka) rfl rfl rfl rfl)))
      ·intro k8 k9 ka kb kc kd ke kf kg kh Q ki; have kj : Ptr _ (k9 34) (a0.c : List (List Deed)) := kf 12 34 (by kernel_rfl) (by kernel_rfl); obtain ⟨kk, kl, km⟩ : ∃ v, _ = v ∧ Ptr _ v _ := ⟨_, rfl, kj⟩; exact L_load ty29 kl km (by decide) (fun kn ko => L_nil (ki _ _ (Tch.ext ke (Ext.refl ka)) (Ext.refl ka).le ko (IM_keep kh (Ext.refl ka) rfl rfl rfl rfl)))
      ·intro k8 k9 ka kb kc kd ke kf kg kh Q ki; have kj : k9 3 = j7 := (kg 3 (by kernel_rfl)).trans jy; exact li ty3 kj (j9.mono (jf.le.trans (jt.le.trans ke.le))) (L_nil (ki _ _ (Tch.ext ke (Ext.refl ka)) (Ext.refl ka).le rfl (IM_keep kh (Ext.refl ka) rfl rfl rfl rfl)))
      ·intro k8 k9 ka kb kc kd ke kf kg kh Q ki; have kj : V _ (k9 35) (a0.c : List (List Deed)) := kf 13 35 (by kernel_rfl) (by kernel_rfl); obtain ⟨kk, kl, km⟩ : ∃ v, _ = v ∧ V _ v _ := ⟨_, rfl, kj⟩; have kn : k9 36 = Value.int .i64 (a1) := kf 14 36 (by kernel_rfl) (by kernel_rfl); exact L_index Try.underlying29 ty59.inf kl km kn k3 (by decide) (fun ko kp => L_nil (ki _ _ (Tch.ext ke (Ext.refl ka)) (Ext.refl ka).le kp (IM_keep kh (Ext.refl ka) rfl rfl rfl rfl)))
      ·intro k8 k9 ka kb kc kd ke kf kg kh Q ki; have kj : Ptr _ (k9 37) (k2 : List Deed) := kf 15 37 (by kernel_rfl) (by kernel_rfl); obtain ⟨kk, kl, km⟩ : ∃ v, _ = v ∧ Ptr _ v _ := ⟨_, rfl, kj⟩; exact L_load ty59 kl km (by decide) (fun kn ko => L_nil (ki _ _ (Tch.ext ke (Ext.refl ka)) (Ext.refl ka).le ko (IM_keep kh (Ext.refl ka) rfl rfl rfl rfl)))
      ·intro k8 k9 ka kb kc kd ke kf kg kh Q ki; have kj : k9 5 = jk := (kg 5 (by kernel_rfl)).trans jz; exact li ty3 kj (jm.mono (jt.le.trans ke.le)) (L_nil (ki _ _ (Tch.ext ke (Ext.refl ka)) (Ext.refl ka).le rfl (IM_keep kh (Ext.refl ka) rfl rfl rfl rfl)))
      ·intro k8 k9 ka kb kc kd ke kf kg kh Q ki; have kj : V _ (k9 38) (k2 : List Deed) := kf 16 38 (by kernel_rfl) (by kernel_rfl); obtain ⟨kk, kl, km⟩ : ∃ v, _ = v ∧ V _ v _ := ⟨_, rfl, kj⟩; have kn : k9 39 = Value.int .i64 (jb) := kf 17 39 (by kernel_rfl) (by kernel_rfl); exact L_index Try.underlying59 ty64.inf kl km kn k5 (by decide) (fun ko kp => L_nil (ki _ _ (Tch.ext ke (Ext.refl ka)) (Ext.refl ka).le kp (IM_keep kh (Ext.refl ka) rfl rfl rfl rfl)))
      ·intro k8 k9 ka kb kc kd ke kf kg kh Q ki; have kj : Ptr _ (k9 40) (k4 : Deed) := kf 18 40 (by kernel_rfl) (by kernel_rfl); obtain ⟨kk, kl, km⟩ : ∃ v, _ = v ∧ Ptr _ v _ := ⟨_, rfl, kj⟩; exact L_fieldAddr fld64_0 Deed.of_Kind kl km (by decide) (fun kn ko => L_nil (ki _ _ (Tch.ext ke (Ext.refl ka)) (Ext.refl ka).le ko (IM_keep kh (Ext.refl ka) rfl rfl rfl rfl)))
      ·intro k8 k9 ka kb kc kd ke kf kg kh Q ki; have kj : Ptr _ (k9 41) (k4.Kind : Int) := kf 19 41 (by kernel_rfl) (by kernel_rfl); obtain ⟨kk, kl, km⟩ : ∃ v, _ = v ∧ Ptr _ v _ := ⟨_, rfl, kj⟩; exact li ty3 kl km (L_nil (ki _ _ (Tch.ext ke (Ext.refl ka)) (Ext.refl ka).le rfl (IM_keep kh (Ext.refl ka) rfl rfl rfl rfl)))
      ·intro k8 k9 ka kb kc kd ke kf kg kh Q ki; obtain ⟨kj, kk, kl⟩ : ∃ v, k9 31 = v ∧ MapQ ka v ([((1 : Int), (⟨Value.func (.func 59) #[] #[j2, j7, jk]⟩ : RawV)), ((2 : Int), (⟨Value.func (.func 61) #[] #[j2, j7, jk]⟩ : RawV)), ((6 : Int), (⟨Value.func (.func 63) #[] #[j2, j7]⟩ : RawV)), ((5 : Int), (⟨Value.func (.func 64) #[] #[j2, j7, jk]⟩ : RawV))] : List (Int × RawV)) := ⟨_, rfl, kf 9 31 (by kernel_rfl) (by kernel_rfl)⟩; have km : k9 42 = Value.int .i64 (k4.Kind) := kf 20 42 (by kernel_rfl) (by kernel_rfl); refine L_lookup_q (m := ([((1 : Int), (⟨Value.func (.func 59) #[] #[j2, j7, jk]⟩ : RawV)), ((2 : Int), (⟨Value.func (.func 61) #[] #[j2, j7, jk]⟩ : RawV)), ((6 : Int), (⟨Value.func (.func 63) #[] #[j2, j7]⟩ : RawV)), ((5 : Int), (⟨Value.func (.func 64) #[] #[j2, j7, jk]⟩ : RawV))] : List (Int × RawV))) (z0 := (⟨Value.nilFunc⟩ : RawV)) Try.underlying101 Try.underlying3 zero25 (Vraw rfl) kk km kl (by decide) ?_; have kn : mget ([((1 : Int), (⟨Value.func (.func 59) #[] #[j2, j7, jk]⟩ : RawV)), ((2 : Int), (⟨Value.func (.func 61) #[] #[j2, j7, jk]⟩ : RawV)), ((6 : Int), (⟨Value.func (.func 63) #[] #[j2, j7]⟩ : RawV)), ((5 : Int), (⟨Value.func (.func 64) #[] #[j2, j7, jk]⟩ : RawV))] : List (Int × RawV)) k4.Kind = some (⟨Value.func (.func 61) #[] #[j2, j7, jk]⟩ : RawV) := (mget_skip k6 (mget_hit k7)); rw [kn]; intro ko kp; obtain rfl : ko = _ := kp.raw; exact L_nil (ki _ _ ke (Le.refl _) ⟨_, _, rfl, rfl, rfl⟩ (IM_keep kh (Ext.refl _) rfl rfl rfl rfl))
      ·intro k8 k9 ka kb kc kd ke kf kg kh Q ki; have kj : (PV.two (PV.eq (Value.func (.func 61) #[] #[j2, j7, jk])) (PV.eq (Value.bool (true)))).p (k9 43) ka := kf 21 43 (by kernel_rfl) (by kernel_rfl); obtain ⟨kk, kl, km, kn, ko⟩ := kj; obtain rfl : kk = _ := kn; obtain rfl : kl = _ := ko; exact mv km (L_nil (ki _ _ (Tch.ext ke (Ext.refl ka)) (Ext.refl ka).le ⟨_, _, rfl, rfl, rfl⟩ (IM_keep kh (Ext.refl ka) rfl rfl rfl rfl)))
      ·intro k8 k9 ka kb kc kd ke kf kg kh Q ki; have kj : (PV.two (PV.eq (Value.func (.func 61) #[] #[j2, j7, jk])) (PV.eq (Value.bool (true)))).p (k9 25) ka := kf 22 25 (by kernel_rfl) (by kernel_rfl); obtain ⟨kk, kl, km, kn, ko⟩ := kj; obtain rfl : kk = _ := kn; obtain rfl : kl = _ := ko; exact L_extract km (k := 0) rfl (by decide) (L_nil (ki _ _ (Tch.ext ke (Ext.refl ka)) (Ext.refl ka).le rfl (IM_keep kh (Ext.refl ka) rfl rfl rfl rfl)))
      ·intro k8 k9 ka kb kc kd ke kf kg kh Q ki; have kj : (PV.two (PV.eq (Value.func (.func 61) #[] #[j2, j7, jk])) (PV.eq (Value.bool (true)))).p (k9 25) ka := kf 22 25 (by kernel_rfl) (by kernel_rfl); obtain ⟨kk, kl, km, kn, ko⟩ := kj; obtain rfl : kk = _ := kn; obtain rfl : kl = _ := ko; exact L_extract km (k := 1) rfl (by decide) (L_nil (ki _ _ (Tch.ext ke (Ext.refl ka)) (Ext.refl ka).le rfl (IM_keep kh (Ext.refl ka) rfl rfl rfl rfl)))
      ·intro k8 k9 ka kb kc kd ke kf kg kh Q ki; have kj : k9 44 = Value.func (.func 61) #[] #[j2, j7, jk] := kf 23 44 (by kernel_rfl) (by kernel_rfl); exact asg kj (L_nil (ki _ _ (Tch.ext ke (Ext.refl ka)) (Ext.refl ka).le rfl (IM_keep kh (Ext.refl ka) rfl rfl rfl rfl)))
      ·intro k8 k9 ka kb kc kd ke kf kg kh Q ki; have kj : k9 45 = Value.bool (true) := kf 24 45 (by kernel_rfl) (by kernel_rfl); exact asg kj (L_nil (ki _ _ (Tch.ext ke (Ext.refl ka)) (Ext.refl ka).le rfl (IM_keep kh (Ext.refl ka) rfl rfl rfl rfl)))
      ·intro k8 k9 ka kb kc; have kd := Tch.ext jw ka; have ke : k8 6 = Value.func (.func 61) #[] #[j2, j7, jk] := kb 25 6 (by kernel_rfl); have kf : k8 7 = Value.bool (true) := kb 26 7 (by kernel_rfl); refine then_n (sr (mv kf (L_not (rfl : _ = Value.bool (true)) (by decide) (mv (rfl : _ = Value.bool (!true)) (gt 48 (rfl : _ = Value.bool (!true)) rfl (mv ke (gt 48 (rfl : _ = Value.bool (!true)) rfl ?_))))))); obtain ⟨kg, kh, hr⟩ := bind_some hr; refine L_callv cal61 (rfl : _ = Value.func (.func 61) #[] #[j2, j7, jk]) (args0) (dead_run_can_2_ok N _ _ _ (j4.mono (j8.le.trans (jf.le.trans (jt.le.trans ka.le)))) _ _ (j9.mono (jf.le.trans (jt.le.trans ka.le))) _ _ (jm.mono (jt.le.trans ka.le)) kg kh) (by decide) (fun ki kj kk kl => ?_); have km := Tch.ext kd kk; obtain rfl := kl.bool; refine pf (rfl : _ = Value.bool (!true)) rfl (rfl : _ = Value.bool (kg)) (asg (rfl : _ = Value.bool (kg)) (nn (W_ret ?_))); obtain rfl := Option.some.inj hr; exact done1 (Or.inl rfl) Try.results32 rfl ⟨_, _, rfl, rfl, km, Vbool⟩
     ·have hr := ite_f k7 hr
      rcases Bool.eq_false_or_eq_true (decide (k4.Kind = (6 : Int))) with k8 | k8
      ·have hr := ite_t k8 hr
       refine W_drawI mixed (by kernel_rfl) (IM js.w.heap.size 26 0 9 ([(2, (1 : Int), (⟨Value.func (.func 59) #[] #[j2, j7, jk]⟩ : RawV)), (4, (2 : Int), (⟨Value.func (.func 61) #[] #[j2, j7, jk]⟩ : RawV)), (6, (6 : Int), (⟨Value.func (.func 63) #[] #[j2, j7]⟩ : RawV)), (8, (5 : Int), (⟨Value.func (.func 64) #[] #[j2, j7, jk]⟩ : RawV))] : List (Nat × Int × RawV))) [PL.any, PL.eq (Value.func (.func 59) #[] #[j2, j7, jk]), PL.any, PL.eq (Value.func (.func 61) #[] #[j2, j7, jk]), PL.any, PL.eq (Value.func (.func 63) #[] #[j2, j7]), PL.any, PL.eq (Value.func (.func 64) #[] #[j2, j7, jk]), PL.any, PL.mapq ([((1 : Int), (⟨Value.func (.func 59) #[] #[j2, j7, jk]⟩ : RawV)), ((2 : Int), (⟨Value.func (.func 61) #[] #[j2, j7, jk]⟩ : RawV)), ((6 : Int), (⟨Value.func (.func 63) #[] #[j2, j7]⟩ : RawV)), ((5 : Int), (⟨Value.func (.func 64) #[] #[j2, j7, jk]⟩ : RawV))] : List (Int × RawV)), PL.ptr (a0 : Run), PL.ptr (a0 : Run), PL.ptr (a0.c : List (List Deed)), PL.data (a0.c : List (List Deed)), PL.eq (Value.int .i64 (a1)), PL.ptr (k2 : List Deed), PL.data (k2 : List Deed), PL.eq (Value.int .i64 (jb)), PL.ptr (k4 : Deed), PL.ptr (k4.Kind : Int), PL.eq (Value.int .i64 (k4.Kind)), PL.two (PL.eq (Value.func (.func 63) #[] #[j2, j7])) (PL.eq (Value.bool (true))), PL.two (PL.eq (Value.func (.func 63) #[] #[j2, j7])) (PL.eq (Value.bool (true))), PL.eq (Value.func (.func 63) #[] #[j2, j7]), PL.eq (Value.bool (true)), PL.eq (Value.func (.func 63) #[] #[j2, j7]), PL.eq (Value.bool (true))] (fun _ => IM_none) (StepsI_cons ?_ (StepsI_cons ?_ (StepsI_cons ?_ (StepsI_cons ?_ (StepsI_cons ?_ (StepsI_cons ?_ (StepsI_cons ?_ (StepsI_cons ?_ (StepsI_cons ?_ (StepsI_cons ?_ (StepsI_cons ?_ (StepsI_cons ?_ (StepsI_cons ?_ (StepsI_cons ?_ (StepsI_cons ?_ (StepsI_cons ?_ (StepsI_cons ?_ (StepsI_cons ?_ (StepsI_cons ?_ (StepsI_cons ?_ (StepsI_cons ?_ (StepsI_cons ?_ (StepsI_cons ?_ (StepsI_cons ?_ (StepsI_cons ?_ (StepsI_cons ?_ (StepsI_cons ?_ StepsI_nil))))))))))))))))))))))))))) ?_
       ·intro k9 ka kb kc kd ke kf kg kh ki Q kj; exact L_makeMap (β := RawV) (by decide) (fun kk kl km kn ko => L_nil (kj _ _ (Tch.ext kf km) km.le trivial (IM_new ko (Nat.le_trans kf.size kn) (all_of (wait_of ke) [2, 4, 6, 8] rfl (by kernel_rfl)) rfl)))
       ·intro k9 ka kb kc kd ke kf kg kh ki Q kj; have kk : ka 2 = j2 := (kh 2 (by kernel_rfl)).trans jx; have kl : ka 3 = j7 := (kh 3 (by kernel_rfl)).trans jy; have km : ka 5 = jk := (kh 5 (by kernel_rfl)).trans jz; exact L_makeFunc (args3 kk kl km) (by decide) (L_nil (kj _ _ (Tch.ext kf (Ext.refl kb)) (Ext.refl kb).le rfl (IM_keep ki (Ext.refl kb) rfl rfl rfl rfl)))
       ·intro k9 ka kb kc kd ke kf kg kh ki Q kj; have kk : ka 27 = Value.func (.func 59) #[] #[j2, j7, jk] := kg 1 27 (by kernel_rfl) (by kernel_rfl); exact IM_insert (q := 2) Try.underlying101 Try.underlying3 ki (kd 0 (by kernel_rfl)) (wait_of ke 9 (by kernel_rfl)) kc (rfl : _ = Value.int .i64 (1)) kk (Vraw rfl) (List.Mem.head _) (by show List.Nodup [2, 4, 6, 8]; decide) (by show List.Nodup ([1, 2, 6, 5] : List Int); decide) kf (Nat.le_refl _) (fun kl km kn ko => L_nil (kj undef _ km kn trivial ko))
       ·intro k9 ka kb kc kd ke kf kg kh ki Q kj; have kk : ka 2 = j2 := (kh 2 (by kernel_rfl)).trans jx; have kl : ka 3 = j7 := (kh 3 (by kernel_rfl)).trans jy; have km : ka 5 = jk := (kh 5 (by kernel_rfl)).trans jz; exact L_makeFunc (args3 kk kl km) (by decide) (L_nil (kj _ _ (Tch.ext kf (Ext.refl kb)) (Ext.refl kb).le rfl (IM_keep ki (Ext.refl kb) rfl rfl rfl rfl)))
       ·intro k9 ka kb kc kd ke kf kg kh ki Q kj; have kk : ka 28 = Value.func (.func 61) #[] #[j2, j7, jk] := kg 3 28 (by kernel_rfl) (by kernel_rfl); exact IM_insert (q := 4) Try.underlying101 Try.underlying3 ki (kd 0 (by kernel_rfl)) (wait_of ke 9 (by kernel_rfl)) kc (rfl : _ = Value.int .i64 (2)) kk (Vraw rfl) (List.Mem.tail _ (List.Mem.head _)) (by show List.Nodup [2, 4, 6, 8]; decide) (by show List.Nodup ([1, 2, 6, 5] : List Int); decide) kf (Nat.le_refl _) (fun kl km kn ko => L_nil (kj undef _ km kn trivial ko))
       ·intro k9 ka kb kc kd ke kf kg kh ki Q kj; have kk : ka 2 = j2 := (kh 2 (by kernel_rfl)).trans jx; have kl : ka 3 = j7 := (kh 3 (by kernel_rfl)).trans jy; exact L_makeFunc (args2 kk kl) (by decide) (L_nil (kj _ _ (Tch.ext kf (Ext.refl kb)) (Ext.refl kb).le rfl (IM_keep ki (Ext.refl kb) rfl rfl rfl rfl)))
       ·intro k9 ka kb kc kd ke kf kg kh ki Q kj; have kk : ka 29 = Value.func (.func 63) #[] #[j2, j7] := kg 5 29 (by kernel_rfl) (by kernel_rfl); exact IM_insert (q := 6) Try.underlying101 Try.underlying3 ki (kd 0 (by kernel_rfl)) (wait_of ke 9 (by kernel_rfl)) kc (rfl : _ = Value.int .i64 (6)) kk (Vraw rfl) (List.Mem.tail _ (List.Mem.tail _ (List.Mem.head _))) (by show List.Nodup [2, 4, 6, 8]; decide) (by show List.Nodup ([1, 2, 6, 5] : List Int); decide) kf (Nat.le_refl _) (fun kl km kn ko => L_nil (kj undef _ km kn trivial ko))
       ·intro k9 ka kb kc kd ke kf kg kh ki Q kj; have kk : ka 2 = j2 := (kh 2 (by kernel_rfl)).trans jx; have kl : ka 3 = j7 := (kh 3 (by kernel_rfl)).trans jy; have km : ka 5 = jk := (kh 5 (by kernel_rfl)).trans jz; exact L_makeFunc (args3 kk kl km) (by decide) (L_nil (kj _ _ (Tch.ext kf (Ext.refl kb)) (Ext.refl kb).le rfl (IM_keep ki (Ext.refl kb) rfl rfl rfl rfl)))
       ·intro k9 ka kb kc kd ke kf kg kh ki Q kj; have kk : ka 30 = Value.func (.func 64) #[] #[j2, j7, jk] := kg 7 30 (by kernel_rfl) (by kernel_rfl); exact IM_insert (q := 8) Try.underlying101 Try.underlying3 ki (kd 0 (by kernel_rfl)) (wait_of ke 9 (by kernel_rfl)) kc (rfl : _ = Value.int .i64 (5)) kk (Vraw rfl) (List.Mem.tail _ (List.Mem.tail _ (List.Mem.tail _ (List.Mem.head _)))) (by show List.Nodup [2, 4, 6, 8]; decide) (by show List.Nodup ([1, 2, 6, 5] : List Int); decide) kf (Nat.le_refl _) (fun kl km kn ko => L_nil (kj undef _ km kn trivial ko))
       ·intro k9 ka kb kc kd ke kf kg kh ki Q kj; obtain ⟨kk, kl, km, kn, ko⟩ := IM_done ki (kd 0 (by kernel_rfl)) kc (all_of kd [2, 4, 6, 8] rfl (by kernel_rfl)) (by show List.Nodup ([1, 2, 6, 5] : List Int); decide) kf (Nat.le_refl _); rw [← kl]; exact mv (rfl : _ = ka 26) (L_nil (kj _ _ km kn ko (IM_at rfl)))
       ·intro k9 ka kb kc kd ke kf kg kh ki Q kj; have kk : ka 2 = j2 := (kh 2 (by kernel_rfl)).trans jx; exact L_load ty67 kk (j4.mono (j8.le.trans (jf.le.trans (jt.le.trans kf.le)))) (by decide) (fun kl km => L_nil (kj _ _ (Tch.ext kf (Ext.refl kb)) (Ext.refl kb).le km.toPtr (IM_keep ki (Ext.refl kb) rfl rfl rfl rfl)))
       ·intro k9 ka kb kc kd ke kf kg kh ki Q kj; have kk : Ptr _ (ka 32) (a0 : Run) := kg 10 32 (by kernel_rfl) (by kernel_rfl); obtain ⟨kl, km, kn⟩ : ∃ v, _ = v ∧ Ptr _ v _ := ⟨_, rfl, kk⟩; exact L_nilCheck_ptr km kn (by decide) (L_nil (kj _ _ (Tch.ext kf (Ext.refl kb)) (Ext.refl kb).le kn (IM_keep ki (Ext.refl kb) rfl rfl rfl rfl)))
       ·intro k9 ka kb kc kd ke kf kg kh ki Q kj; have kk : Ptr _ (ka 33) (a0 : Run) := kg 11 33 (by kernel_rfl) (by kernel_rfl); obtain ⟨kl, km, kn⟩ : ∃ v, _ = v ∧ Ptr _ v _ := ⟨_, rfl, kk⟩; exact L_fieldAddr fld72_0 Run.of_c km kn (by decide) (fun ko kp => L_nil (kj _ _ (Tch.ext kf (Ext.refl kb)) (Ext.refl kb).le kp (IM_keep ki (Ext.refl kb) rfl rfl rfl rfl)))
       ·intro k9 ka kb kc kd ke kf kg kh ki Q kj; have kk : Ptr _ (ka 34) (a0.c : List (List Deed)) := kg 12 34 (by kernel_rfl) (by kernel_rfl); obtain ⟨kl, km, kn⟩ : ∃ v, _ = v ∧ Ptr _ v _ := ⟨_, rfl, kk⟩; exact L_load ty29 km kn (by decide) (fun ko kp => L_nil (kj _ _ (Tch.ext kf (Ext.refl kb)) (Ext.refl kb).le kp (IM_keep ki (Ext.refl kb) rfl rfl rfl rfl)))
       ·intro k9 ka kb kc kd ke kf kg kh ki Q kj; have kk : ka 3 = j7 := (kh 3 (by kernel_rfl)).trans jy; exact li ty3 kk (j9.mono (jf.le.trans (jt.le.trans kf.le))) (L_nil (kj _ _ (Tch.ext kf (Ext.refl kb)) (Ext.refl kb).le rfl (IM_keep ki (Ext.refl kb) rfl rfl rfl rfl)))
       ·intro k9 ka kb kc kd ke kf kg kh ki Q kj; have kk : V _ (ka 35) (a0.c : List (List Deed)) := kg 13 35 (by kernel_rfl) (by kernel_rfl); obtain ⟨kl, km, kn⟩ : ∃ v, _ = v ∧ V _ v _ := ⟨_, rfl, kk⟩; have ko : ka 36 = Value.int .i64 (a1) := kg 14 36 (by kernel_rfl) (by kernel_rfl); exact L_index Try.underlying29 ty59.inf km kn ko k3 (by decide) (fun kp kq => L_nil (kj _ _ (Tch.ext kf (Ext.refl kb)) (Ext.refl kb).le kq (IM_keep ki (Ext.refl kb) rfl rfl rfl rfl)))
       ·intro k9 ka kb kc kd ke kf kg kh ki Q kj; have kk : Ptr _ (ka 37) (k2 : List Deed) := kg 15 37 (by kernel_rfl) (by kernel_rfl); obtain ⟨kl, km, kn⟩ : ∃ v, _ = v ∧ Ptr _ v _ := ⟨_, rfl, kk⟩; exact L_load ty59 km kn (by decide) (fun ko kp => L_nil (kj _ _ (Tch.ext kf (Ext.refl kb)) (Ext.refl kb).le kp (IM_keep ki (Ext.refl kb) rfl rfl rfl rfl)))
       ·intro k9 ka kb kc kd ke kf kg kh ki Q kj; have kk : ka 5 = jk := (kh 5 (by kernel_rfl)).trans jz; exact li ty3 kk (jm.mono (jt.le.trans kf.le)) (L_nil (kj _ _ (Tch.ext kf (Ext.refl kb)) (Ext.refl kb).le rfl (IM_keep ki (Ext.refl kb) rfl rfl rfl rfl)))
       ·intro k9 ka kb kc kd ke kf kg kh ki Q kj; have kk : V _ (ka 38) (k2 : List Deed) := kg 16 38 (by kernel_rfl) (by kernel_rfl); obtain ⟨kl, km, kn⟩ : ∃ v, _ = v ∧ V _ v _ := ⟨_, rfl, kk⟩; have ko : ka 39 = Value.int .i64 (jb) := kg 17 39 (by kernel_rfl) (by kernel_rfl); exact L_index Try.underlying59 ty64.inf km kn ko k5 (by decide) (fun kp kq => L_nil (kj _ _ (Tch.ext kf (Ext.refl kb)) (Ext.refl kb).le kq (IM_keep ki (Ext.refl kb) rfl rfl rfl rfl)))
       ·intro k9 ka kb kc kd ke kf kg kh ki Q kj; have kk : Ptr _ (ka 40) (k4 : Deed) := kg 18 40 (by kernel_rfl) (by kernel_rfl); obtain ⟨kl, km, kn⟩ : ∃ v, _ = v ∧ Ptr _ v _ := ⟨_, rfl, kk⟩; exact L_fieldAddr fld64_0 Deed.of_Kind km kn (by decide) (fun ko kp => L_nil (kj _ _ (Tch.ext kf (Ext.refl kb)) (Ext.refl kb).le kp (IM_keep ki (Ext.refl kb) rfl rfl rfl rfl)))
       ·intro k9 ka kb kc kd ke kf kg kh ki Q kj; have kk : Ptr _ (ka 41) (k4.Kind : Int) := kg 19 41 (by kernel_rfl) (by kernel_rfl); obtain ⟨kl, km, kn⟩ : ∃ v, _ = v ∧ Ptr _ v _ := ⟨_, rfl, kk⟩; exact li ty3 km kn (L_nil (kj _ _ (Tch.ext kf (Ext.refl kb)) (Ext.refl kb).le rfl (IM_keep ki (Ext.refl kb) rfl rfl rfl rfl)))
       ·intro k9 ka kb kc kd ke kf kg kh ki Q kj; obtain ⟨kk, kl, km⟩ : ∃ v, ka 31 = v ∧ MapQ kb v ([((1 : Int), (⟨Value.func (.func 59) #[] #[j2, j7, jk]⟩ : RawV)), ((2 : Int), (⟨Value.func (.func 61) #[] #[j2, j7, jk]⟩ : RawV)), ((6 : Int), (⟨Value.func (.func 63) #[] #[j2, j7]⟩ : RawV)), ((5 : Int), (⟨Value.func (.func 64) #[] #[j2, j7, jk]⟩ : RawV))] : List (Int × RawV)) := ⟨_, rfl, kg 9 31 (by kernel_rfl) (by kernel_rfl)⟩; have kn : ka 42 = Value.int .i64 (k4.Kind) := kg 20 42 (by kernel_rfl) (by kernel_rfl); refine L_lookup_q (m := ([((1 : Int), (⟨Value.func (.func 59) #[] #[j2, j7, jk]⟩ : RawV)), ((2 : Int), (⟨Value.func (.func 61) #[] #[j2, j7, jk]⟩ : RawV)), ((6 : Int), (⟨Value.func (.func 63) #[] #[j2, j7]⟩ : RawV)), ((5 : Int), (⟨Value.func (.func 64) #[] #[j2, j7, jk]⟩ : RawV))] : List (Int × RawV))) (z0 := (⟨Value.nilFunc⟩ : RawV)) Try.underlying101 Try.underlying3 zero25 (Vraw rfl) kl kn km (by decide) ?_; have ko : mget ([((1 : Int), (⟨Value.func (.func 59) #[] #[j2, j7, jk]⟩ : RawV)), ((2 : Int), (⟨Value.func (.func 61) #[] #[j2, j7, jk]⟩ : RawV)), ((6 : Int), (⟨Value.func (.func 63) #[] #[j2, j7]⟩ : RawV)), ((5 : Int), (⟨Value.func (.func 64) #[] #[j2, j7, jk]⟩ : RawV))] : List (Int × RawV)) k4.Kind = some (⟨Value.func (.func 63) #[] #[j2, j7]⟩ : RawV) := (mget_skip k6 (mget_skip k7 (mget_hit k8))); rw [ko]; intro kp kq; obtain rfl : kp = _ := kq.raw; exact L_nil (kj _ _ kf (Le.refl _) ⟨_, _, rfl, rfl, rfl⟩ (IM_keep ki (Ext.refl _) rfl rfl rfl rfl))
       ·intro k9 ka kb kc kd ke kf kg kh ki Q kj; have kk : (PV.two (PV.eq (Value.func (.func 63) #[] #[j2, j7])) (PV.eq (Value.bool (true)))).p (ka 43) kb := kg 21 43 (by kernel_rfl) (by kernel_rfl); obtain ⟨kl, km, kn, ko, kp⟩ := kk; obtain rfl : kl = _ := ko; obtain rfl : km = _ := kp; exact mv kn (L_nil (kj _ _ (Tch.ext kf (Ext.refl kb)) (Ext.refl kb).le ⟨_, _, rfl, rfl, rfl⟩ (IM_keep ki (Ext.refl kb) rfl rfl rfl rfl)))
       ·intro k9 ka kb kc kd ke kf kg kh ki Q kj; have kk : (PV.two (PV.eq (Value.func (.func 63) #[] #[j2, j7])) (PV.eq (Value.bool (true)))).p (ka 25) kb := kg 22 25 (by kernel_rfl) (by kernel_rfl); obtain ⟨kl, km, kn, ko, kp⟩ := kk; obtain rfl : kl = _ := ko; obtain rfl : km = _ := kp; exact L_extract kn (k := 0) rfl (by decide) (L_nil (kj _ _ (Tch.ext kf (Ext.refl kb)) (Ext.refl kb).le rfl (IM_keep ki (Ext.refl kb) rfl rfl rfl rfl)))
       ·intro k9 ka kb kc kd ke kf kg kh ki Q kj; have kk : (PV.two (PV.eq (Value.func (.func 63) #[] #[j2, j7])) (PV.eq (Value.bool (true)))).p (ka 25) kb := kg 22 25 (by kernel_rfl) (by kernel_rfl); obtain ⟨kl, km, kn, ko, kp⟩ := kk; obtain rfl : kl = _ := ko; obtain rfl : km = _ := kp; exact L_extract kn (k := 1) rfl (by decide) (L_nil (kj _ _ (Tch.ext kf (Ext.refl kb)) (Ext.refl kb).le rfl (IM_keep ki (Ext.refl kb) rfl rfl rfl rfl)))
       ·intro k9 ka kb kc kd ke kf kg kh ki Q kj; have kk : ka 44 = Value.func (.func 63) #[] #[j2, j7] := kg 23 44 (by kernel_rfl) (by kernel_rfl); exact asg kk (L_nil (kj _ _ (Tch.ext kf (Ext.refl kb)) (Ext.refl kb).le rfl (IM_keep ki (Ext.refl kb) rfl rfl rfl rfl)))
       ·intro k9 ka kb kc kd ke kf kg kh ki Q kj; have kk : ka 45 = Value.bool (true) := kg 24 45 (by kernel_rfl) (by kernel_rfl); exact asg kk (L_nil (kj _ _ (Tch.ext kf (Ext.refl kb)) (Ext.refl kb).le rfl (IM_keep ki (Ext.refl kb) rfl rfl rfl rfl)))
       ·intro k9 ka kb kc kd; have ke := Tch.ext jw kb; have kf : k9 6 = Value.func (.func 63) #[] #[j2, j7] := kc 25 6 (by kernel_rfl); have kg : k9 7 = Value.bool (true) := kc 26 7 (by kernel_rfl); refine then_n (sr (mv kg (L_not (rfl : _ = Value.bool (true)) (by decide) (mv (rfl : _ = Value.bool (!true)) (gt 48 (rfl : _ = Value.bool (!true)) rfl (mv kf (gt 48 (rfl : _ = Value.bool (!true)) rfl ?_))))))); obtain ⟨kh, ki, hr⟩ := bind_some hr; refine L_callv cal63 (rfl : _ = Value.func (.func 63) #[] #[j2, j7]) (args0) (dead_run_can_3_ok N _ _ _ (j4.mono (j8.le.trans (jf.le.trans (jt.le.trans kb.le)))) _ _ (j9.mono (jf.le.trans (jt.le.trans kb.le))) kh ki) (by decide) (fun kj kk kl km => ?_); have kn := Tch.ext ke kl; obtain rfl := km.bool; refine pf (rfl : _ = Value.bool (!true)) rfl (rfl : _ = Value.bool (kh)) (asg (rfl : _ = Value.bool (kh)) (nn (W_ret ?_))); obtain rfl := Option.some.inj hr; exact done1 (Or.inl rfl) Try.results32 rfl ⟨_, _, rfl, rfl, kn, Vbool⟩
      ·have hr := ite_f k8 hr
       rcases Bool.eq_false_or_eq_true (decide (k4.Kind = (5 : Int))) with k9 | k9
       ·have hr := ite_t k9 hr
        refine W_drawI mixed (by kernel_rfl) (IM js.w.heap.size 26 0 9 ([(2, (1 : Int), (⟨Value.func (.func 59) #[] #[j2, j7, jk]⟩ : RawV)), (4, (2 : Int), (⟨Value.func (.func 61) #[] #[j2, j7, jk]⟩ : RawV)), (6, (6 : Int), (⟨Value.func (.func 63) #[] #[j2, j7]⟩ : RawV)), (8, (5 : Int), (⟨Value.func (.func 64) #[] #[j2, j7, jk]⟩ : RawV))] : List (Nat × Int × RawV))) [PL.any, PL.eq (Value.func (.func 59) #[] #[j2, j7, jk]), PL.any, PL.eq (Value.func (.func 61) #[] #[j2, j7, jk]), PL.any, PL.eq (Value.func (.func 63) #[] #[j2, j7]), PL.any, PL.eq (Value.func (.func 64) #[] #[j2, j7, jk]), PL.any, PL.mapq ([((1 : Int), (⟨Value.func (.func 59) #[] #[j2, j7, jk]⟩ : RawV)), ((2 : Int), (⟨Value.func (.func 61) #[] #[j2, j7, jk]⟩ : RawV)), ((6 : Int), (⟨Value.func (.func 63) #[] #[j2, j7]⟩ : RawV)), ((5 : Int), (⟨Value.func (.func 64) #[] #[j2, j7, jk]⟩ : RawV))] : List (Int × RawV)), PL.ptr (a0 : Run), PL.ptr (a0 : Run), PL.ptr (a0.c : List (List Deed)), PL.data (a0.c : List (List Deed)), PL.eq (Value.int .i64 (a1)), PL.ptr (k2 : List Deed), PL.data (k2 : List Deed), PL.eq (Value.int .i64 (jb)), PL.ptr (k4 : Deed), PL.ptr (k4.Kind : Int), PL.eq (Value.int .i64 (k4.Kind)), PL.two (PL.eq (Value.func (.func 64) #[] #[j2, j7, jk])) (PL.eq (Value.bool (true))), PL.two (PL.eq (Value.func (.func 64) #[] #[j2, j7, jk])) (PL.eq (Value.bool (true))), PL.eq (Value.func (.func 64) #[] #[j2, j7, jk]), PL.eq (Value.bool (true)), PL.eq (Value.func (.func 64) #[] #[j2, j7, jk]), PL.eq (Value.bool (true))] (fun _ => IM_none) (StepsI_cons ?_ (StepsI_cons ?_ (StepsI_cons ?_ (StepsI_cons ?_ (StepsI_cons ?_ (StepsI_cons ?_ (StepsI_cons ?_ (StepsI_cons ?_ (StepsI_cons ?_ (StepsI_cons ?_ (StepsI_cons ?_ (StepsI_cons ?_ (StepsI_cons ?_ (StepsI_cons ?_ (StepsI_cons ?_ (StepsI_cons ?_ (StepsI_cons ?_ (StepsI_cons ?_ (StepsI_cons ?_ (StepsI_cons ?_ (StepsI_cons ?_ (StepsI_cons ?_ (StepsI_cons ?_ (StepsI_cons ?_ (StepsI_cons ?_ (StepsI_cons ?_ (StepsI_cons ?_ StepsI_nil))))))))))))))))))))))))))) ?_
        ·intro ka kb kc kd ke kf kg kh ki kj Q kk; exact L_makeMap (β := RawV) (by decide) (fun kl km kn ko kp => L_nil (kk _ _ (Tch.ext kg kn) kn.le trivial (IM_new kp (Nat.le_trans kg.size ko) (all_of (wait_of kf) [2, 4, 6, 8] rfl (by kernel_rfl)) rfl)))
        ·intro ka kb kc kd ke kf kg kh ki kj Q kk; have kl : kb 2 = j2 := (ki 2 (by kernel_rfl)).trans jx; have km : kb 3 = j7 := (ki 3 (by kernel_rfl)).trans jy; have kn : kb 5 = jk := (ki 5 (by kernel_rfl)).trans jz; exact L_makeFunc (args3 kl km kn) (by decide) (L_nil (kk _ _ (Tch.ext kg (Ext.refl kc)) (Ext.refl kc).le rfl (IM_keep kj (Ext.refl kc) rfl rfl rfl rfl)))
        ·intro ka kb kc kd ke kf kg kh ki kj Q kk; have kl : kb 27 = Value.func (.func 59) #[] #[j2, j7, jk] := kh 1 27 (by kernel_rfl) (by kernel_rfl); exact IM_insert (q := 2) Try.underlying101 Try.underlying3 kj (ke 0 (by kernel_rfl)) (wait_of kf 9 (by kernel_rfl)) kd (rfl : _ = Value.int .i64 (1)) kl (Vraw rfl) (List.Mem.head _) (by show List.Nodup [2, 4, 6, 8]; decide) (by show List.Nodup ([1, 2, 6, 5] : List Int); decide) kg (Nat.le_refl _) (fun km kn ko kp => L_nil (kk undef _ kn ko trivial kp))
        ·intro ka kb kc kd ke kf kg kh ki kj Q kk; have kl : kb 2 = j2 := (ki 2 (by kernel_rfl)).trans jx; have km : kb 3 = j7 := (ki 3 (by kernel_rfl)).trans jy; have kn : kb 5 = jk := (ki 5 (by kernel_rfl)).trans jz; exact L_makeFunc (args3 kl km kn) (by decide) (L_nil (kk _ _ (Tch.ext kg (Ext.refl kc)) (Ext.refl kc).le rfl (IM_keep kj (Ext.refl kc) rfl rfl rfl rfl)))
        ·intro ka kb kc kd ke kf kg kh ki kj Q kk; have kl : kb 28 = Value.func (.func 61) #[] #[j2, j7, jk] := kh 3 28 (by kernel_rfl) (by kernel_rfl); exact IM_insert (q := 4) Try.underlying101 Try.underlying3 kj (ke 0 (by kernel_rfl)) (wait_of kf 9 (by kernel_rfl)) kd (rfl : _ = Value.int .i64 (2)) kl (Vraw rfl) (List.Mem.tail _ (List.Mem.head _)) (by show List.Nodup [2, 4, 6, 8]; decide) (by show List.Nodup ([1, 2, 6, 5] : List Int); decide) kg (Nat.le_refl _) (fun km kn ko kp => L_nil (kk undef _ kn ko trivial kp))
        ·intro ka kb kc kd ke kf kg kh ki kj Q kk; have kl : kb 2 = j2 := (ki 2 (by kernel_rfl)).trans jx; have km : kb 3 = j7 := (ki 3 (by kernel_rfl)).trans jy; exact L_makeFunc (args2 kl km) (by decide) (L_nil (kk _ _ (Tch.ext kg (Ext.refl kc)) (Ext.refl kc).le rfl (IM_keep kj (Ext.refl kc) rfl rfl rfl rfl)))
        ·intro ka kb kc kd ke kf kg kh ki kj Q kk; have kl : kb 29 = Value.func (.func 63) #[] #[j2, j7] := kh 5 29 (by kernel_rfl) (by kernel_rfl); exact IM_insert (q := 6) Try.underlying101 Try.underlying3 kj (ke 0 (by kernel_rfl)) (wait_of kf 9 (by kernel_rfl)) kd (rfl : _ = Value.int .i64 (6)) kl (Vraw rfl) (List.Mem.tail _ (List.Mem.tail _ (List.Mem.head _))) (by show List.Nodup [2, 4, 6, 8]; decide) (by show List.Nodup ([1, 2, 6, 5] : List Int); decide) kg (Nat.le_refl _) (fun km kn ko kp => L_nil (kk undef _ kn ko trivial kp))
        ·intro ka kb kc kd ke kf kg kh ki kj Q kk; have kl : kb 2 = j2 := (ki 2 (by kernel_rfl)).trans jx; have km : kb 3 = j7 := (ki 3 (by kernel_rfl)).trans jy; have kn : kb 5 = jk := (ki 5 (by kernel_rfl)).trans jz; exact L_makeFunc (args3 kl km kn) (by decide) (L_nil (kk _ _ (Tch.ext kg (Ext.refl kc)) (Ext.refl kc).le rfl (IM_keep kj (Ext.refl kc) rfl rfl rfl rfl)))
        ·intro ka kb kc kd ke kf kg kh ki kj Q kk; have kl : kb 30 = Value.func (.func 64) #[] #[j2, j7, jk] := kh 7 30 (by kernel_rfl) (by kernel_rfl); exact IM_insert (q := 8) Try.underlying101 Try.underlying3 kj (ke 0 (by kernel_rfl)) (wait_of kf 9 (by kernel_rfl)) kd (rfl : _ = Value.int .i64 (5)) kl (Vraw rfl) (List.Mem.tail _ (List.Mem.tail _ (List.Mem.tail _ (List.Mem.head _)))) (by show List.Nodup [2, 4, 6, 8]; decide) (by show List.Nodup ([1, 2, 6, 5] : List Int); decide) kg (Nat.le_refl _) (fun km kn ko kp => L_nil (kk undef _ kn ko trivial kp))
        ·intro ka kb kc kd ke kf kg kh ki kj Q kk; obtain ⟨kl, km, kn, ko, kp⟩ := IM_done kj (ke 0 (by kernel_rfl)) kd (all_of ke [2, 4, 6, 8] rfl (by kernel_rfl)) (by show List.Nodup ([1, 2, 6, 5] : List Int); decide) kg (Nat.le_refl _); rw [← km]; exact mv (rfl : _ = kb 26) (L_nil (kk _ _ kn ko kp (IM_at rfl)))
        ·intro ka kb kc kd ke kf kg kh ki kj Q kk; have kl : kb 2 = j2 := (ki 2 (by kernel_rfl)).trans jx; exact L_load ty67 kl (j4.mono (j8.le.trans (jf.le.trans (jt.le.trans kg.le)))) (by decide) (fun km kn => L_nil (kk _ _ (Tch.ext kg (Ext.refl kc)) (Ext.refl kc).le kn.toPtr (IM_keep kj (Ext.refl kc) rfl rfl rfl rfl)))
        ·intro ka kb kc kd ke kf kg kh ki kj Q kk; have kl : Ptr _ (kb 32) (a0 : Run) := kh 10 32 (by kernel_rfl) (by kernel_rfl); obtain ⟨km, kn, ko⟩ : ∃ v, _ = v ∧ Ptr _ v _ := ⟨_, rfl, kl⟩; exact L_nilCheck_ptr kn ko (by decide) (L_nil (kk _ _ (Tch.ext kg (Ext.refl kc)) (Ext.refl kc).le ko (IM_keep kj (Ext.refl kc) rfl rfl rfl rfl)))
        ·intro ka kb kc kd ke kf kg kh ki kj Q kk; have kl : Ptr _ (kb 33) (a0 : Run) := kh 11 33 (by kernel_rfl) (by kernel_rfl); obtain ⟨km, kn, ko⟩ : ∃ v, _ = v ∧ Ptr _ v _ := ⟨_, rfl, kl⟩; exact L_fieldAddr fld72_0 Run.of_c kn ko (by decide) (fun kp kq => L_nil (kk _ _ (Tch.ext kg (Ext.refl kc)) (Ext.refl kc).le kq (IM_keep kj (Ext.refl kc) rfl rfl rfl rfl)))
        ·intro ka kb kc kd ke kf kg kh ki kj Q kk; have kl : Ptr _ (kb 34) (a0.c : List (List Deed)) := kh 12 34 (by kernel_rfl) (by kernel_rfl); obtain ⟨km, kn, ko⟩ : ∃ v, _ = v ∧ Ptr _ v _ := ⟨_, rfl, kl⟩; exact L_load ty29 kn ko (by decide) (fun kp kq => L_nil (kk _ _ (Tch.ext kg (Ext.refl kc)) (Ext.refl kc).le kq (IM_keep kj (Ext.refl kc) rfl rfl rfl rfl)))
        ·intro ka kb kc kd ke kf kg kh ki kj Q kk; have kl : kb 3 = j7 := (ki 3 (by kernel_rfl)).trans jy; exact li ty3 kl (j9.mono (jf.le.trans (jt.le.trans kg.le))) (L_nil (kk _ _ (Tch.ext kg (Ext.refl kc)) (Ext.refl kc).le rfl (IM_keep kj (Ext.refl kc) rfl rfl rfl rfl)))
        ·intro ka kb kc kd ke kf kg kh ki kj Q kk; have kl : V _ (kb 35) (a0.c : List (List Deed)) := kh 13 35 (by kernel_rfl) (by kernel_rfl); obtain ⟨km, kn, ko⟩ : ∃ v, _ = v ∧ V _ v _ := ⟨_, rfl, kl⟩; have kp : kb 36 = Value.int .i64 (a1) := kh 14 36 (by kernel_rfl) (by kernel_rfl); exact L_index Try.underlying29 ty59.inf kn ko kp k3 (by decide) (fun kq kr => L_nil (kk _ _ (Tch.ext kg (Ext.refl kc)) (Ext.refl kc).le kr (IM_keep kj (Ext.refl kc) rfl rfl rfl rfl)))
        ·intro ka kb kc kd ke kf kg kh ki kj Q kk; have kl : Ptr _ (kb 37) (k2 : List Deed) := kh 15 37 (by kernel_rfl) (by kernel_rfl); obtain ⟨km, kn, ko⟩ : ∃ v, _ = v ∧ Ptr _ v _ := ⟨_, rfl, kl⟩; exact L_load ty59 kn ko (by decide) (fun kp kq => L_nil (kk _ _ (Tch.ext kg (Ext.refl kc)) (Ext.refl kc).le kq (IM_keep kj (Ext.refl kc) rfl rfl rfl rfl)))
        ·intro ka kb kc kd ke kf kg kh ki kj Q kk; have kl : kb 5 = jk := (ki 5 (by kernel_rfl)).trans jz; exact li ty3 kl (jm.mono (jt.le.trans kg.le)) (L_nil (kk _ _ (Tch.ext kg (Ext.refl kc)) (Ext.refl kc).le rfl (IM_keep kj (Ext.refl kc) rfl rfl rfl rfl)))
        ·intro ka kb kc kd ke kf kg kh ki kj Q kk; have kl : V _ (kb 38) (k2 : List Deed) := kh 16 38 (by kernel_rfl) (by kernel_rfl); obtain ⟨km, kn, ko⟩ : ∃ v, _ = v ∧ V _ v _ := ⟨_, rfl, kl⟩; have kp : kb 39 = Value.int .i64 (jb) := kh 17 39 (by kernel_rfl) (by kernel_rfl); exact L_index Try.underlying59 ty64.inf kn ko kp k5 (by decide) (fun kq kr => L_nil (kk _ _ (Tch.ext kg (Ext.refl kc)) (Ext.refl kc).le kr (IM_keep kj (Ext.refl kc) rfl rfl rfl rfl)))
        ·intro ka kb kc kd ke kf kg kh ki kj Q kk; have kl : Ptr _ (kb 40) (k4 : Deed) := kh 18 40 (by kernel_rfl) (by kernel_rfl); obtain ⟨km, kn, ko⟩ : ∃ v, _ = v ∧ Ptr _ v _ := ⟨_, rfl, kl⟩; exact L_fieldAddr fld64_0 Deed.of_Kind kn ko (by decide) (fun kp kq => L_nil (kk _ _ (Tch.ext kg (Ext.refl kc)) (Ext.refl kc).le kq (IM_keep kj (Ext.refl kc) rfl rfl rfl rfl)))
        ·intro ka kb kc kd ke kf kg kh ki kj Q kk; have kl : Ptr _ (kb 41) (k4.Kind : Int) := kh 19 41 (by kernel_rfl) (by kernel_rfl); obtain ⟨km, kn, ko⟩ : ∃ v, _ = v ∧ Ptr _ v _ := ⟨_, rfl, kl⟩; exact li ty3 kn ko (L_nil (kk _ _ (Tch.ext kg (Ext.refl kc)) (Ext.refl kc).le rfl (IM_keep kj (Ext.refl kc) rfl rfl rfl rfl)))
        ·intro ka kb kc kd ke kf kg kh ki kj Q kk; obtain ⟨kl, km, kn⟩ : ∃ v, kb 31 = v ∧ MapQ kc v ([((1 : Int), (⟨Value.func (.func 59) #[] #[j2, j7, jk]⟩ : RawV)), ((2 : Int), (⟨Value.func (.func 61) #[] #[j2, j7, jk]⟩ : RawV)), ((6 : Int), (⟨Value.func (.func 63) #[] #[j2, j7]⟩ : RawV)), ((5 : Int), (⟨Value.func (.func 64) #[] #[j2, j7, jk]⟩ : RawV))] : List (Int × RawV)) := ⟨_, rfl, kh 9 31 (by kernel_rfl) (by kernel_rfl)⟩; have ko : kb 42 = Value.int .i64 (k4.Kind) := kh 20 42 (by kernel_rfl) (by kernel_rfl); refine L_lookup_q (m := ([((1 : Int), (⟨Value.func (.func 59) #[] #[j2, j7, jk]⟩ : RawV)), ((2 : Int), (⟨Value.func (.func 61) #[] #[j2, j7, jk]⟩ : RawV)), ((6 : Int), (⟨Value.func (.func 63) #[] #[j2, j7]⟩ : RawV)), ((5 : Int), (⟨Value.func (.func 64) #[] #[j2, j7, jk]⟩ : RawV))] : List (Int × RawV))) (z0 := (⟨Value.nilFunc⟩ : RawV)) Try.underlying101 Try.underlying3 zero25 (Vraw rfl) km ko kn (by decide) ?_; have kp : mget ([((1 : Int), (⟨Value.func (.func 59) #[] #[j2, j7, jk]⟩ : RawV)), ((2 : Int), (⟨Value.func (.func 61) #[] #[j2, j7, jk]⟩ : RawV)), ((6 : Int), (⟨Value.func (.func 63) #[] #[j2, j7]⟩ : RawV)), ((5 : Int), (⟨Value.func (.func 64) #[] #[j2, j7, jk]⟩ : RawV))] : List (Int × RawV)) k4.Kind = some (⟨Value.func (.func 64) #[] #[j2, j7, jk]⟩ : RawV) := (mget_skip k6 (mget_skip k7 (mget_skip k8 (mget_hit k9)))); rw [kp]; intro kq kr; obtain rfl : kq = _ := kr.raw; exact L_nil (kk _ _ kg (Le.refl _) ⟨_, _, rfl, rfl, rfl⟩ (IM_keep kj (Ext.refl _) rfl rfl rfl rfl))
        ·intro ka kb kc kd ke kf kg kh ki kj Q kk; have kl : (PV.two (PV.eq (Value.func (.func 64) #[] #[j2, j7, jk])) (PV.eq (Value.bool (true)))).p (kb 43) kc := kh 21 43 (by kernel_rfl) (by kernel_rfl); obtain ⟨km, kn, ko, kp, kq⟩ := kl; obtain rfl : km = _ := kp; obtain rfl : kn = _ := kq; exact mv ko (L_nil (kk _ _ (Tch.ext kg (Ext.refl kc)) (Ext.refl kc).le ⟨_, _, rfl, rfl, rfl⟩ (IM_keep kj (Ext.refl kc) rfl rfl rfl rfl)))
        ·intro ka kb kc kd ke kf kg kh ki kj Q kk; have kl : (PV.two (PV.eq (Value.func (.func 64) #[] #[j2, j7, jk])) (PV.eq (Value.bool (true)))).p (kb 25) kc := kh 22 25 (by kernel_rfl) (by kernel_rfl); obtain ⟨km, kn, ko, kp, kq⟩ := kl; obtain rfl : km = _ := kp; obtain rfl : kn = _ := kq; exact L_extract ko (k := 0) rfl (by decide) (L_nil (kk _ _ (Tch.ext kg (Ext.refl kc)) (Ext.refl kc).le rfl (IM_keep kj (Ext.refl kc) rfl rfl rfl rfl)))
        ·intro ka kb kc kd ke kf kg kh ki kj Q kk; have kl : (PV.two (PV.eq (Value.func (.func 64) #[] #[j2, j7, jk])) (PV.eq (Value.bool (true)))).p (kb 25) kc := kh 22 25 (by kernel_rfl) (by kernel_rfl); obtain ⟨km, kn, ko, kp, kq⟩ := kl; obtain rfl : km = _ := kp; obtain rfl : kn = _ := kq; exact L_extract ko (k := 1) rfl (by decide) (L_nil (kk _ _ (Tch.ext kg (Ext.refl kc)) (Ext.refl kc).le rfl (IM_keep kj (Ext.refl kc) rfl rfl rfl rfl)))
        ·intro ka kb kc kd ke kf kg kh ki kj Q kk; have kl : kb 44 = Value.func (.func 64) #[] #[j2, j7, jk] := kh 23 44 (by kernel_rfl) (by kernel_rfl); exact asg kl (L_nil (kk _ _ (Tch.ext kg (Ext.refl kc)) (Ext.refl kc).le rfl (IM_keep kj (Ext.refl kc) rfl rfl rfl rfl)))
        ·intro ka kb kc kd ke kf kg kh ki kj Q kk; have kl : kb 45 = Value.bool (true) := kh 24 45 (by kernel_rfl) (by kernel_rfl); exact asg kl (L_nil (kk _ _ (Tch.ext kg (Ext.refl kc)) (Ext.refl kc).le rfl (IM_keep kj (Ext.refl kc) rfl rfl rfl rfl)))
        ·intro ka kb kc kd ke; have kf := Tch.ext jw kc; have kg : ka 6 = Value.func (.func 64) #[] #[j2, j7, jk] := kd 25 6 (by kernel_rfl); have kh : ka 7 = Value.bool (true) := kd 26 7 (by kernel_rfl); refine then_n (sr (mv kh (L_not (rfl : _ = Value.bool (true)) (by decide) (mv (rfl : _ = Value.bool (!true)) (gt 48 (rfl : _ = Value.bool (!true)) rfl (mv kg (gt 48 (rfl : _ = Value.bool (!true)) rfl ?_))))))); obtain ⟨ki, kj, hr⟩ := bind_some hr; refine L_callv cal64 (rfl : _ = Value.func (.func 64) #[] #[j2, j7, jk]) (args0) (dead_run_can_4_ok N _ _ _ (j4.mono (j8.le.trans (jf.le.trans (jt.le.trans kc.le)))) _ _ (j9.mono (jf.le.trans (jt.le.trans kc.le))) _ _ (jm.mono (jt.le.trans kc.le)) ki kj) (by decide) (fun kk kl km kn => ?_); have ko := Tch.ext kf km; obtain rfl := kn.bool; refine pf (rfl : _ = Value.bool (!true)) rfl (rfl : _ = Value.bool (ki)) (asg (rfl : _ = Value.bool (ki)) (nn (W_ret ?_))); obtain rfl := Option.some.inj hr; exact done1 (Or.inl rfl) Try.results32 rfl ⟨_, _, rfl, rfl, ko, Vbool⟩
       ·have hr := ite_f k9 hr
        refine W_drawI mixed (by kernel_rfl) (IM js.w.heap.size 26 0 9 ([(2, (1 : Int), (⟨Value.func (.func 59) #[] #[j2, j7, jk]⟩ : RawV)), (4, (2 : Int), (⟨Value.func (.func 61) #[] #[j2, j7, jk]⟩ : RawV)), (6, (6 : Int), (⟨Value.func (.func 63) #[] #[j2, j7]⟩ : RawV)), (8, (5 : Int), (⟨Value.func (.func 64) #[] #[j2, j7, jk]⟩ : RawV))] : List (Nat × Int × RawV))) [PL.any, PL.eq (Value.func (.func 59) #[] #[j2, j7, jk]), PL.any, PL.eq (Value.func (.func 61) #[] #[j2, j7, jk]), PL.any, PL.eq (Value.func (.func 63) #[] #[j2, j7]), PL.any, PL.eq (Value.func (.func 64) #[] #[j2, j7, jk]), PL.any, PL.mapq ([((1 : Int), (⟨Value.func (.func 59) #[] #[j2, j7, jk]⟩ : RawV)), ((2 : Int), (⟨Value.func (.func 61) #[] #[j2, j7, jk]⟩ : RawV)), ((6 : Int), (⟨Value.func (.func 63) #[] #[j2, j7]⟩ : RawV)), ((5 : Int), (⟨Value.func (.func 64) #[] #[j2, j7, jk]⟩ : RawV))] : List (Int × RawV)), PL.ptr (a0 : Run), PL.ptr (a0 : Run), PL.ptr (a0.c : List (List Deed)), PL.data (a0.c : List (List Deed)), PL.eq (Value.int .i64 (a1)), PL.ptr (k2 : List Deed), PL.data (k2 : List Deed), PL.eq (Value.int .i64 (jb)), PL.ptr (k4 : Deed), PL.ptr (k4.Kind : Int), PL.eq (Value.int .i64 (k4.Kind)), PL.two (PL.eq (Value.nilFunc)) (PL.eq (Value.bool (false))), PL.two (PL.eq (Value.nilFunc)) (PL.eq (Value.bool (false))), PL.eq (Value.nilFunc), PL.eq (Value.bool (false)), PL.eq (Value.nilFunc), PL.eq (Value.bool (false))] (fun _ => IM_none) (StepsI_cons ?_ (StepsI_cons ?_ (StepsI_cons ?_ (StepsI_cons ?_ (StepsI_cons ?_ (StepsI_cons ?_ (StepsI_cons ?_ (StepsI_cons ?_ (StepsI_cons ?_ (StepsI_cons ?_ (StepsI_cons ?_ (StepsI_cons ?_ (StepsI_cons ?_ (StepsI_cons ?_ (StepsI_cons ?_ (StepsI_cons ?_ (StepsI_cons ?_ (StepsI_cons ?_ (StepsI_cons ?_ (StepsI_cons ?_ (StepsI_cons ?_ (StepsI_cons ?_ (StepsI_cons ?_ (StepsI_cons ?_ (StepsI_cons ?_ (StepsI_cons ?_ (StepsI_cons ?_ StepsI_nil))))))))))))))))))))))))))) ?_
        ·intro ka kb kc kd ke kf kg kh ki kj Q kk; exact L_makeMap (β := RawV) (by decide) (fun kl km kn ko kp => L_nil (kk _ _ (Tch.ext kg kn) kn.le trivial (IM_new kp (Nat.le_trans kg.size ko) (all_of (wait_of kf) [2, 4, 6, 8] rfl (by kernel_rfl)) rfl)))
        ·intro ka kb kc kd ke kf kg kh ki kj Q kk; have kl : kb 2 = j2 := (ki 2 (by kernel_rfl)).trans jx; have km : kb 3 = j7 := (ki 3 (by kernel_rfl)).trans jy; have kn : kb 5 = jk := (ki 5 (by kernel_rfl)).trans jz; exact L_makeFunc (args3 kl km kn) (by decide) (L_nil (kk _ _ (Tch.ext kg (Ext.refl kc)) (Ext.refl kc).le rfl (IM_keep kj (Ext.refl kc) rfl rfl rfl rfl)))
        ·intro ka kb kc kd ke kf kg kh ki kj Q kk; have kl : kb 27 = Value.func (.func 59) #[] #[j2, j7, jk] := kh 1 27 (by kernel_rfl) (by kernel_rfl); exact IM_insert (q := 2) Try.underlying101 Try.underlying3 kj (ke 0 (by kernel_rfl)) (wait_of kf 9 (by kernel_rfl)) kd (rfl : _ = Value.int .i64 (1)) kl (Vraw rfl) (List.Mem.head _) (by show List.Nodup [2, 4, 6, 8]; decide) (by show List.Nodup ([1, 2, 6, 5] : List Int); decide) kg (Nat.le_refl _) (fun km kn ko kp => L_nil (kk undef _ kn ko trivial kp))
        ·intro ka kb kc kd ke kf kg kh ki kj Q kk; have kl : kb 2 = j2 := (ki 2 (by kernel_rfl)).trans jx; have km : kb 3 = j7 := (ki 3 (by kernel_rfl)).trans jy; have kn : kb 5 = jk := (ki 5 (by kernel_rfl)).trans jz; exact L_makeFunc (args3 kl km kn) (by decide) (L_nil (kk _ _ (Tch.ext kg (Ext.refl kc)) (Ext.refl kc).le rfl (IM_keep kj (Ext.refl kc) rfl rfl rfl rfl)))
        ·intro ka kb kc kd ke kf kg kh ki kj Q kk; have kl : kb 28 = Value.func (.func 61) #[] #[j2, j7, jk] := kh 3 28 (by kernel_rfl) (by kernel_rfl); exact IM_insert (q := 4) Try.underlying101 Try.underlying3 kj (ke 0 (by kernel_rfl)) (wait_of kf 9 (by kernel_rfl)) kd (rfl : _ = Value.int .i64 (2)) kl (Vraw rfl) (List.Mem.tail _ (List.Mem.head _)) (by show List.Nodup [2, 4, 6, 8]; decide) (by show List.Nodup ([1, 2, 6, 5] : List Int); decide) kg (Nat.le_refl _) (fun km kn ko kp => L_nil (kk undef _ kn ko trivial kp))
        ·intro ka kb kc kd ke kf kg kh ki kj Q kk; have kl : kb 2 = j2 := (ki 2 (by kernel_rfl)).trans jx; have km : kb 3 = j7 := (ki 3 (by kernel_rfl)).trans jy; exact L_makeFunc (args2 kl km) (by decide) (L_nil (kk _ _ (Tch.ext kg (Ext.refl kc)) (Ext.refl kc).le rfl (IM_keep kj (Ext.refl kc) rfl rfl rfl rfl)))
        ·intro ka kb kc kd ke kf kg kh ki kj Q kk; have kl : kb 29 = Value.func (.func 63) #[] #[j2, j7] := kh 5 29 (by kernel_rfl) (by kernel_rfl); exact IM_insert (q := 6) Try.underlying101 Try.underlying3 kj (ke 0 (by kernel_rfl)) (wait_of kf 9 (by kernel_rfl)) kd (rfl : _ = Value.int .i64 (6)) kl (Vraw rfl) (List.Mem.tail _ (List.Mem.tail _ (List.Mem.head _))) (by show List.Nodup [2, 4, 6, 8]; decide) (by show List.Nodup ([1, 2, 6, 5] : List Int); decide) kg (Nat.le_refl _) (fun km kn ko kp => L_nil (kk undef _ kn ko trivial kp))
        ·intro ka kb kc kd ke kf kg kh ki kj Q kk; have kl : kb 2 = j2 := (ki 2 (by kernel_rfl)).trans jx; have km : kb 3 = j7 := (ki 3 (by kernel_rfl)).trans jy; have kn : kb 5 = jk := (ki 5 (by kernel_rfl)).trans jz; exact L_makeFunc (args3 kl km kn) (by decide) (L_nil (kk _ _ (Tch.ext kg (Ext.refl kc)) (Ext.refl kc).le rfl (IM_keep kj (Ext.refl kc) rfl rfl rfl rfl)))
        ·intro ka kb kc kd ke kf kg kh ki kj Q kk; have kl : kb 30 = Value.func (.func 64) #[] #[j2, j7, jk] := kh 7 30 (by kernel_rfl) (by kernel_rfl); exact IM_insert (q := 8) Try.underlying101 Try.underlying3 kj (ke 0 (by kernel_rfl)) (wait_of kf 9 (by kernel_rfl)) kd (rfl : _ = Value.int .i64 (5)) kl (Vraw rfl) (List.Mem.tail _ (List.Mem.tail _ (List.Mem.tail _ (List.Mem.head _)))) (by show List.Nodup [2, 4, 6, 8]; decide) (by show List.Nodup ([1, 2, 6, 5] : List Int); decide) kg (Nat.le_refl _) (fun km kn ko kp => L_nil (kk undef _ kn ko trivial kp))
        ·intro ka kb kc kd ke kf kg kh ki kj Q kk; obtain ⟨kl, km, kn, ko, kp⟩ := IM_done kj (ke 0 (by kernel_rfl)) kd (all_of ke [2, 4, 6, 8] rfl (by kernel_rfl)) (by show List.Nodup ([1, 2, 6, 5] : List Int); decide) kg (Nat.le_refl _); rw [← km]; exact mv (rfl : _ = kb 26) (L_nil (kk _ _ kn ko kp (IM_at rfl)))
        ·intro ka kb kc kd ke kf kg kh ki kj Q kk; have kl : kb 2 = j2 := (ki 2 (by kernel_rfl)).trans jx; exact L_load ty67 kl (j4.mono (j8.le.trans (jf.le.trans (jt.le.trans kg.le)))) (by decide) (fun km kn => L_nil (kk _ _ (Tch.ext kg (Ext.refl kc)) (Ext.refl kc).le kn.toPtr (IM_keep kj (Ext.refl kc) rfl rfl rfl rfl)))
        ·intro ka kb kc kd ke kf kg kh ki kj Q kk; have kl : Ptr _ (kb 32) (a0 : Run) := kh 10 32 (by kernel_rfl) (by kernel_rfl); obtain ⟨km, kn, ko⟩ : ∃ v, _ = v ∧ Ptr _ v _ := ⟨_, rfl, kl⟩; exact L_nilCheck_ptr kn ko (by decide) (L_nil (kk _ _ (Tch.ext kg (Ext.refl kc)) (Ext.refl kc).le ko (IM_keep kj (Ext.refl kc) rfl rfl rfl rfl)))
        ·intro ka kb kc kd ke kf kg kh ki kj Q kk; have kl : Ptr _ (kb 33) (a0 : Run) := kh 11 33 (by kernel_rfl) (by kernel_rfl); obtain ⟨km, kn, ko⟩ : ∃ v, _ = v ∧ Ptr _ v _ := ⟨_, rfl, kl⟩; exact L_fieldAddr fld72_0 Run.of_c kn ko (by decide) (fun kp kq => L_nil (kk _ _ (Tch.ext kg (Ext.refl kc)) (Ext.refl kc).le kq (IM_keep kj (Ext.refl kc) rfl rfl rfl rfl)))
        ·intro ka kb kc kd ke kf kg kh ki kj Q kk; have kl : Ptr _ (kb 34) (a0.c : List (List Deed)) := kh 12 34 (by kernel_rfl) (by kernel_rfl); obtain ⟨km, kn, ko⟩ : ∃ v, _ = v ∧ Ptr _ v _ := ⟨_, rfl, kl⟩; exact L_load ty29 kn ko (by decide) (fun kp kq => L_nil (kk _ _ (Tch.ext kg (Ext.refl kc)) (Ext.refl kc).le kq (IM_keep kj (Ext.refl kc) rfl rfl rfl rfl)))
        ·intro ka kb kc kd ke kf kg kh ki kj Q kk; have kl : kb 3 = j7 := (ki 3 (by kernel_rfl)).trans jy; exact li ty3 kl (j9.mono (jf.le.trans (jt.le.trans kg.le))) (L_nil (kk _ _ (Tch.ext kg (Ext.refl kc)) (Ext.refl kc).le rfl (IM_keep kj (Ext.refl kc) rfl rfl rfl rfl)))
        ·intro ka kb kc kd ke kf kg kh ki kj Q kk; have kl : V _ (kb 35) (a0.c : List (List Deed)) := kh 13 35 (by kernel_rfl) (by kernel_rfl); obtain ⟨km, kn, ko⟩ : ∃ v, _ = v ∧ V _ v _ := ⟨_, rfl, kl⟩; have kp : kb 36 = Value.int .i64 (a1) := kh 14 36 (by kernel_rfl) (by kernel_rfl); exact L_index Try.underlying29 ty59.inf kn ko kp k3 (by decide) (fun kq kr => L_nil (kk _ _ (Tch.ext kg (Ext.refl kc)) (Ext.refl kc).le kr (IM_keep kj (Ext.refl kc) rfl rfl rfl rfl)))
        ·intro ka kb kc kd ke kf kg kh ki kj Q kk; have kl : Ptr _ (kb 37) (k2 : List Deed) := kh 15 37 (by kernel_rfl) (by kernel_rfl); obtain ⟨km, kn, ko⟩ : ∃ v, _ = v ∧ Ptr _ v _ := ⟨_, rfl, kl⟩; exact L_load ty59 kn ko (by decide) (fun kp kq => L_nil (kk _ _ (Tch.ext kg (Ext.refl kc)) (Ext.refl kc).le kq (IM_keep kj (Ext.refl kc) rfl rfl rfl rfl)))
        ·intro ka kb kc kd ke kf kg kh ki kj Q kk; have kl : kb 5 = jk := (ki 5 (by kernel_rfl)).trans jz; exact li ty3 kl (jm.mono (jt.le.trans kg.le)) (L_nil (kk _ _ (Tch.ext kg (Ext.refl kc)) (Ext.refl kc).le rfl (IM_keep kj (Ext.refl kc) rfl rfl rfl rfl)))
        ·intro ka kb kc kd ke kf kg kh ki kj Q kk; have kl : V _ (kb 38) (k2 : List Deed) := kh 16 38 (by kernel_rfl) (by kernel_rfl); obtain ⟨km, kn, ko⟩ : ∃ v, _ = v ∧ V _ v _ := ⟨_, rfl, kl⟩; have kp : kb 39 = Value.int .i64 (jb) := kh 17 39 (by kernel_rfl) (by kernel_rfl); exact L_index Try.underlying59 ty64.inf kn ko kp k5 (by decide) (fun kq kr => L_nil (kk _ _ (Tch.ext kg (Ext.refl kc)) (Ext.refl kc).le kr (IM_keep kj (Ext.refl kc) rfl rfl rfl rfl)))
        ·intro ka kb kc kd ke kf kg kh ki kj Q kk; have kl : Ptr _ (kb 40) (k4 : Deed) := kh 18 40 (by kernel_rfl) (by kernel_rfl); obtain ⟨km, kn, ko⟩ : ∃ v, _ = v ∧ Ptr _ v _ := ⟨_, rfl, kl⟩; exact L_fieldAddr fld64_0 Deed.of_Kind kn ko (by decide) (fun kp kq => L_nil (kk _ _ (Tch.ext kg (Ext.refl kc)) (Ext.refl kc).le kq (IM_keep kj (Ext.refl kc) rfl rfl rfl rfl)))
        ·intro ka kb kc kd ke kf kg kh ki kj Q kk; have kl : Ptr _ (kb 41) (k4.Kind : Int) := kh 19 41 (by kernel_rfl) (by kernel_rfl); obtain ⟨km, kn, ko⟩ : ∃ v, _ = v ∧ Ptr _ v _ := ⟨_, rfl, kl⟩; exact li ty3 kn ko (L_nil (kk _ _ (Tch.ext kg (Ext.refl kc)) (Ext.refl kc).le rfl (IM_keep kj (Ext.refl kc) rfl rfl rfl rfl)))
        ·intro ka kb kc kd ke kf kg kh ki kj Q kk; obtain ⟨kl, km, kn⟩ : ∃ v, kb 31 = v ∧ MapQ kc v ([((1 : Int), (⟨Value.func (.func 59) #[] #[j2, j7, jk]⟩ : RawV)), ((2 : Int), (⟨Value.func (.func 61) #[] #[j2, j7, jk]⟩ : RawV)), ((6 : Int), (⟨Value.func (.func 63) #[] #[j2, j7]⟩ : RawV)), ((5 : Int), (⟨Value.func (.func 64) #[] #[j2, j7, jk]⟩ : RawV))] : List (Int × RawV)) := ⟨_, rfl, kh 9 31 (by kernel_rfl) (by kernel_rfl)⟩; have ko : kb 42 = Value.int .i64 (k4.Kind) := kh 20 42 (by kernel_rfl) (by kernel_rfl); refine L_lookup_q (m := ([((1 : Int), (⟨Value.func (.func 59) #[] #[j2, j7, jk]⟩ : RawV)), ((2 : Int), (⟨Value.func (.func 61) #[] #[j2, j7, jk]⟩ : RawV)), ((6 : Int), (⟨Value.func (.func 63) #[] #[j2, j7]⟩ : RawV)), ((5 : Int), (⟨Value.func (.func 64) #[] #[j2, j7, jk]⟩ : RawV))] : List (Int × RawV))) (z0 := (⟨Value.nilFunc⟩ : RawV)) Try.underlying101 Try.underlying3 zero25 (Vraw rfl) km ko kn (by decide) ?_; have kp : mget ([((1 : Int), (⟨Value.func (.func 59) #[] #[j2, j7, jk]⟩ : RawV)), ((2 : Int), (⟨Value.func (.func 61) #[] #[j2, j7, jk]⟩ : RawV)), ((6 : Int), (⟨Value.func (.func 63) #[] #[j2, j7]⟩ : RawV)), ((5 : Int), (⟨Value.func (.func 64) #[] #[j2, j7, jk]⟩ : RawV))] : List (Int × RawV)) k4.Kind = (none : Option RawV) := (mget_skip k6 (mget_skip k7 (mget_skip k8 (mget_skip k9 mget_nil)))); rw [kp]; intro kq kr; obtain rfl : kq = _ := kr.raw; exact L_nil (kk _ _ kg (Le.refl _) ⟨_, _, rfl, rfl, rfl⟩ (IM_keep kj (Ext.refl _) rfl rfl rfl rfl))
        ·intro ka kb kc kd ke kf kg kh ki kj Q kk; have kl : (PV.two (PV.eq (Value.nilFunc)) (PV.eq (Value.bool (false)))).p (kb 43) kc := kh 21 43 (by kernel_rfl) (by kernel_rfl); obtain ⟨km, kn, ko, kp, kq⟩ := kl; obtain rfl : km = _ := kp; obtain rfl : kn = _ := kq; exact mv ko (L_nil (kk _ _ (Tch.ext kg (Ext.refl kc)) (Ext.refl kc).le ⟨_, _, rfl, rfl, rfl⟩ (IM_keep kj (Ext.refl kc) rfl rfl rfl rfl)))
        ·intro ka kb kc kd ke kf kg kh ki kj Q kk; have kl : (PV.two (PV.eq (Value.nilFunc)) (PV.eq (Value.bool (false)))).p (kb 25) kc := kh 22 25 (by kernel_rfl) (by kernel_rfl); obtain ⟨km, kn, ko, kp, kq⟩ := kl; obtain rfl : km = _ := kp; obtain rfl : kn = _ := kq; exact L_extract ko (k := 0) rfl (by decide) (L_nil (kk _ _ (Tch.ext kg (Ext.refl kc)) (Ext.refl kc).le rfl (IM_keep kj (Ext.refl kc) rfl rfl rfl rfl)))
        ·intro ka kb kc kd ke kf kg kh ki kj Q kk; have kl : (PV.two (PV.eq (Value.nilFunc)) (PV.eq (Value.bool (false)))).p (kb 25) kc := kh 22 25 (by kernel_rfl) (by kernel_rfl); obtain ⟨km, kn, ko, kp, kq⟩ := kl; obtain rfl : km = _ := kp; obtain rfl : kn = _ := kq; exact L_extract ko (k := 1) rfl (by decide) (L_nil (kk _ _ (Tch.ext kg (Ext.refl kc)) (Ext.refl kc).le rfl (IM_keep kj (Ext.refl kc) rfl rfl rfl rfl)))
        ·intro ka kb kc kd ke kf kg kh ki kj Q kk; have kl : kb 44 = Value.nilFunc := kh 23 44 (by kernel_rfl) (by kernel_rfl); exact asg kl (L_nil (kk _ _ (Tch.ext kg (Ext.refl kc)) (Ext.refl kc).le rfl (IM_keep kj (Ext.refl kc) rfl rfl rfl rfl)))
        ·intro ka kb kc kd ke kf kg kh ki kj Q kk; have kl : kb 45 = Value.bool (false) := kh 24 45 (by kernel_rfl) (by kernel_rfl); exact asg kl (L_nil (kk _ _ (Tch.ext kg (Ext.refl kc)) (Ext.refl kc).le rfl (IM_keep kj (Ext.refl kc) rfl rfl rfl rfl)))
        ·intro ka kb kc kd ke; have kf := Tch.ext jw kc; have kg : ka 7 = Value.bool (false) := kd 26 7 (by kernel_rfl); refine then_n (sr (mv kg (L_not (rfl : _ = Value.bool (false)) (by decide) (mv (rfl : _ = Value.bool (!false)) (gf 48 (rfl : _ = Value.bool (!false)) rfl (gf 48 (rfl : _ = Value.bool (!false)) rfl (pt (rfl : _ = Value.bool (!false)) rfl (rfl : _ = Value.bool (true)) (asg (rfl : _ = Value.bool (true)) (nn (W_ret ?_)))))))))); obtain rfl := Option.some.inj hr; exact done1 (Or.inl rfl) Try.results32 rfl ⟨_, _, rfl, rfl, kf, Vbool⟩

theorem dead_run_next_ok (N : Nat) (s0 : St) (w0 : Value) (a0 : Run) (h0 : Ptr s0 w0 a0) (r : Int) (hr : dead_run_next N a0 = some r) :
    Calls Try.prog 33 #[w0] s0.w (Ret s0 fun v s => V s v r) := by
 unfold dead_run_next at hr
 have j0 := Ext.refl s0
 refine Calls_of (n := 17) (args := [w0]) Try.func33 rfl rfl (by simp) (sr (asg (rfl : _ = Value.int .i64 (0)) (nn (W_seq (sr (mv (rfl : _ = w0) (L_nilCheck_ptr (rfl : _ = w0) h0 (by decide) (L_fieldAddr fld72_0 Run.of_c (rfl : _ = w0) h0 (by decide) (fun j1 j2 => L_load ty29 (rfl : _ = j1) j2 (by decide) (fun j3 j4 => L_len Try.underlying29 (rfl : _ = j3) j4 (by decide) (mv (rfl : _ = Value.int .i64 (0)) (nn ?_))))))))))))
 obtain ⟨j5, j6, j7⟩ := bind_some hr
 refine W_cut (fun f w => ∃ (s : St), s.w = w ∧ Ext s0 s ∧ Le s0 s ∧ Sum.inl () = j5) ?_ ?_
 ·refine W_block (W_loop (fun m f w => ∃ (s : St) (j8 : Int), s.w = w ∧ Ext s0 s ∧ Le s0 s ∧ dead_run_next_l1 N a0 m j8 = some j5 ∧ f 9 = Value.int .i64 j8 ∧ f 0 = w0 ∧ f 8 = Value.int .i64 ((a0.c.length : Int))) N ⟨s0, 0, rfl, j0, (Le.refl _), j6, rfl, rfl, rfl⟩ ?_)
  rintro j9 ja jb ⟨jc, j8, rfl, jd, je, hr, jf, jg, jh⟩
  cases j9 with
  | zero => exact absurd hr (by simp [dead_run_next_l1])
  | succ j9 =>
   rw [dead_run_next_l1.eq_2] at hr
   refine sr (L_lss jf jh (by decide) (nn (W_seq ?_)))
   refine W_cond _ (rfl : _ = Value.bool (decide (j8 < (a0.c.length : Int)))) (fun ji => ?_) (fun ji => ?_)
   ·have hr := ite_t ji hr
    refine W_skip (then_n (W_seq (W_block (sr (mv jf (asg (rfl : _ = Value.int .i64 (j8)) (nn (sr (mv jg (mv (rfl : _ = Value.int .i64 (j8)) ?_))))))))))
    obtain ⟨jj, jk, hr⟩ := bind_some hr
    refine L_calls cal32 (args2 (rfl : _ = w0) (rfl : _ = Value.int .i64 (j8))) (dead_run_can_ok N _ _ _ (h0.mono je) j8 jj jk) (by decide) (fun jl jm jn jo => ?_)
    have jp := Tch.ext jd jn
    obtain rfl := jo.bool
    refine nn ?_
    refine W_cond _ (rfl : _ = Value.bool (jj)) (fun jq => ?_) (fun jq => ?_)
    ·have hr := ite_t jq hr; refine sr (mv (rfl : _ = Value.int .i64 (j8)) (asg (rfl : _ = Value.int .i64 (j8)) (nn (W_ret (block_r (then_r (then_r (block_r ?_)))))))); obtain rfl := Option.some.inj hr; have hr := j7; (try dsimp only at hr); refine then_r (then_r ?_); obtain rfl := Option.some.inj hr; exact done1 (Or.inl rfl) Try.results33 rfl ⟨_, _, rfl, rfl, jp, Vint⟩
    ·have hr := ite_f jq hr; refine W_skip (block_n (then_n (W_region ?_))); obtain ⟨jr, hr⟩ := chk_some hr; exact L_add jf (rfl : _ = Value.int .i64 (1)) jr (by decide) (mv (rfl : _ = Value.int .i64 (j8 + 1)) (nn ⟨j9, Nat.lt_succ_self _, ⟨jm, (j8 + 1), rfl, jp, (je.trans jn.le), hr, rfl, jg, jh⟩⟩))
   ·have hr := ite_f ji hr; refine W_exit (then_x (then_x (block_here ?_))); exact then_n ⟨jc, rfl, jd, je, Option.some.inj hr⟩
 ·rintro j8 j9 ⟨ja, rfl, jb, jc, j6⟩; subst j6; have hr := j7; (try dsimp only at hr); refine then_n (sr (asg (rfl : _ = Value.int .i64 (-1)) (nn (W_ret ?_)))); obtain rfl := Option.some.inj hr; exact done1 (Or.inl rfl) Try.results33 rfl ⟨_, _, rfl, rfl, jb, Vint⟩

theorem dead_Follow_ok (N : Nat) (s0 : St) (w0 : Value) (a0 : List (List Deed)) (h0 : V s0 w0 a0) (a1 : Int) (w2 : Value) (a2 : List Int) (h2 : V s0 w2 a2) (r : (List Int) × Bool × Int) (hr : dead_Follow N a0 a1 a2 = some r) :
    Calls Try.prog 11 #[w0, .int .i64 a1, w2] s0.w (Ret s0 fun v s => ∃ a b c, v = .tuple #[a, b, c] ∧ V s a r.1 ∧ V s b r.2.1 ∧ V s c r.2.2) := by
 unfold dead_Follow at hr
 have j0 := Ext.refl s0
 refine Calls_of (n := 59) (args := [w0, .int .i64 a1, w2]) Try.func11 rfl rfl (by simp) (sr (asg (rfl : _ = Value.slice none 0 0) (asg (rfl : _ = Value.bool (false)) (asg (rfl : _ = Value.int .i64 (0)) (nn (sr (mv (rfl : _ = w0) (mv (rfl : _ = Value.int .i64 (a1)) ?_))))))))
 obtain ⟨j1, j2, hr⟩ := bind_some hr
 refine L_calls cal31 (args2 (rfl : _ = w0) (rfl : _ = Value.int .i64 (a1))) (dead_newRun_ok N _ _ _ h0 a1 j1 j2) (by decide) (fun j3 j4 j5 j6 => ?_)
 have j7 := Tch.ext j0 j5
 obtain ⟨j8, j9, rfl, ja, jb⟩ := j6
 obtain rfl := jb.int
 refine mv (rfl : _ = Value.tuple #[j8, Value.int .i64 (j1.2)]) (L_extract (rfl : _ = Value.tuple #[j8, Value.int .i64 (j1.2)]) (k := 0) rfl (by decide) (L_extract (rfl : _ = Value.tuple #[j8, Value.int .i64 (j1.2)]) (k := 1) rfl (by decide) (asg (rfl : _ = j8) (asg (rfl : _ = Value.int .i64 (j1.2)) (nn (W_seq (sr (mv (rfl : _ = Value.int .i64 (j1.2)) (L_neq (rfl : _ = Value.int .i64 (j1.2)) (rfl : _ = Value.int .i64 (0)) (by decide) (nn ?_))))))))))
 refine W_cond _ (rfl : _ = Value.bool (!decide (j1.2 = 0))) (fun jc => ?_) (fun jc => ?_)
 ·have hr := ite_t jc hr; refine sr (mv (rfl : _ = Value.int .i64 (j1.2)) (asg (rfl : _ = Value.slice none 0 0) (asg (rfl : _ = Value.bool (false)) (asg (rfl : _ = Value.int .i64 (j1.2)) (nn (W_ret (then_r ?_))))))); obtain rfl := Option.some.inj hr; exact done3 (Or.inl rfl) Try.results11 rfl rfl rfl ⟨_, _, rfl, rfl, j7, _, _, _, rfl, Vnil, Vbool, Vint⟩
 ·have hr := ite_f jc hr
  refine W_skip (then_n (W_seq (sr (mv (rfl : _ = w2) (L_len Try.underlying23 (rfl : _ = w2) (h2.mono j5.le) (by decide) (mv (rfl : _ = Value.int .i64 (0)) (nn ?_)))))))
  obtain ⟨jd, je, hr⟩ := bind_some hr
  obtain ⟨jf, jg, jh, ji⟩ := ja.open je
  obtain ⟨jj, jk, jl⟩ := bind_some hr
  refine W_cut (fun f w => ∃ (s : St) (jm : List Int), s.w = w ∧ Ext s0 s ∧ Le j4 s ∧ Sum.inl jm = jj ∧ f 9 = j8 ∧ Arr s jf 3 (jd.at_).length jm) ?_ ?_
  ·refine W_block (W_loop (fun m f w => ∃ (s : St) (jn : Int) (jo : List Int), s.w = w ∧ Ext s0 s ∧ Le j4 s ∧ dead_Follow_l1 N a0 a2 jd m jn jo = some jj ∧ f 24 = Value.int .i64 jn ∧ f 0 = w0 ∧ f 9 = j8 ∧ f 22 = w2 ∧ f 23 = Value.int .i64 ((a2.length : Int)) ∧ Arr s jf 3 (jd.at_).length jo) N ⟨j4, 0, jd.at_, rfl, j7, (Le.refl _), jk, rfl, rfl, rfl, rfl, rfl, ji⟩ ?_)
   rintro jp jq jr ⟨js, jn, jo, rfl, jt, ju, hr, jv, jw, jx, jy, jz, k0⟩
   cases jp with
   | zero => exact absurd hr (by simp [dead_Follow_l1])
   | succ jp =>
    rw [dead_Follow_l1.eq_2] at hr
    refine sr (L_lss jv jz (by decide) (nn (W_seq ?_)))
    refine W_cond _ (rfl : _ = Value.bool (decide (jn < (a2.length : Int)))) (fun k1 => ?_) (fun k1 => ?_)
    ·have hr := ite_t k1 hr
     refine W_skip (then_n (W_seq (W_block (sr ?_))))
     obtain ⟨k2, k3, hr⟩ := bind_some hr
     refine L_index Try.underlying23 ty3.inf jy (h2.mono (j5.le.trans ju)) jv k3 (by decide) (fun k4 k5 => li ty3 (rfl : _ = k4) k5 (asg (rfl : _ = Value.int .i64 (k2)) (nn ?_)))
     obtain ⟨k6, k7, k8⟩ := bind_some hr
     refine W_seq_cut (fun f w => ∃ (s : St), s.w = w ∧ Ext s0 s ∧ Le js s ∧ Sum.inl () = k6 ∧ f 0 = w0 ∧ f 9 = j8 ∧ f 12 = Value.int .i64 (k2) ∧ f 22 = w2 ∧ f 23 = Value.int .i64 ((a2.length : Int)) ∧ f 24 = Value.int .i64 (jn) ∧ Arr s jf 3 (jd.at_).length jo) ?_ ?_
     ·have hr := k7
      refine W_block ?_
      obtain ⟨k9, ka, kb⟩ := bind_some hr
      refine W_seq_cut (fun f w => ∃ (s : St) (kc : Bool), s.w = w ∧ Ext s0 s ∧ Le js s ∧ kc = k9 ∧ f 28 = Value.bool kc ∧ f 0 = w0 ∧ f 9 = j8 ∧ f 12 = Value.int .i64 (k2) ∧ f 22 = w2 ∧ f 23 = Value.int .i64 ((a2.length : Int)) ∧ f 24 = Value.int .i64 (jn) ∧ Arr s jf 3 (jd.at_).length jo) ?_ ?_
      ·have hr := ka
       refine W_region (mv (rfl : _ = Value.int .i64 (k2)) (L_lss (rfl : _ = Value.int .i64 (k2)) (rfl : _ = Value.int .i64 (0)) (by decide) (mv (rfl : _ = Value.bool (decide (k2 < 0))) ?_)))
       rcases Bool.eq_false_or_eq_true (decide (k2 < 0)) with kd | kd
       ·have hr := ite_t kd hr; exact gf 31 (rfl : _ = Value.bool (decide (k2 < 0))) kd (gf 31 (rfl : _ = Value.bool (decide (k2 < 0))) kd (gf 31 (rfl : _ = Value.bool (decide (k2 < 0))) kd (gf 31 (rfl : _ = Value.bool (decide (k2 < 0))) kd (pt (rfl : _ = Value.bool (decide (k2 < 0))) kd (rfl : _ = Value.bool (true)) (asg (rfl : _ = Value.bool (true)) (nn ⟨js, true, rfl, jt, (Le.refl _), Option.some.inj hr, rfl, jw, jx, rfl, jy, jz, jv, k0⟩))))))
       ·have hr := ite_f kd hr; exact gt 31 (rfl : _ = Value.bool (decide (k2 < 0))) kd (mv (rfl : _ = Value.int .i64 (k2)) (gt 31 (rfl : _ = Value.bool (decide (k2 < 0))) kd (mv jw (gt 31 (rfl : _ = Value.bool (decide (k2 < 0))) kd (L_len Try.underlying29 (rfl : _ = w0) (h0.mono (j5.le.trans ju)) (by decide) (gt 31 (rfl : _ = Value.bool (decide (k2 < 0))) kd (L_geq (rfl : _ = Value.int .i64 (k2)) (rfl : _ = Value.int .i64 ((a0.length : Int))) (by decide) (pf (rfl : _ = Value.bool (decide (k2 < 0))) kd (rfl : _ = Value.bool (decide ((a0.length : Int) ≤ k2))) (asg (rfl : _ = Value.bool (decide ((a0.length : Int) ≤ k2))) (nn ⟨js, (decide ((a0.length : Int) ≤ k2)), rfl, jt, (Le.refl _), Option.some.inj hr, rfl, jw, jx, rfl, jy, jz, jv, k0⟩))))))))))
      ·rintro kd ke ⟨kf, kc, rfl, kg, kh, ka, ki, kj, kk, kl, km, kn, ko, kp⟩
       subst ka
       have hr := kb
       try dsimp only at hr
       refine W_cond _ ki (fun kq => ?_) (fun kq => ?_)
       ·have hr := ite_t kq hr; refine sr (asg (rfl : _ = Value.slice none 0 0) (asg (rfl : _ = Value.bool (false)) (asg (rfl : _ = Value.int .i64 (11)) (nn (W_ret (block_r ?_)))))); obtain rfl := Option.some.inj hr; have hr := k8; (try dsimp only at hr); refine then_r (block_r (then_r (then_r (block_r ?_)))); obtain rfl := Option.some.inj hr; have hr := jl; (try dsimp only at hr); refine then_r (then_r ?_); obtain rfl := Option.some.inj hr; exact done3 (Or.inl rfl) Try.results11 rfl rfl rfl ⟨_, _, rfl, rfl, kg, _, _, _, rfl, Vnil, Vbool, Vint⟩
       ·have hr := ite_f kq hr
        refine sr (mv kk (mv kl ?_))
        obtain ⟨kr, ks, hr⟩ := bind_some hr
        obtain ⟨kt, ku, kv, kw⟩ := (kp).freeze
        refine L_calls_fz cal32 (args2 (rfl : _ = j8) (rfl : _ = Value.int .i64 (k2))) ku kv (fun k hk => by have kx : k = jf := hk; rw [kx]; exact (kp).g) (dead_run_can_ok N _ _ _ ((jh.mono (ju.trans (kh.trans kv.le))).ptr kw) k2 kr ks) (by decide) (fun ky kz g0 g1 g2 g3 => ?_)
        have g4 := Tch.ext kg g2
        obtain rfl := g3.bool
        refine L_not (rfl : _ = Value.bool (kr)) (by decide) (asg (rfl : _ = Value.bool (!kr)) (nn ?_))
        refine W_cond _ (rfl : _ = Value.bool (!kr)) (fun g5 => ?_) (fun g5 => ?_)
        ·have hr := ite_t g5 hr; refine sr (asg (rfl : _ = Value.slice none 0 0) (asg (rfl : _ = Value.bool (false)) (asg (rfl : _ = Value.int .i64 (6)) (nn (W_ret (block_r ?_)))))); obtain rfl := Option.some.inj hr; have hr := k8; (try dsimp only at hr); refine then_r (block_r (then_r (then_r (block_r ?_)))); obtain rfl := Option.some.inj hr; have hr := jl; (try dsimp only at hr); refine then_r (then_r ?_); obtain rfl := Option.some.inj hr; exact done3 (Or.inl rfl) Try.results11 rfl rfl rfl ⟨_, _, rfl, rfl, g4, _, _, _, rfl, Vnil, Vbool, Vint⟩
        ·have hr := ite_f g5 hr; refine W_skip (block_n ?_); exact then_n ⟨g0, rfl, g4, (kh.trans g2.le), Option.some.inj hr, kj, kk, kl, km, kn, ko, (kp).ext g2⟩
     ·rintro k9 ka ⟨kb, rfl, kc, kd, k7, ke, kf, kg, kh, ki, kj, kk⟩; subst k7; have hr := k8; (try dsimp only at hr); refine W_region (mv kf (L_nilCheck_shell (rfl : _ = j8) (jh.mono (ju.trans kd)) (by decide) (L_fieldAddr_shell fld72_2 (rfl : _ = j8) (jh.mono (ju.trans kd)) (by decide) (fun kl km => L_load_cell Try.underlying23 rfl (rfl : _ = kl) km (by decide) (mv kg ?_))))); obtain ⟨kn, ko, hr⟩ := bind_some hr; refine L_indexA (sz := 1) Try.underlying23 ty3.inf (rfl : _ = Value.slice (some ⟨jf, 0, none⟩) (jd.at_).length (jd.at_).length) (rfl : _ = Value.int .i64 (k2)) (idx_some ko).1 (by have := (idx_some ko).2.1; have := (kk).1; omega) (by decide) (L_loadA (xs := jo) ty3 (rfl : _ = Value.pointer (some ⟨jf, (k2).toNat * 1, none⟩)) (kk) ko (by decide) (fun kp kq => ?_)); obtain rfl := kq.int; obtain ⟨kr, hr⟩ := chk_some hr; refine L_add (rfl : _ = Value.int .i64 (kn)) (rfl : _ = Value.int .i64 (1)) kr (by decide) ?_; obtain ⟨ks, kt, hr⟩ := bind_some hr; refine L_indexA (sz := 1) Try.underlying23 ty3.inf (rfl : _ = Value.slice (some ⟨jf, 0, none⟩) (jd.at_).length (jd.at_).length) (rfl : _ = Value.int .i64 (k2)) (idx_some kt).1 (by have := (idx_some kt).2.1; have := (kk).1; omega) (by decide) (L_storeA (xs := jo) ty3 (rfl : _ = Value.pointer (some ⟨jf, (k2).toNat * 1, none⟩)) (rfl : _ = Value.int .i64 (kn + 1)) Vint (kk) kt (fun ku kv kw => ?_)); have kx := Tch.trans kc kv (fun k hk => Or.inr (by subst hk; exact (Nat.le_trans j0.size jg))); refine L_nil (block_n (then_n (W_region ?_))); obtain ⟨ky, hr⟩ := chk_some hr; exact L_add kj (rfl : _ = Value.int .i64 (1)) ky (by decide) (mv (rfl : _ = Value.int .i64 (jn + 1)) (nn ⟨jp, Nat.lt_succ_self _, ⟨ku, (jn + 1), (jo.set (k2).toNat (kn + 1)), rfl, kx, (ju.trans (kd.trans kv.le)), hr, rfl, ke, kf, kh, ki, kw⟩⟩))
    ·have hr := ite_f k1 hr; refine W_exit (then_x (then_x (block_here ?_))); exact then_n ⟨js, jo, rfl, jt, ju, Option.some.inj hr, jx, k0⟩
  ·rintro jn jo ⟨jp, jm, rfl, jq, jr, jk, js, jt⟩
   subst jk
   have hr := jl
   try dsimp only at hr
   refine then_n (W_seq ?_)
   obtain ⟨ju, jv, jw, jx⟩ := (jt).freeze
   rw [← jv]
   have jy := Tch.trans jq jw (fun k hk => Or.inr (by subst hk; exact (Nat.le_trans j0.size jg)))
   obtain ⟨jz, k0, hr⟩ := bind_some hr
   refine W_draws mixed (by kernel_rfl) [PV.ptr ((Run.with_at_ jd jm) : Run), PV.ptr ((Run.with_at_ jd jm) : Run), PV.ptr ((Run.with_at_ jd jm).at_ : List Int), PV.data ((Run.with_at_ jd jm).at_ : List Int), PV.ptr ((Run.with_at_ jd jm) : Run), PV.eq (Value.int .i64 (jz)), PV.eq (Value.bool (decide (jz < 0))), PV.data ((Run.with_at_ jd jm).at_ : List Int), PV.eq (Value.bool (decide (jz < 0))), PV.eq (Value.int .i64 (0))] (Steps_cons ?_ (Steps_cons ?_ (Steps_cons ?_ (Steps_cons ?_ (Steps_cons ?_ (Steps_cons ?_ (Steps_cons ?_ (Steps_cons ?_ (Steps_cons ?_ (Steps_cons ?_ Steps_nil)))))))))) ?_
   ·intro k1 k2 k3 k4 k5 Q k6; have k7 : k1 9 = j8 := (k5 9 (by kernel_rfl)).trans js; exact mv k7 (fin k6 (((jh.mono (jr.trans jw.le)).ptr jx).mono k3.le))
   ·intro k1 k2 k3 k4 k5 Q k6; have k7 : Ptr _ (k1 52) ((Run.with_at_ jd jm) : Run) := k4 0 52 (by kernel_rfl) (by kernel_rfl); obtain ⟨k8, k9, ka⟩ : ∃ v, _ = v ∧ Ptr _ v _ := ⟨_, rfl, k7⟩; exact L_nilCheck_ptr k9 ka (by decide) (fin k6 ka)
   ·intro k1 k2 k3 k4 k5 Q k6; have k7 : Ptr _ (k1 53) ((Run.with_at_ jd jm) : Run) := k4 1 53 (by kernel_rfl) (by kernel_rfl); obtain ⟨k8, k9, ka⟩ : ∃ v, _ = v ∧ Ptr _ v _ := ⟨_, rfl, k7⟩; exact L_fieldAddr fld72_2 Run.of_at_ k9 ka (by decide) (fun kb kc => fin k6 kc)
   ·intro k1 k2 k3 k4 k5 Q k6; have k7 : Ptr _ (k1 54) ((Run.with_at_ jd jm).at_ : List Int) := k4 2 54 (by kernel_rfl) (by kernel_rfl); obtain ⟨k8, k9, ka⟩ : ∃ v, _ = v ∧ Ptr _ v _ := ⟨_, rfl, k7⟩; exact L_load ty23 k9 ka (by decide) (fun kb kc => fin k6 kc)
   ·intro k1 k2 k3 k4 k5 Q k6; have k7 : k1 9 = j8 := (k5 9 (by kernel_rfl)).trans js; exact mv k7 (fin k6 (((jh.mono (jr.trans jw.le)).ptr jx).mono k3.le))
   ·intro k1 k2 k3 k4 k5 Q k6; have k7 : Ptr _ (k1 56) ((Run.with_at_ jd jm) : Run) := k4 4 56 (by kernel_rfl) (by kernel_rfl); obtain ⟨k8, k9, ka⟩ : ∃ v, _ = v ∧ Ptr _ v _ := ⟨_, rfl, k7⟩; refine L_calls cal33 (args1 k9) (dead_run_next_ok N _ _ _ ka jz k0) (by decide) (fun kb kc kd ke => ?_); have kf := Tch.ext (Ext.refl k2) kd; obtain rfl := ke.int; exact L_nil (k6 _ _ kf rfl)
   ·intro k1 k2 k3 k4 k5 Q k6; have k7 : k1 57 = Value.int .i64 (jz) := k4 5 57 (by kernel_rfl) (by kernel_rfl); exact L_lss k7 (rfl : _ = Value.int .i64 (0)) (by decide) (fin k6 rfl)
   ·intro k1 k2 k3 k4 k5 Q k6; have k7 : V _ (k1 55) ((Run.with_at_ jd jm).at_ : List Int) := k4 3 55 (by kernel_rfl) (by kernel_rfl); obtain ⟨k8, k9, ka⟩ : ∃ v, _ = v ∧ V _ v _ := ⟨_, rfl, k7⟩; exact asg k9 (fin k6 ka)
   ·intro k1 k2 k3 k4 k5 Q k6; have k7 : k1 58 = Value.bool (decide (jz < 0)) := k4 6 58 (by kernel_rfl) (by kernel_rfl); exact asg k7 (fin k6 rfl)
   ·intro k1 k2 k3 k4 k5 Q k6; exact asg (rfl : _ = Value.int .i64 (0)) (fin k6 rfl)
   ·intro k1 k2 k3 k4 k5; have k6 := Tch.ext jy k3; have k7 : V _ (k1 6) ((Run.with_at_ jd jm).at_ : List Int) := k4 7 6 (by kernel_rfl); obtain ⟨k8, k9, ka⟩ : ∃ v, _ = v ∧ V _ v _ := ⟨_, rfl, k7⟩; have kb : k1 7 = Value.bool (decide (jz < 0)) := k4 8 7 (by kernel_rfl); have kc : k1 8 = Value.int .i64 (0) := k4 9 8 (by kernel_rfl); refine then_n (W_ret ?_); obtain rfl := Option.some.inj hr; exact done3 (Or.inl rfl) Try.results11 k9 kb kc ⟨_, _, rfl, rfl, k6, _, _, _, rfl, ka, Vbool, Vint⟩

theorem ref01_SameInts_ok (N : Nat) (s0 : St) (w0 : Value) (a0 : List Int) (h0 : V s0 w0 a0) (w1 : Value) (a1 : List Int) (h1 : V s0 w1 a1) (r : Bool) (hr : ref01_SameInts N a0 a1 = some r) :
    Calls Try.prog 14 #[w0, w1] s0.w (Ret s0 fun v s => V s v r) := by
 unfold ref01_SameInts at hr
 have j0 := Ext.refl s0
 refine Calls_of (n := 26) (args := [w0, w1]) Try.func14 rfl rfl (by simp) (sr (asg (rfl : _ = Value.bool (false)) (nn (W_seq (sr (mv (rfl : _ = w0) (L_len Try.underlying23 (rfl : _ = w0) h0 (by decide) (mv (rfl : _ = w1) (L_len Try.underlying23 (rfl : _ = w1) h1 (by decide) (L_neq (rfl : _ = Value.int .i64 ((a0.length : Int))) (rfl : _ = Value.int .i64 ((a1.length : Int))) (by decide) (nn ?_)))))))))))
 refine W_cond _ (rfl : _ = Value.bool (!decide ((a0.length : Int) = (a1.length : Int)))) (fun j1 => ?_) (fun j1 => ?_)
 ·have hr := ite_t j1 hr; refine sr (asg (rfl : _ = Value.bool (false)) (nn (W_ret (then_r ?_)))); obtain rfl := Option.some.inj hr; exact done1 (Or.inl rfl) Try.results14 rfl ⟨_, _, rfl, rfl, j0, Vbool⟩
 ·have hr := ite_f j1 hr
  refine W_skip (then_n (W_seq (sr (asg (rfl : _ = Value.int .i64 (0)) (nn ?_)))))
  obtain ⟨j2, j3, j4⟩ := bind_some hr
  refine W_cut (fun f w => ∃ (s : St), s.w = w ∧ Ext s0 s ∧ Le s0 s ∧ Sum.inl () = j2) ?_ ?_
  ·refine W_block (W_loop (fun m f w => ∃ (s : St) (j5 : Int), s.w = w ∧ Ext s0 s ∧ Le s0 s ∧ ref01_SameInts_l1 N a0 a1 m j5 = some j2 ∧ f 5 = Value.int .i64 j5 ∧ f 0 = w0 ∧ f 1 = w1) N ⟨s0, 0, rfl, j0, (Le.refl _), j3, rfl, rfl, rfl⟩ ?_)
   rintro j6 j7 j8 ⟨j9, j5, rfl, ja, jb, hr, jc, jd, je⟩
   cases j6 with
   | zero => exact absurd hr (by simp [ref01_SameInts_l1])
   | succ j6 =>
    rw [ref01_SameInts_l1.eq_2] at hr
    refine W_seq (sr (mv jc (mv jd (L_len Try.underlying23 (rfl : _ = w0) (h0.mono jb) (by decide) (L_lss (rfl : _ = Value.int .i64 (j5)) (rfl : _ = Value.int .i64 ((a0.length : Int))) (by decide) (nn ?_))))))
    refine W_cond _ (rfl : _ = Value.bool (decide (j5 < (a0.length : Int)))) (fun jf => ?_) (fun jf => ?_)
    ·have hr := ite_t jf hr
     refine W_skip (then_n (W_seq (W_block (W_seq ?_))))
     obtain ⟨jg, jh, hr⟩ := bind_some hr
     obtain ⟨ji, jj, hr⟩ := bind_some hr
     refine W_draws mixed (by kernel_rfl) [PV.data (a0 : List Int), PV.eq (Value.int .i64 (j5)), PV.ptr (jg : Int), PV.eq (Value.int .i64 (jg)), PV.data (a1 : List Int), PV.eq (Value.int .i64 (j5)), PV.ptr (ji : Int), PV.eq (Value.int .i64 (ji)), PV.eq (Value.bool (!decide (jg = ji)))] (Steps_cons ?_ (Steps_cons ?_ (Steps_cons ?_ (Steps_cons ?_ (Steps_cons ?_ (Steps_cons ?_ (Steps_cons ?_ (Steps_cons ?_ (Steps_cons ?_ Steps_nil))))))))) ?_
     ·intro jk jl jm jn jo Q jp; have jq : jk 0 = w0 := (jo 0 (by kernel_rfl)).trans jd; exact mv jq (fin jp (h0.mono (jb.trans jm.le)))
     ·intro jk jl jm jn jo Q jp; have jq : jk 5 = Value.int .i64 (j5) := (jo 5 (by kernel_rfl)).trans jc; exact mv jq (fin jp rfl)
     ·intro jk jl jm jn jo Q jp; have jq : V _ (jk 17) (a0 : List Int) := jn 0 17 (by kernel_rfl) (by kernel_rfl); obtain ⟨jr, js, jt⟩ : ∃ v, _ = v ∧ V _ v _ := ⟨_, rfl, jq⟩; have ju : jk 18 = Value.int .i64 (j5) := jn 1 18 (by kernel_rfl) (by kernel_rfl); exact L_index Try.underlying23 ty3.inf js jt ju jh (by decide) (fun jv jw => fin jp jw)
     ·intro jk jl jm jn jo Q jp; have jq : Ptr _ (jk 19) (jg : Int) := jn 2 19 (by kernel_rfl) (by kernel_rfl); obtain ⟨jr, js, jt⟩ : ∃ v, _ = v ∧ Ptr _ v _ := ⟨_, rfl, jq⟩; exact li ty3 js jt (fin jp rfl)
     ·intro jk jl jm jn jo Q jp; have jq : jk 1 = w1 := (jo 1 (by kernel_rfl)).trans je; exact mv jq (fin jp (h1.mono (jb.trans jm.le)))
     ·intro jk jl jm jn jo Q jp; have jq : jk 5 = Value.int .i64 (j5) := (jo 5 (by kernel_rfl)).trans jc; exact mv jq (fin jp rfl)
     ·intro jk jl jm jn jo Q jp; have jq : V _ (jk 21) (a1 : List Int) := jn 4 21 (by kernel_rfl) (by kernel_rfl); obtain ⟨jr, js, jt⟩ : ∃ v, _ = v ∧ V _ v _ := ⟨_, rfl, jq⟩; have ju : jk 22 = Value.int .i64 (j5) := jn 5 22 (by kernel_rfl) (by kernel_rfl); exact L_index Try.underlying23 ty3.inf js jt ju jj (by decide) (fun jv jw => fin jp jw)
     ·intro jk jl jm jn jo Q jp; have jq : Ptr _ (jk 23) (ji : Int) := jn 6 23 (by kernel_rfl) (by kernel_rfl); obtain ⟨jr, js, jt⟩ : ∃ v, _ = v ∧ Ptr _ v _ := ⟨_, rfl, jq⟩; exact li ty3 js jt (fin jp rfl)
     ·intro jk jl jm jn jo Q jp; have jq : jk 20 = Value.int .i64 (jg) := jn 3 20 (by kernel_rfl) (by kernel_rfl); have jr : jk 24 = Value.int .i64 (ji) := jn 7 24 (by kernel_rfl) (by kernel_rfl); exact L_neq jq jr (by decide) (fin jp rfl)
     ·intro jk jl jm jn jo
      have jp := Tch.ext ja jm
      have jq : jk 0 = w0 := (jo 0 (by kernel_rfl)).trans jd
      have jr : jk 1 = w1 := (jo 1 (by kernel_rfl)).trans je
      have js : jk 5 = Value.int .i64 (j5) := (jo 5 (by kernel_rfl)).trans jc
      have jt : jk 25 = Value.bool (!decide (jg = ji)) := jn 8 25 (by kernel_rfl)
      refine then_n ?_
      refine W_cond _ jt (fun ju => ?_) (fun ju => ?_)
      ·have hr := ite_t ju hr; refine sr (asg (rfl : _ = Value.bool (false)) (nn (W_ret (block_r (then_r (then_r (block_r ?_))))))); obtain rfl := Option.some.inj hr; have hr := j4; (try dsimp only at hr); refine then_r (then_r ?_); obtain rfl := Option.some.inj hr; exact done1 (Or.inl rfl) Try.results14 rfl ⟨_, _, rfl, rfl, jp, Vbool⟩
      ·have hr := ite_f ju hr; refine W_skip (block_n (then_n (W_region (mv js ?_)))); obtain ⟨jv, hr⟩ := chk_some hr; exact L_add (rfl : _ = Value.int .i64 (j5)) (rfl : _ = Value.int .i64 (1)) jv (by decide) (asg (rfl : _ = Value.int .i64 (j5 + 1)) (nn ⟨j6, Nat.lt_succ_self _, ⟨jl, (j5 + 1), rfl, jp, (jb.trans jm.le), hr, rfl, jq, jr⟩⟩))
    ·have hr := ite_f jf hr; refine W_exit (then_x (then_x (block_here ?_))); exact then_n ⟨j9, rfl, ja, jb, Option.some.inj hr⟩
  ·rintro j5 j6 ⟨j7, rfl, j8, j9, j3⟩; subst j3; have hr := j4; (try dsimp only at hr); refine then_n (sr (asg (rfl : _ = Value.bool (true)) (nn (W_ret ?_)))); obtain rfl := Option.some.inj hr; exact done1 (Or.inl rfl) Try.results14 rfl ⟨_, _, rfl, rfl, j8, Vbool⟩

theorem dead_Narrow_1_ok (N : Nat) (s0 : St) (w0 : Value) (a0 : Deed) (h0 : V s0 w0 a0) (w1 : Value) (a1 : Int) (h1 : Ptr s0 w1 a1) (w2 : Value) (a2 : Deed) (h2 : Ptr s0 w2 a2) (r : Bool) (hr : dead_Narrow_1 N a0 a1 a2 = some r) :
    Calls Try.prog 39 #[w0, w1, w2] s0.w (Ret s0 fun v s => V s v r) := by
 unfold dead_Narrow_1 at hr
 have j0 := Ext.refl s0
 refine Calls_of (n := 18) (args := [w0, w1, w2]) Try.func39 rfl rfl (by simp) (sr (L_box (rfl : _ = w0) h0 (by decide) (fun j1 j2 j3 j4 => ?_)))
 have j5 := Tch.ext j0 j3
 refine asg (rfl : _ = Value.bool (false)) (nn (sr (L_load ty64 (rfl : _ = j2) j4 (by decide) (fun j6 j7 => ?_))))
 obtain ⟨j8, j9, hr⟩ := bind_some hr
 refine L_calls cal40 (args1 (rfl : _ = j6)) (dead_sends_ok N _ _ _ j7 j8 j9) (by decide) (fun ja jb jc jd => ?_)
 have je := Tch.ext j5 jc
 obtain rfl := jd.bool
 refine mv (rfl : _ = Value.bool (j8)) ?_
 rcases Bool.eq_false_or_eq_true (j8) with jf | jf
 ·have hr := ite_t jf hr
  refine gt 7 (rfl : _ = Value.bool (j8)) jf (L_fieldAddr fld64_1 Deed.of_Peer (rfl : _ = j2) (j4.mono jc.le) (by decide) (fun jg jh => gt 7 (rfl : _ = Value.bool (j8)) jf (li ty3 (rfl : _ = jg) jh (gt 7 (rfl : _ = Value.bool (j8)) jf (li ty3 (rfl : _ = w1) (h1.mono (j3.le.trans jc.le)) (gt 7 (rfl : _ = Value.bool (j8)) jf (L_eql (rfl : _ = Value.int .i64 (a0.Peer)) (rfl : _ = Value.int .i64 (a1)) (by decide) (pt (rfl : _ = Value.bool (j8)) jf (rfl : _ = Value.bool (decide (a0.Peer = a1))) (mv (rfl : _ = Value.bool (decide (a0.Peer = a1))) ?_)))))))))
  rcases Bool.eq_false_or_eq_true (decide (a0.Peer = a1)) with ji | ji
  ·have hr := ite_t ji hr; refine gt 13 (rfl : _ = Value.bool (decide (a0.Peer = a1))) ji (L_load ty64 (rfl : _ = j2) (j4.mono jc.le) (by decide) (fun jj jk => gt 13 (rfl : _ = Value.bool (decide (a0.Peer = a1))) ji (L_load ty64 (rfl : _ = w2) (h2.mono (j3.le.trans jc.le)) (by decide) (fun jl jm => gt 13 (rfl : _ = Value.bool (decide (a0.Peer = a1))) ji ?_)))); obtain ⟨jn, jo, hr⟩ := bind_some hr; refine L_calls cal41 (args2 (rfl : _ = jj) (rfl : _ = jl)) (dead_fits_ok N _ _ _ jk _ _ jm jn jo) (by decide) (fun jp jq jr js => ?_); have jt := Tch.ext je jr; obtain rfl := js.bool; refine pt (rfl : _ = Value.bool (decide (a0.Peer = a1))) ji (rfl : _ = Value.bool (jn)) (asg (rfl : _ = Value.bool (jn)) (nn (W_ret ?_))); obtain rfl := Option.some.inj hr; exact done1 (Or.inl rfl) Try.results39 rfl ⟨_, _, rfl, rfl, jt, Vbool⟩
  ·have hr := ite_f ji hr; refine gf 13 (rfl : _ = Value.bool (decide (a0.Peer = a1))) ji (gf 13 (rfl : _ = Value.bool (decide (a0.Peer = a1))) ji (gf 13 (rfl : _ = Value.bool (decide (a0.Peer = a1))) ji (pf (rfl : _ = Value.bool (decide (a0.Peer = a1))) ji (rfl : _ = Value.bool (false)) (asg (rfl : _ = Value.bool (false)) (nn (W_ret ?_)))))); obtain rfl := Option.some.inj hr; exact done1 (Or.inl rfl) Try.results39 rfl ⟨_, _, rfl, rfl, je, Vbool⟩
 ·have hr := ite_f jf hr; refine gf 7 (rfl : _ = Value.bool (j8)) jf (gf 7 (rfl : _ = Value.bool (j8)) jf (gf 7 (rfl : _ = Value.bool (j8)) jf (gf 7 (rfl : _ = Value.bool (j8)) jf (pf (rfl : _ = Value.bool (j8)) jf (rfl : _ = Value.bool (false)) (mv (rfl : _ = Value.bool (false)) (gf 13 (rfl : _ = Value.bool (false)) rfl (gf 13 (rfl : _ = Value.bool (false)) rfl (gf 13 (rfl : _ = Value.bool (false)) rfl (pf (rfl : _ = Value.bool (false)) rfl (rfl : _ = Value.bool (false)) (asg (rfl : _ = Value.bool (false)) (nn (W_ret ?_)))))))))))); obtain rfl := Option.some.inj hr; exact done1 (Or.inl rfl) Try.results39 rfl ⟨_, _, rfl, rfl, je, Vbool⟩

theorem cal39 : Callee Try.prog 39 := ⟨_, Try.func39, by kernel_rfl, by kernel_rfl⟩
theorem dead_Narrow_ok (N : Nat) (s0 : St) (w0 : Value) (a0 : List (List Deed)) (h0 : V s0 w0 a0) (r : (List (List Deed)) × Bool × Int) (hr : dead_Narrow N a0 = some r) :
    Calls Try.prog 15 #[w0] s0.w (Ret s0 fun v s => ∃ a b c, v = .tuple #[a, b, c] ∧ V s a r.1 ∧ V s b r.2.1 ∧ V s c r.2.2) := by
 unfold dead_Narrow at hr
 have j0 := Ext.refl s0
 refine Calls_of (n := 81) (args := [w0]) Try.func15 rfl rfl (by simp) (sr (asg (rfl : _ = Value.slice none 0 0) (asg (rfl : _ = Value.bool false) (asg (rfl : _ = Value.int .i64 (0)) (nn (W_scope ?_))))))
 repeat (first | with_reducible refine W_seq ?_ | with_reducible refine then_n ?_ | with_reducible refine block_n ?_)
 refine W_region (mv (rfl : _ = w0) ?_)
 obtain ⟨j1, j2, hr⟩ := bind_some hr
 refine L_calls cal27 (args1 (rfl : _ = w0)) (dead_Check_ok N _ _ _ h0 j1 j2) (by decide) (fun j3 j4 j5 j6 => ?_)
 have j7 := Tch.ext j0 j5
 obtain rfl := j6.int
 refine asg (rfl : _ = Value.int .i64 (j1)) (L_nil ?_)
 repeat (first | with_reducible refine W_seq ?_ | with_reducible refine then_n ?_ | with_reducible refine block_n ?_)
 refine W_region (mv (rfl : _ = Value.int .i64 (j1)) (L_neq (rfl : _ = Value.int .i64 (j1)) (rfl : _ = Value.int .i64 (0)) (by decide) (L_nil ?_)))
 repeat (first | with_reducible refine W_seq ?_ | with_reducible refine then_n ?_ | with_reducible refine block_n ?_)
 refine W_cond _ (rfl : _ = Value.bool (!decide (j1 = 0))) (fun j8 => ?_) (fun j8 => ?_)
 ·have hr := ite_t j8 hr; refine sr (mv (rfl : _ = Value.int .i64 (j1)) (asg (rfl : _ = Value.slice none 0 0) (asg (rfl : _ = Value.bool false) (asg (rfl : _ = Value.int .i64 (j1)) (L_nil ?_))))); (repeat (first | with_reducible refine W_seq ?_ | with_reducible refine then_n ?_ | with_reducible refine block_n ?_)); refine W_ret ?_; (repeat (with_reducible refine then_r ?_)); obtain rfl := Option.some.inj hr; exact done3 (Or.inl rfl) Try.results15 rfl rfl rfl ⟨_, _, rfl, rfl, j7, _, _, _, rfl, Vnil, Vbool, Vint⟩
 have hr := ite_f j8 hr
 refine W_skip ?_
 repeat (first | with_reducible refine W_seq ?_ | with_reducible refine then_n ?_ | with_reducible refine block_n ?_)
 refine W_region (mv (rfl : _ = w0) (L_len Try.underlying29 (rfl : _ = w0) (h0.mono j7.le) (by decide) ?_))
 obtain ⟨j9, hr⟩ := chk_some hr
 refine L_makeB (B := s0.w.heap.size) (E' := 64) Try.underlying29 tyz59 (rfl : _ = Value.int .i64 (a0.length : Int)) j9.1 j9.2.1 j9.2.2 (by decide) j7.size (fun ja bA jb hbA jc => ?_)
 have jd := Tch.ext j7 jb
 have je : ((a0.length : Int)).toNat = a0.length := by omega
 refine asg (rfl : _ = Value.slice (some ⟨bA, 0, none⟩) (a0.length : Int).toNat (a0.length : Int).toNat) ?_
 rw [je]
 refine L_nil ?_
 repeat (first | with_reducible refine W_seq ?_ | with_reducible refine then_n ?_ | with_reducible refine block_n ?_)
 refine W_label ?_
 repeat (first | with_reducible refine W_seq ?_ | with_reducible refine then_n ?_ | with_reducible refine block_n ?_)
 refine W_region (mv (rfl : _ = w0) (L_len Try.underlying29 (rfl : _ = w0) (h0.mono jd.le) (by decide) (mv (rfl : _ = Value.int .i64 (0)) (L_nil ?_))))
 repeat (first | with_reducible refine W_seq ?_ | with_reducible refine then_n ?_ | with_reducible refine block_n ?_)
 obtain ⟨jf, jg, hq⟩ := bind_some hr
 refine W_cut (fun f w => ∃ (s : St), s.w = w ∧ Ext s0 s ∧ ((jf = none ∧ f 6 = Value.slice none 0 0) ∨ ∃ vs out, jf = some out ∧ ArrB s s0.w.heap.size 59 64 bA vs out ∧ out.length = a0.length ∧ f 6 = Value.slice (some ⟨bA, 0, none⟩) a0.length a0.length)) ?_ ?_
 ·refine W_block (W_loop (fun m f w => ∃ (s : St) (jh : Int) (vs : List Value) (out : List (List Deed)), s.w = w ∧ Ext s0 s ∧ dead_Narrow_l1 N a0 m jh out = some jf ∧ ArrB s s0.w.heap.size 59 64 bA vs out ∧ out.length = a0.length ∧ f 24 = Value.int .i64 jh ∧ f 0 = w0 ∧ f 6 = Value.slice (some ⟨bA, 0, none⟩) a0.length a0.length ∧ f 22 = w0 ∧ f 23 = Value.int .i64 (a0.length : Int)) N ⟨ja, 0, _, _, rfl, jd, jg, jc, by simp, rfl, rfl, rfl, rfl, rfl⟩ ?_)
  rintro ji jj jk ⟨s, jh, vs, out, rfl, hE, hr, hA, hlo, jl, jm, jn, jo, jp⟩
  cases ji with
  | zero => exact absurd hr (by simp [dead_Narrow_l1])
  | succ ji =>
   rw [dead_Narrow_l1.eq_2] at hr
   refine sr (L_lss jl jp (by decide) (L_nil ?_))
   repeat (first | with_reducible refine W_seq ?_ | with_reducible refine then_n ?_ | with_reducible refine block_n ?_)
   refine W_cond _ (rfl : _ = Value.bool (decide (jh < (a0.length : Int)))) (fun hb => ?_) (fun hb => ?_)
   rotate_left
   ·have hr := ite_f hb hr; refine W_exit ?_; (repeat (with_reducible refine then_x ?_)); refine block_here ?_; exact then_n ⟨s, rfl, hE, Or.inr ⟨vs, out, (Option.some.inj hr).symm, hA, hlo, jn⟩⟩
   have hr := ite_t hb hr
   refine W_skip ?_
   repeat (first | with_reducible refine W_seq ?_ | with_reducible refine then_n ?_ | with_reducible refine block_n ?_)
   refine W_block ?_
   repeat (first | with_reducible refine W_seq ?_ | with_reducible refine then_n ?_ | with_reducible refine block_n ?_)
   refine W_region ?_
   obtain ⟨y, hy, hr⟩ := bind_some hr
   refine mv jl (L_index Try.underlying29 ty59.inf jo (h0.mono hE.le) jl hy (by decide) (fun py hpy => L_load ty59 (rfl : _ = py) hpy (by decide) (fun vy hvy => L_var ty3 zero3 (by decide) (rfl : _ = Value.int .i64 jh) Vint (by decide) (fun jq jr js jt => ?_))))
   have ju := Tch.ext hE js
   have jv := hA.ext js
   refine asg (rfl : _ = vy) (L_nil ?_)
   repeat (first | with_reducible refine W_seq ?_ | with_reducible refine then_n ?_ | with_reducible refine block_n ?_)
   refine W_region (mv (rfl : _ = vy) (L_len Try.underlying59 (rfl : _ = vy) (hvy.mono js.le) (by decide) (mv (rfl : _ = Value.int .i64 (0)) (L_nil ?_))))
   repeat (first | with_reducible refine W_seq ?_ | with_reducible refine then_n ?_ | with_reducible refine block_n ?_)
   obtain ⟨jw, jx, jy⟩ := bind_some hr
   refine W_cut (fun f w => ∃ (s : St) (vs : List Value) (out : List (List Deed)), s.w = w ∧ Ext s0 s ∧ jw = some out ∧ ArrB s s0.w.heap.size 59 64 bA vs out ∧ out.length = a0.length ∧ f 24 = Value.int .i64 jh ∧ f 0 = w0 ∧ f 6 = Value.slice (some ⟨bA, 0, none⟩) a0.length a0.length ∧ f 22 = w0 ∧ f 23 = Value.int .i64 (a0.length : Int)) ?_ ?_
   rotate_left
   ·rintro jz k0 ⟨s, vs, out, rfl, hE, jx, hA, hlo, jl, jm, jn, jo, jp⟩; subst jx; have hr := jy; dsimp only at hr; obtain ⟨hc, hr⟩ := chk_some hr; (repeat (first | with_reducible refine W_seq ?_ | with_reducible refine then_n ?_ | with_reducible refine block_n ?_)); exact W_region (L_add jl (rfl : _ = Value.int .i64 (1)) hc (by decide) (mv (rfl : _ = Value.int .i64 (jh + 1)) (nn ⟨ji, Nat.lt_succ_self _, ⟨s, jh + 1, vs, out, rfl, hE, hr, hA, hlo, rfl, jm, jn, jo, jp⟩⟩)))
   refine W_block (W_loop (fun m f w => ∃ (s : St) (jz : Int) (vs : List Value) (out : List (List Deed)), s.w = w ∧ Ext s0 s ∧ dead_Narrow_l2 N a0 jh y m jz out = some jw ∧ ArrB s s0.w.heap.size 59 64 bA vs out ∧ out.length = a0.length ∧ Ptr s jr jh ∧ V s vy y ∧ f 31 = Value.int .i64 jz ∧ f 29 = vy ∧ f 30 = Value.int .i64 (y.length : Int) ∧ f 7 = jr ∧ f 24 = Value.int .i64 jh ∧ f 0 = w0 ∧ f 6 = Value.slice (some ⟨bA, 0, none⟩) a0.length a0.length ∧ f 22 = w0 ∧ f 23 = Value.int .i64 (a0.length : Int)) N ⟨jq, 0, vs, out, rfl, ju, jx, jv, hlo, jt, hvy.mono js.le, rfl, rfl, rfl, rfl, jl, jm, jn, jo, jp⟩ ?_)
   clear hr hA hE jv ju jt hvy jl jm jn jo jp hlo
   rintro k0 jj jk ⟨s, jz, vs, out, rfl, hE, hr, hA, hlo, jt, hvy, k1, k2, k3, k4, jl, jm, jn, jo, jp⟩
   cases k0 with
   | zero => exact absurd hr (by simp [dead_Narrow_l2])
   | succ k0 =>
    rw [dead_Narrow_l2.eq_2] at hr
    refine sr (L_lss k1 k3 (by decide) (L_nil ?_))
    repeat (first | with_reducible refine W_seq ?_ | with_reducible refine then_n ?_ | with_reducible refine block_n ?_)
    refine W_cond _ (rfl : _ = Value.bool (decide (jz < (y.length : Int)))) (fun hb => ?_) (fun hb => ?_)
    rotate_left
    ·have hr := ite_f hb hr; refine W_exit ?_; (repeat (with_reducible refine then_x ?_)); refine block_here ?_; exact then_n ⟨s, vs, out, rfl, hE, (Option.some.inj hr).symm, hA, hlo, jl, jm, jn, jo, jp⟩
    have hr := ite_t hb hr
    refine W_skip ?_
    repeat (first | with_reducible refine W_seq ?_ | with_reducible refine then_n ?_ | with_reducible refine block_n ?_)
    refine W_block ?_
    repeat (first | with_reducible refine W_seq ?_ | with_reducible refine then_n ?_ | with_reducible refine block_n ?_)
    refine W_region ?_
    obtain ⟨dd, hdd, hr⟩ := bind_some hr
    refine L_index Try.underlying59 ty64.inf k2 hvy k1 hdd (by decide) (fun pd hpd => L_load ty64 (rfl : _ = pd) hpd (by decide) (fun vd hvd => L_alloc (α := Deed) (x := ⟨0, 0, 0, 0, false⟩) zero64 Deed.zero_rel (by decide) (fun k5 k6 k7 k8 k9 => ?_)))
    have ka := Tch.ext hE k7
    have kb := hA.ext k7
    have hown : ∀ k, ownB bA vs k → ¬ k = k6 := fun k hk e => by have := (hA.lt hk).2; omega
    refine L_store ty64 (rfl : _ = Value.pointer (some ⟨k6, 0, none⟩)) (rfl : _ = vd) (hvd.mono k7.le) k9 (fun kc j5 kd => ?_)
    have hb10' : s0.w.heap.size ≤ k6 := Nat.le_trans hE.size k8
    have ke := Tch.trans ka j5 (fun k hk => Or.inr (by subst hk; exact hb10'))
    have kf := kb.tch j5 hown
    have kg := jt.mono (k7.le.trans j5.le)
    have kh := hvy.mono (k7.le.trans j5.le)
    refine L_nil ?_
    repeat (first | with_reducible refine W_seq ?_ | with_reducible refine then_n ?_ | with_reducible refine block_n ?_)
    refine W_region (L_load_var ty64 (rfl : _ = Value.pointer (some ⟨k6, 0, none⟩)) kd (by decide) (fun ki kj => ?_))
    obtain ⟨oo, hoo, hr⟩ := bind_some hr
    refine L_calls cal37 (args1 (rfl : _ = ki)) (dead_open_ok N _ _ _ kj oo hoo) (by decide) (fun kk kl km j6 => ?_)
    obtain rfl := j6.bool
    have kn := Tch.ext ke km
    have ko := kf.ext km
    have kp := kd.ext km
    have kq := kg.mono km.le
    have kr := kh.mono km.le
    clear hE hA jt hvy ka kb ke kf k9 kd hvd kg kh
    refine L_not (rfl : _ = Value.bool (oo)) (by decide) (L_nil ?_)
    repeat (first | with_reducible refine W_seq ?_ | with_reducible refine then_n ?_ | with_reducible refine block_n ?_)
    refine W_cond _ (rfl : _ = Value.bool (!oo)) (fun ks => ?_) (fun ks => ?_)
    ·have hr := ite_t ks hr
     obtain ⟨j4, kt, ku, kv⟩ := kp.freeze
     have hE := Tch.trans kn ku (fun k hk => Or.inr (by subst hk; exact hb10'))
     have hA := ko.tch ku hown
     have jt := kq.mono ku.le
     have hvy := kr.mono ku.le
     rw [← kt]
     repeat (first | with_reducible refine W_seq ?_ | with_reducible refine then_n ?_ | with_reducible refine block_n ?_)
     obtain ⟨z, hz, hr⟩ := bind_some hr
     obtain ⟨hc, hr⟩ := chk_some hr
     obtain ⟨kw, hjl, hze⟩ := idx_some hz
     have hjv : jh.toNat < vs.length := by rw [hA.len]; omega
     obtain ⟨kx, ky⟩ : ∃ kx, vs[jh.toNat]? = some kx := ⟨_, List.getElem?_eq_getElem hjv⟩
     refine W_drawP mixed 11 [PX.eq (Value.slice (some ⟨bA, 0, none⟩) a0.length a0.length), PX.eq (Value.int .i64 jh), PX.eq (Value.slice (some ⟨bA, 0, none⟩) a0.length a0.length), PX.eq (Value.int .i64 jh), PX.eq (Value.pointer (some ⟨bA, jh.toNat * 1, none⟩)), PX.eq kx, PX.data (dd : Deed), PX.data [(dd : Deed)], PX.arrh s0.w.heap.size 59 64 bA vs out jh.toNat hjv (z ++ [(dd : Deed)]), PX.eq (Value.pointer (some ⟨bA, jh.toNat * 1, none⟩)), PX.arrc s0.w.heap.size 59 64 bA vs (out.set jh.toNat (z ++ [(dd : Deed)])) jh.toNat, PX.arrb s0.w.heap.size 59 64 bA vs out] [38, 39, 40, 41, 42, 43, 44, 45, 46, 47, 46, 6] [[], [], [], [], [], [], [], [], [11], [], [8]] rfl (by kernel_rfl) (ent1 rfl hA) (dis1 rfl) (StepsX_cons ?_ (StepsX_cons ?_ (StepsX_cons ?_ (StepsX_cons ?_ (StepsX_cons ?_ (StepsX_cons ?_ (StepsX_cons ?_ (StepsX_cons ?_ (StepsX_cons ?_ (StepsX_cons ?_ (StepsX_cons ?_ StepsX_nil))))))))))) ?_
     ·intro f' s' hT hX hB Q hk; have ha : f' 6 = Value.slice (some ⟨bA, 0, none⟩) a0.length a0.length := (hB 6 (by kernel_rfl)).trans jn; exact mv ha (L_nil (hk _ _ No (Ext.refl s') (fun _ h => h.elim) rfl (fun _ h => h.elim)))
     ·intro f' s' hT hX hB Q hk; have ha : f' 7 = jr := (hB 7 (by kernel_rfl)).trans k4; exact li ty3 ha (jt.mono hT.le) (L_nil (hk _ _ No (Ext.refl s') (fun _ h => h.elim) rfl (fun _ h => h.elim)))
     ·intro f' s' hT hX hB Q hk; have ha : f' 6 = Value.slice (some ⟨bA, 0, none⟩) a0.length a0.length := (hB 6 (by kernel_rfl)).trans jn; exact mv ha (L_nil (hk _ _ No (Ext.refl s') (fun _ h => h.elim) rfl (fun _ h => h.elim)))
     ·intro f' s' hT hX hB Q hk; have ha : f' 7 = jr := (hB 7 (by kernel_rfl)).trans k4; exact li ty3 ha (jt.mono hT.le) (L_nil (hk _ _ No (Ext.refl s') (fun _ h => h.elim) rfl (fun _ h => h.elim)))
     ·intro f' s' hT hX hB Q hk; have ha : f' 40 = Value.slice (some ⟨bA, 0, none⟩) a0.length a0.length := hX 2 (by kernel_rfl) (by show _ < 12; decide); have hb : f' 41 = Value.int .i64 jh := hX 3 (by kernel_rfl) (by show _ < 12; decide); exact L_indexA Try.underlying29 ty59.inf ha hb kw (by rw [← hlo]; omega) (by decide) (L_nil (hk _ _ No (Ext.refl s') (fun _ h => h.elim) rfl (fun _ h => h.elim)))
     ·intro f' s' hT hX hB Q hk; have ha : f' 42 = Value.pointer (some ⟨bA, jh.toNat * 1, none⟩) := hX 4 (by kernel_rfl) (by show _ < 12; decide); have hA' : ArrB s' s0.w.heap.size 59 64 bA vs out := hX 11 (by kernel_rfl) (by show _ < 12; decide); exact L_loadB ty59 (ha.trans (by rw [Nat.mul_one])) hA' ky (by decide) (L_nil (hk _ _ No (Ext.refl s') (fun _ h => h.elim) rfl (fun _ h => h.elim)))
     ·intro f' s' hT hX hB Q hk; have ha : f' 10 = Value.pointer (some ⟨k6, 0, none⟩) := (hB 10 (by kernel_rfl)).trans rfl; exact L_load ty64 ha (kv.mono hT.le) (by decide) (fun v hv => L_nil (hk _ _ No (Ext.refl s') (fun _ h => h.elim) hv (fun _ h => h.elim)))
     ·intro f' s' hT hX hB Q hk; obtain ⟨vd, qd, hvd⟩ : ∃ v, f' 44 = v ∧ V s' v (dd : Deed) := ⟨_, rfl, hX 6 (by kernel_rfl) (by show _ < 12; decide)⟩; exact L_buildSlice (xs := [(dd : Deed)]) Try.underlying59 tyz64 (Parts_cons rfl qd Parts_nil) (Vs.cons hvd Vs.nil) rfl (by decide) (by decide) (fun jq v js ks kz => L_nil (hk _ _ No (Tch.ext (Ext.refl s') js) (fun _ h => h.elim) kz (fun _ h => h.elim)))
     ·intro f' s' hT hX hB Q hk
      have ha : f' 43 = kx := hX 5 (by kernel_rfl) (by show _ < 12; decide)
      obtain ⟨vd, qd, hvd⟩ : ∃ v, f' 45 = v ∧ V s' v [(dd : Deed)] := ⟨_, rfl, hX 7 (by kernel_rfl) (by show _ < 12; decide)⟩
      have hA' : ArrB s' s0.w.heap.size 59 64 bA vs out := hX 11 (by kernel_rfl) (by show _ < 12; decide)
      refine L_append (xs := z) (B := s0.w.heap.size) Try.underlying59 tyz64 ha qd (hA'.bld jh.toNat kx z ky hze) (Nat.le_trans hE.size hT.size) hvd hc.1 hc.2 (by decide) (fun v jq kz => ?_)
      refine L_nil (hk _ _ _ kz.tch (fun k h => ⟨11, (List.mem_singleton.2 rfl : (11 : Nat) ∈ [11]), Or.inr ⟨jh.toNat, kx, ky, h⟩⟩) (hA'.grow ky hze kz) ?_)
      rintro k (rfl | ⟨i, u, hu, hk'⟩)
      ·exact Or.inl ⟨11, (List.mem_singleton.2 rfl : (11 : Nat) ∈ [11]), Or.inl rfl⟩
      ·rcases set_get hu with ⟨rfl, rfl⟩ | ⟨hi, hu⟩
       ·exact (kz.own k hk').imp (fun h => ⟨11, (List.mem_singleton.2 rfl : (11 : Nat) ∈ [11]), Or.inr ⟨_, kx, ky, h⟩⟩) (fun h => h)
       ·exact Or.inl ⟨11, (List.mem_singleton.2 rfl : (11 : Nat) ∈ [11]), Or.inr ⟨i, u, hu, hk'⟩⟩
     ·intro f' s' hT hX hB Q hk; have ha : f' 38 = Value.slice (some ⟨bA, 0, none⟩) a0.length a0.length := hX 0 (by kernel_rfl) (by show _ < 12; decide); have hb : f' 39 = Value.int .i64 jh := hX 1 (by kernel_rfl) (by show _ < 12; decide); exact L_indexA Try.underlying29 ty59.inf ha hb kw (by rw [← hlo]; omega) (by decide) (L_nil (hk _ _ No (Ext.refl s') (fun _ h => h.elim) rfl (fun _ h => h.elim)))
     ·intro f' s' hT hX hB Q hk; have ha : f' 47 = Value.pointer (some ⟨bA, jh.toNat * 1, none⟩) := hX 9 (by kernel_rfl) (by show _ < 12; decide); obtain ⟨v, qv, hH⟩ : ∃ v, f' 46 = v ∧ ArrH s' s0.w.heap.size 59 64 bA vs out jh.toNat v (z ++ [(dd : Deed)]) := ⟨_, rfl, hX 8 (by kernel_rfl) (by show _ < 12; decide)⟩; exact L_storeB ty59 (ha.trans (by rw [Nat.mul_one])) qv hH hjv (fun jq kz jv => L_nil (hk (.int .i64 0) jq _ kz (fun k h => ⟨8, (List.mem_singleton.2 rfl : (8 : Nat) ∈ [8]), Or.inl h⟩) (by show ArrB jq _ _ _ _ (vs.set jh.toNat (f' 46)) _; rw [qv]; exact jv) (fun k h => Or.inl ⟨8, (List.mem_singleton.2 rfl : (8 : Nat) ∈ [8]), h⟩)))
     intro f' s' hT hX _ hB
     have hA' : ArrB s' s0.w.heap.size 59 64 bA (vs.set jh.toNat (f' 46)) (out.set jh.toNat (z ++ [(dd : Deed)])) := hX 10 (by show _ < 12; decide) (by kernel_rfl)
     have hE' : Ext s0 s' := Tch.trans hE hT (fun k hk => Or.inr ((hA.lt (ent_is rfl rfl hk)).1))
     repeat (first | with_reducible refine W_seq ?_ | with_reducible refine then_n ?_ | with_reducible refine block_n ?_)
     obtain ⟨kz, hr⟩ := chk_some hr
     first | refine W_exit ?_ | skip
     repeat (first | with_reducible refine then_x ?_ | with_reducible refine block_here ?_ | with_reducible refine then_n ?_)
     exact W_region (L_add ((hB 31 (by kernel_rfl)).trans k1) (rfl : _ = Value.int .i64 (1)) kz (by decide) (mv (rfl : _ = Value.int .i64 (jz + 1)) (nn ⟨k0, Nat.lt_succ_self _, ⟨s', jz + 1, _, _, rfl, hE', hr, hA', by simp [hlo], jt.mono hT.le, hvy.mono hT.le, rfl, (hB 29 (by kernel_rfl)).trans k2, (hB 30 (by kernel_rfl)).trans k3, (hB 7 (by kernel_rfl)).trans k4, (hB 24 (by kernel_rfl)).trans jl, (hB 0 (by kernel_rfl)).trans jm, (hB 6 (by kernel_rfl)).trans jn, (hB 22 (by kernel_rfl)).trans jo, (hB 23 (by kernel_rfl)).trans jp⟩⟩)))
    ·have hr := ite_f ks hr
     refine W_skip ?_
     repeat (first | with_reducible refine W_seq ?_ | with_reducible refine then_n ?_ | with_reducible refine block_n ?_)
     refine W_region (asg (rfl : _ = Value.int .i64 (-1)) (L_nil ?_))
     repeat (first | with_reducible refine W_seq ?_ | with_reducible refine then_n ?_ | with_reducible refine block_n ?_)
     refine W_region (mv jm (L_len Try.underlying29 (rfl : _ = w0) (h0.mono kn.le) (by decide) (mv (rfl : _ = Value.int .i64 (0)) (L_nil ?_))))
     repeat (first | with_reducible refine W_seq ?_ | with_reducible refine then_n ?_ | with_reducible refine block_n ?_)
     obtain ⟨kt, ku, kv⟩ := bind_some hr
     refine W_cut (fun f w => ∃ (s : St) (fr : Int), s.w = w ∧ Ext s0 s ∧ kt = some fr ∧ ArrB s s0.w.heap.size 59 64 bA vs out ∧ Var s k6 64 dd ∧ Ptr s jr jh ∧ V s vy y ∧ f 11 = Value.int .i64 fr ∧ f 10 = Value.pointer (some ⟨k6, 0, none⟩) ∧ f 31 = Value.int .i64 jz ∧ f 29 = vy ∧ f 30 = Value.int .i64 (y.length : Int) ∧ f 7 = jr ∧ f 24 = Value.int .i64 jh ∧ f 0 = w0 ∧ f 6 = Value.slice (some ⟨bA, 0, none⟩) a0.length a0.length ∧ f 22 = w0 ∧ f 23 = Value.int .i64 (a0.length : Int)) ?_ ?_
     rotate_left
     ·rintro kw kx ⟨s, fr, rfl, hE, ku, hA, hx, jt, hvy, ky, kz, k1, k2, k3, k4, jl, jm, jn, jo, jp⟩
      subst ku
      have hr := kv
      dsimp only at hr
      repeat (first | with_reducible refine W_seq ?_ | with_reducible refine then_n ?_ | with_reducible refine block_n ?_)
      refine W_region (mv ky (L_max (rfl : _ = Value.int .i64 (0)) (rfl : _ = Value.int .i64 (fr)) (by decide) (L_fieldAddr_var fld64_1 kz (by decide) (L_store_field ty3 Deed.set_Peer (rfl : _ = Value.pointer (some ⟨k6, 1, none⟩)) (rfl : _ = Value.int .i64 (max 0 fr)) Vint hx (fun j4 g1 g3 => ?_)))))
      have g4 := Tch.trans hE g1 (fun k hk => Or.inr (by subst hk; exact hb10'))
      have g5 := hA.tch g1 hown
      have g8 := jt.mono g1.le
      have g9 := hvy.mono g1.le
      clear hE hA jt hvy hx
      refine L_nil ?_
      repeat (first | with_reducible refine W_seq ?_ | with_reducible refine then_n ?_ | with_reducible refine block_n ?_)
      obtain ⟨ga, gb, gc, gd⟩ := g3.freeze
      have hE := Tch.trans g4 gc (fun k hk => Or.inr (by subst hk; exact hb10'))
      have hA := g5.tch gc hown
      have jt := g8.mono gc.le
      have hvy := g9.mono gc.le
      rw [← gb]
      obtain ⟨z, hz, hr⟩ := bind_some hr
      obtain ⟨hc, hr⟩ := chk_some hr
      obtain ⟨gg, hjl, hze⟩ := idx_some hz
      have hjv : jh.toNat < vs.length := by rw [hA.len]; omega
      obtain ⟨gh, gi⟩ : ∃ gh, vs[jh.toNat]? = some gh := ⟨_, List.getElem?_eq_getElem hjv⟩
      refine W_drawP mixed 11 [PX.eq (Value.slice (some ⟨bA, 0, none⟩) a0.length a0.length), PX.eq (Value.int .i64 jh), PX.eq (Value.slice (some ⟨bA, 0, none⟩) a0.length a0.length), PX.eq (Value.int .i64 jh), PX.eq (Value.pointer (some ⟨bA, jh.toNat * 1, none⟩)), PX.eq gh, PX.data (Deed.with_Peer dd (max 0 fr) : Deed), PX.data [(Deed.with_Peer dd (max 0 fr) : Deed)], PX.arrh s0.w.heap.size 59 64 bA vs out jh.toNat hjv (z ++ [(Deed.with_Peer dd (max 0 fr) : Deed)]), PX.eq (Value.pointer (some ⟨bA, jh.toNat * 1, none⟩)), PX.arrc s0.w.heap.size 59 64 bA vs (out.set jh.toNat (z ++ [(Deed.with_Peer dd (max 0 fr) : Deed)])) jh.toNat, PX.arrb s0.w.heap.size 59 64 bA vs out] [66, 67, 68, 69, 70, 71, 72, 73, 74, 75, 74, 6] [[], [], [], [], [], [], [], [], [11], [], [8]] rfl (by kernel_rfl) (ent1 rfl hA) (dis1 rfl) (StepsX_cons ?_ (StepsX_cons ?_ (StepsX_cons ?_ (StepsX_cons ?_ (StepsX_cons ?_ (StepsX_cons ?_ (StepsX_cons ?_ (StepsX_cons ?_ (StepsX_cons ?_ (StepsX_cons ?_ (StepsX_cons ?_ StepsX_nil))))))))))) ?_
      ·intro f' s' hT hX hB Q hk; have ha : f' 6 = Value.slice (some ⟨bA, 0, none⟩) a0.length a0.length := (hB 6 (by kernel_rfl)).trans jn; exact mv ha (L_nil (hk _ _ No (Ext.refl s') (fun _ h => h.elim) rfl (fun _ h => h.elim)))
      ·intro f' s' hT hX hB Q hk; have ha : f' 7 = jr := (hB 7 (by kernel_rfl)).trans k4; exact li ty3 ha (jt.mono hT.le) (L_nil (hk _ _ No (Ext.refl s') (fun _ h => h.elim) rfl (fun _ h => h.elim)))
      ·intro f' s' hT hX hB Q hk; have ha : f' 6 = Value.slice (some ⟨bA, 0, none⟩) a0.length a0.length := (hB 6 (by kernel_rfl)).trans jn; exact mv ha (L_nil (hk _ _ No (Ext.refl s') (fun _ h => h.elim) rfl (fun _ h => h.elim)))
      ·intro f' s' hT hX hB Q hk; have ha : f' 7 = jr := (hB 7 (by kernel_rfl)).trans k4; exact li ty3 ha (jt.mono hT.le) (L_nil (hk _ _ No (Ext.refl s') (fun _ h => h.elim) rfl (fun _ h => h.elim)))
      ·intro f' s' hT hX hB Q hk; have ha : f' 68 = Value.slice (some ⟨bA, 0, none⟩) a0.length a0.length := hX 2 (by kernel_rfl) (by show _ < 12; decide); have hb : f' 69 = Value.int .i64 jh := hX 3 (by kernel_rfl) (by show _ < 12; decide); exact L_indexA Try.underlying29 ty59.inf ha hb gg (by rw [← hlo]; omega) (by decide) (L_nil (hk _ _ No (Ext.refl s') (fun _ h => h.elim) rfl (fun _ h => h.elim)))
      ·intro f' s' hT hX hB Q hk; have ha : f' 70 = Value.pointer (some ⟨bA, jh.toNat * 1, none⟩) := hX 4 (by kernel_rfl) (by show _ < 12; decide); have hA' : ArrB s' s0.w.heap.size 59 64 bA vs out := hX 11 (by kernel_rfl) (by show _ < 12; decide); exact L_loadB ty59 (ha.trans (by rw [Nat.mul_one])) hA' gi (by decide) (L_nil (hk _ _ No (Ext.refl s') (fun _ h => h.elim) rfl (fun _ h => h.elim)))
      ·intro f' s' hT hX hB Q hk; have ha : f' 10 = Value.pointer (some ⟨k6, 0, none⟩) := (hB 10 (by kernel_rfl)).trans kz; exact L_load ty64 ha (gd.mono hT.le) (by decide) (fun v hv => L_nil (hk _ _ No (Ext.refl s') (fun _ h => h.elim) hv (fun _ h => h.elim)))
      ·intro f' s' hT hX hB Q hk; obtain ⟨vd, qd, hvd⟩ : ∃ v, f' 72 = v ∧ V s' v (Deed.with_Peer dd (max 0 fr) : Deed) := ⟨_, rfl, hX 6 (by kernel_rfl) (by show _ < 12; decide)⟩; exact L_buildSlice (xs := [(Deed.with_Peer dd (max 0 fr) : Deed)]) Try.underlying59 tyz64 (Parts_cons rfl qd Parts_nil) (Vs.cons hvd Vs.nil) rfl (by decide) (by decide) (fun jq v js ks gj => L_nil (hk _ _ No (Tch.ext (Ext.refl s') js) (fun _ h => h.elim) gj (fun _ h => h.elim)))
      ·intro f' s' hT hX hB Q hk
       have ha : f' 71 = gh := hX 5 (by kernel_rfl) (by show _ < 12; decide)
       obtain ⟨vd, qd, hvd⟩ : ∃ v, f' 73 = v ∧ V s' v [(Deed.with_Peer dd (max 0 fr) : Deed)] := ⟨_, rfl, hX 7 (by kernel_rfl) (by show _ < 12; decide)⟩
       have hA' : ArrB s' s0.w.heap.size 59 64 bA vs out := hX 11 (by kernel_rfl) (by show _ < 12; decide)
       refine L_append (xs := z) (B := s0.w.heap.size) Try.underlying59 tyz64 ha qd (hA'.bld jh.toNat gh z gi hze) (Nat.le_trans hE.size hT.size) hvd hc.1 hc.2 (by decide) (fun v jq gj => ?_)
       refine L_nil (hk _ _ _ gj.tch (fun k h => ⟨11, (List.mem_singleton.2 rfl : (11 : Nat) ∈ [11]), Or.inr ⟨jh.toNat, gh, gi, h⟩⟩) (hA'.grow gi hze gj) ?_)
       rintro k (rfl | ⟨i, u, hu, hk'⟩)
       ·exact Or.inl ⟨11, (List.mem_singleton.2 rfl : (11 : Nat) ∈ [11]), Or.inl rfl⟩
       ·rcases set_get hu with ⟨rfl, rfl⟩ | ⟨hi, hu⟩
        ·exact (gj.own k hk').imp (fun h => ⟨11, (List.mem_singleton.2 rfl : (11 : Nat) ∈ [11]), Or.inr ⟨_, gh, gi, h⟩⟩) (fun h => h)
        ·exact Or.inl ⟨11, (List.mem_singleton.2 rfl : (11 : Nat) ∈ [11]), Or.inr ⟨i, u, hu, hk'⟩⟩
      ·intro f' s' hT hX hB Q hk; have ha : f' 66 = Value.slice (some ⟨bA, 0, none⟩) a0.length a0.length := hX 0 (by kernel_rfl) (by show _ < 12; decide); have hb : f' 67 = Value.int .i64 jh := hX 1 (by kernel_rfl) (by show _ < 12; decide); exact L_indexA Try.underlying29 ty59.inf ha hb gg (by rw [← hlo]; omega) (by decide) (L_nil (hk _ _ No (Ext.refl s') (fun _ h => h.elim) rfl (fun _ h => h.elim)))
      ·intro f' s' hT hX hB Q hk; have ha : f' 75 = Value.pointer (some ⟨bA, jh.toNat * 1, none⟩) := hX 9 (by kernel_rfl) (by show _ < 12; decide); obtain ⟨v, qv, hH⟩ : ∃ v, f' 74 = v ∧ ArrH s' s0.w.heap.size 59 64 bA vs out jh.toNat v (z ++ [(Deed.with_Peer dd (max 0 fr) : Deed)]) := ⟨_, rfl, hX 8 (by kernel_rfl) (by show _ < 12; decide)⟩; exact L_storeB ty59 (ha.trans (by rw [Nat.mul_one])) qv hH hjv (fun jq gj jv => L_nil (hk (.int .i64 0) jq _ gj (fun k h => ⟨8, (List.mem_singleton.2 rfl : (8 : Nat) ∈ [8]), Or.inl h⟩) (by show ArrB jq _ _ _ _ (vs.set jh.toNat (f' 74)) _; rw [qv]; exact jv) (fun k h => Or.inl ⟨8, (List.mem_singleton.2 rfl : (8 : Nat) ∈ [8]), h⟩)))
      intro f' s' hT hX _ hB
      have hA' : ArrB s' s0.w.heap.size 59 64 bA (vs.set jh.toNat (f' 74)) (out.set jh.toNat (z ++ [(Deed.with_Peer dd (max 0 fr) : Deed)])) := hX 10 (by show _ < 12; decide) (by kernel_rfl)
      have hE' : Ext s0 s' := Tch.trans hE hT (fun k hk => Or.inr ((hA.lt (ent_is rfl rfl hk)).1))
      obtain ⟨gj, hr⟩ := chk_some hr
      repeat (first | with_reducible refine W_seq ?_ | with_reducible refine then_n ?_ | with_reducible refine block_n ?_)
      exact W_region (L_add ((hB 31 (by kernel_rfl)).trans k1) (rfl : _ = Value.int .i64 (1)) gj (by decide) (mv (rfl : _ = Value.int .i64 (jz + 1)) (nn ⟨k0, Nat.lt_succ_self _, ⟨s', jz + 1, _, _, rfl, hE', hr, hA', by simp [hlo], jt.mono hT.le, hvy.mono hT.le, rfl, (hB 29 (by kernel_rfl)).trans k2, (hB 30 (by kernel_rfl)).trans k3, (hB 7 (by kernel_rfl)).trans k4, (hB 24 (by kernel_rfl)).trans jl, (hB 0 (by kernel_rfl)).trans jm, (hB 6 (by kernel_rfl)).trans jn, (hB 22 (by kernel_rfl)).trans jo, (hB 23 (by kernel_rfl)).trans jp⟩⟩)))
     refine W_block (W_loop (fun m f w => ∃ (s : St) (kw fr : Int), s.w = w ∧ Ext s0 s ∧ dead_Narrow_l3 N a0 jh dd m kw fr = some kt ∧ ArrB s s0.w.heap.size 59 64 bA vs out ∧ Var s k6 64 dd ∧ Ptr s jr jh ∧ V s vy y ∧ f 50 = Value.int .i64 kw ∧ f 48 = w0 ∧ f 49 = Value.int .i64 (a0.length : Int) ∧ f 11 = Value.int .i64 fr ∧ f 10 = Value.pointer (some ⟨k6, 0, none⟩) ∧ f 31 = Value.int .i64 jz ∧ f 29 = vy ∧ f 30 = Value.int .i64 (y.length : Int) ∧ f 7 = jr ∧ f 24 = Value.int .i64 jh ∧ f 0 = w0 ∧ f 6 = Value.slice (some ⟨bA, 0, none⟩) a0.length a0.length ∧ f 22 = w0 ∧ f 23 = Value.int .i64 (a0.length : Int)) N ⟨kl, 0, -1, rfl, kn, ku, ko, kp, kq, kr, rfl, rfl, rfl, rfl, rfl, k1, k2, k3, k4, jl, jm, jn, jo, jp⟩ ?_)
     clear hr ko kn kp kq kr k1 k2 k3 k4 jl jm jn jo jp
     rintro kx jj jk ⟨s, kw, fr, rfl, hE, hr, hA, hx, jt, hvy, ky, kz, g1, g3, g4, k1, k2, k3, k4, jl, jm, jn, jo, jp⟩
     cases kx with
     | zero => exact absurd hr (by simp [dead_Narrow_l3])
     | succ kx =>
      rw [dead_Narrow_l3.eq_2] at hr
      refine sr (L_lss ky g1 (by decide) (L_nil ?_))
      repeat (first | with_reducible refine W_seq ?_ | with_reducible refine then_n ?_ | with_reducible refine block_n ?_)
      refine W_cond _ (rfl : _ = Value.bool (decide (kw < (a0.length : Int)))) (fun hb => ?_) (fun hb => ?_)
      rotate_left
      ·have hr := ite_f hb hr; refine W_exit ?_; (repeat (with_reducible refine then_x ?_)); refine block_here ?_; exact then_n ⟨s, fr, rfl, hE, (Option.some.inj hr).symm, hA, hx, jt, hvy, g3, g4, k1, k2, k3, k4, jl, jm, jn, jo, jp⟩
      have hr := ite_t hb hr
      refine W_skip ?_
      repeat (first | with_reducible refine W_seq ?_ | with_reducible refine then_n ?_ | with_reducible refine block_n ?_)
      refine W_block ?_
      repeat (first | with_reducible refine W_seq ?_ | with_reducible refine then_n ?_ | with_reducible refine block_n ?_)
      refine W_region (mv ky ?_)
      obtain ⟨g5, g8, hr⟩ := bind_some hr
      refine L_index Try.underlying29 ty59.inf kz (h0.mono hE.le) ky g8 (by decide) (fun g9 ga => L_load ty59 (rfl : _ = g9) ga (by decide) (fun j3 gb => asg (rfl : _ = Value.int .i64 kw) (asg (rfl : _ = j3) (L_nil ?_))))
      repeat (first | with_reducible refine W_seq ?_ | with_reducible refine then_n ?_ | with_reducible refine block_n ?_)
      refine W_region (mv (rfl : _ = j3) (L_makeFunc (args2 k4 g4) (by decide) ?_))
      obtain ⟨bb, hbb, hr⟩ := bind_some hr
      obtain ⟨sz, ez, tz, fz⟩ := hx.freeze
      refine L_calls_fz cal38 (args2 (rfl : _ = j3) (rfl : _ = Value.func (.func 39) #[] #[jr, Value.pointer (some ⟨k6, 0, none⟩)])) ez tz (fun k hk => by have gc : k = k6 := hk; rw [gc]; exact hx.g) (slices_ContainsFunc_Llang_Deed_lang_Deed_ok N _ _ _ (gb.mono tz.le) _ (fun x => dead_Narrow_1 N x jh dd) (Fn1.mk2 cal39 fun s' vx x r hl hv hr => dead_Narrow_1_ok N s' vx x hv _ _ ((jt.mono tz.le).mono hl) _ _ (fz.mono hl) r hr) bb hbb) (by decide) ?_
      intro gd s4' kc gg j5 gh
      obtain rfl := gh.bool
      have ke := Tch.ext hE j5
      have kf := hA.ext j5
      have kd := hx.ext j5
      have kg := jt.mono j5.le
      have kh := hvy.mono j5.le
      refine L_not (rfl : _ = Value.bool (bb)) (by decide) (L_nil ?_)
      repeat (first | with_reducible refine W_seq ?_ | with_reducible refine then_n ?_ | with_reducible refine block_n ?_)
      refine W_cond _ (rfl : _ = Value.bool (!bb)) (fun gi => ?_) (fun gi => ?_)
      ·have hr := ite_t gi hr; obtain ⟨hc, hr⟩ := chk_some hr; refine W_exit ?_; (repeat (first | with_reducible refine then_x ?_ | with_reducible refine block_here ?_ | with_reducible refine then_n ?_)); exact W_region (L_add ky (rfl : _ = Value.int .i64 (1)) hc (by decide) (mv (rfl : _ = Value.int .i64 (kw + 1)) (nn ⟨kx, Nat.lt_succ_self _, ⟨kc, kw + 1, fr, rfl, ke, hr, kf, kd, kg, kh, rfl, kz, g1, g3, g4, k1, k2, k3, k4, jl, jm, jn, jo, jp⟩⟩)))
      have hr := ite_f gi hr
      refine W_skip ?_
      repeat (first | with_reducible refine W_seq ?_ | with_reducible refine then_n ?_ | with_reducible refine block_n ?_)
      refine W_region (mv g3 (L_geq (rfl : _ = Value.int .i64 fr) (rfl : _ = Value.int .i64 (0)) (by decide) (L_nil ?_)))
      repeat (first | with_reducible refine W_seq ?_ | with_reducible refine then_n ?_ | with_reducible refine block_n ?_)
      refine W_cond _ (rfl : _ = Value.bool (decide (0 ≤ fr))) (fun gj => ?_) (fun gj => ?_)
      ·have hr := ite_t gj hr; refine sr (asg (rfl : _ = Value.slice none 0 0) (L_nil ?_)); (repeat (first | with_reducible refine W_seq ?_ | with_reducible refine then_n ?_ | with_reducible refine block_n ?_)); refine W_exit ?_; obtain rfl := Option.some.inj hr; dsimp only at kv; obtain rfl := Option.some.inj kv; dsimp only at jy; obtain rfl := Option.some.inj jy; (repeat (first | with_reducible refine then_x ?_ | with_reducible refine block_here ?_ | with_reducible refine block_x (by decide) ?_)); exact then_n ⟨kc, rfl, ke, Or.inl ⟨rfl, rfl⟩⟩
      have hr := ite_f gj hr
      obtain ⟨hc, hr⟩ := chk_some hr
      refine W_skip ?_
      repeat (first | with_reducible refine W_seq ?_ | with_reducible refine then_n ?_ | with_reducible refine block_n ?_)
      refine W_region (mv (rfl : _ = Value.int .i64 kw) (asg (rfl : _ = Value.int .i64 kw) (L_nil ?_)))
      repeat (first | with_reducible refine W_seq ?_ | with_reducible refine then_n ?_ | with_reducible refine block_n ?_)
      exact W_region (L_add ky (rfl : _ = Value.int .i64 (1)) hc (by decide) (mv (rfl : _ = Value.int .i64 (kw + 1)) (nn ⟨kx, Nat.lt_succ_self _, ⟨kc, kw + 1, kw, rfl, ke, hr, kf, kd, kg, kh, rfl, kz, g1, rfl, g4, k1, k2, k3, k4, jl, jm, jn, jo, jp⟩⟩)))
 ·rintro jh ji ⟨s, rfl, hE, hh⟩
  repeat (first | with_reducible refine W_seq ?_ | with_reducible refine then_n ?_ | with_reducible refine block_n ?_)
  refine W_region ?_
  rcases hh with ⟨ho, jj⟩ | ⟨vs, out, ho, hA, hlo, jj⟩
  ·subst ho; dsimp only at hq; refine mv jj (mv jj (L_neqNil Try.underlying29 (rfl : _ = Value.slice none 0 0) (by decide) (asg (rfl : _ = Value.slice none 0 0) (asg (rfl : _ = Value.bool false) (asg (rfl : _ = Value.int .i64 (0)) (L_nil ?_)))))); (repeat (first | with_reducible refine W_seq ?_ | with_reducible refine then_n ?_ | with_reducible refine block_n ?_)); refine W_ret ?_; (repeat (with_reducible refine then_r ?_)); obtain rfl := Option.some.inj hq; exact done3 (Or.inl rfl) Try.results15 rfl rfl rfl ⟨_, _, rfl, rfl, hE, _, _, _, rfl, Vnil, Vbool, Vint⟩
  ·subst ho; dsimp only at hq; obtain rfl := Option.some.inj hq; refine mv jj (mv jj (L_neqNil Try.underlying29 (rfl : _ = Value.slice (some ⟨bA, 0, none⟩) a0.length a0.length) (by decide) (asg (rfl : _ = Value.slice (some ⟨bA, 0, none⟩) a0.length a0.length) (asg (rfl : _ = Value.bool true) (asg (rfl : _ = Value.int .i64 (0)) (L_nil ?_)))))); (repeat (first | with_reducible refine W_seq ?_ | with_reducible refine then_n ?_ | with_reducible refine block_n ?_)); refine W_ret ?_; (repeat (with_reducible refine then_r ?_)); obtain ⟨jk, jl, jm, jn⟩ := hA.toV; rw [hlo] at jn; exact done3 (Or.inl rfl) Try.results15 rfl rfl rfl ⟨_, jk, rfl, jl, Tch.trans hE jm (fun k hk => Or.inr (by subst hk; exact hA.low)), _, _, _, rfl, jn, Vbool, Vint⟩

theorem dead_run_finish_ok (N : Nat) (s0 : St) (w0 : Value) (bat : Nat) (a0 : Run) (h0 : Shell Run.with_at_ 2 s0 w0 bat (a0.at_).length a0) (hbat : Arr s0 bat 3 (a0.at_).length a0.at_) (r : (List Int) × (List Int)) (hr : dead_run_finish N a0 = some r) :
    Calls Try.prog 49 #[w0] s0.w (RetM (fun k => k = bat) s0 fun v s => V s v r.1 ∧ Arr s bat 3 (a0.at_).length r.2) := by
 unfold dead_run_finish at hr
 have j0 := Tch.refl (fun k => k = bat) s0
 refine Calls_of (n := 25) (args := [w0]) Try.func49 rfl rfl (by simp) (sr (asg (rfl : _ = Value.slice none 0 0) (nn (sr (asg (rfl : _ = Value.slice none 0 0) (nn (W_seq (sr (mv (rfl : _ = w0) ?_)))))))))
 obtain ⟨j1, j2, hr⟩ := bind_some hr
 obtain ⟨j3, j4, j5, j6⟩ := (hbat).freeze
 refine L_calls_fz cal33 (args1 (rfl : _ = w0)) j4 j5 (fun k hk => by have j7 : k = bat := hk; rw [j7]; exact (hbat).g) (dead_run_next_ok N _ _ _ ((h0.mono j5.le).ptr j6) j1 j2) (by decide) (fun j8 j9 ja jb jc jd => ?_)
 have je := Tch.ext j0 jc
 obtain rfl := jd.int
 refine asg (rfl : _ = Value.int .i64 (j1)) (nn ?_)
 obtain ⟨jf, jg, jh⟩ := bind_some hr
 refine W_cut (fun f w => ∃ (s : St) (ji : Value) (jj : List Int) (jk : List Int), s.w = w ∧ Tch (fun k => k = bat) s0 s ∧ Le ja s ∧ (jj, jk) = jf ∧ f 3 = ji ∧ Bld s s0.w.heap.size 3 ji jj ∧ Arr s bat 3 (a0.at_).length jk ∧ (∀ k, (own ji) k → ¬ (fun k => k = bat) k)) ?_ ?_
 ·refine W_block (W_loop (fun m f w => ∃ (s : St) (jl : Value) (jm : List Int) (jn : Int) (jo : List Int), s.w = w ∧ Tch (fun k => k = bat) s0 s ∧ Le ja s ∧ dead_run_finish_l1 N a0 m jm jn jo = some jf ∧ f 3 = jl ∧ Bld s s0.w.heap.size 3 jl jm ∧ f 4 = Value.int .i64 jn ∧ f 0 = w0 ∧ Arr s bat 3 (a0.at_).length jo ∧ (∀ k, (own jl) k → ¬ (fun k => k = bat) k)) N ⟨ja, (Value.slice none 0 0), ([]), j1, a0.at_, rfl, je, (Le.refl _), jg, rfl, Bld.nil, rfl, rfl, (hbat).ext jc, (fun k h => absurd h own_nil)⟩ ?_)
  rintro jp jq jr ⟨js, jl, jm, jn, jo, rfl, jt, ju, hr, jv, jw, jx, jy, jz, k0⟩
  cases jp with
  | zero => exact absurd hr (by simp [dead_run_finish_l1])
  | succ jp =>
   rw [dead_run_finish_l1.eq_2] at hr
   refine W_seq (sr (mv jx (L_geq (rfl : _ = Value.int .i64 (jn)) (rfl : _ = Value.int .i64 (0)) (by decide) (nn ?_))))
   refine W_cond _ (rfl : _ = Value.bool (decide (0 ≤ jn))) (fun k1 => ?_) (fun k1 => ?_)
   ·have hr := ite_t k1 hr
    refine W_skip (then_n (W_seq (W_block (sr (mv jy (L_nilCheck_shell (rfl : _ = w0) (h0.mono (jc.le.trans ju)) (by decide) (L_fieldAddr_shell fld72_2 (rfl : _ = w0) (h0.mono (jc.le.trans ju)) (by decide) (fun k2 k3 => L_load_cell Try.underlying23 rfl (rfl : _ = k2) k3 (by decide) (mv jx ?_)))))))))
    obtain ⟨k4, k5, hr⟩ := bind_some hr
    refine L_indexA (sz := 1) Try.underlying23 ty3.inf (rfl : _ = Value.slice (some ⟨bat, 0, none⟩) (a0.at_).length (a0.at_).length) (rfl : _ = Value.int .i64 (jn)) (idx_some k5).1 (by have := (idx_some k5).2.1; have := (jz).1; omega) (by decide) (L_loadA (xs := jo) ty3 (rfl : _ = Value.pointer (some ⟨bat, (jn).toNat * 1, none⟩)) (jz) k5 (by decide) (fun k6 k7 => ?_))
    obtain rfl := k7.int
    obtain ⟨k8, hr⟩ := chk_some hr
    refine L_add (rfl : _ = Value.int .i64 (k4)) (rfl : _ = Value.int .i64 (1)) k8 (by decide) ?_
    obtain ⟨k9, ka, hr⟩ := bind_some hr
    refine L_indexA (sz := 1) Try.underlying23 ty3.inf (rfl : _ = Value.slice (some ⟨bat, 0, none⟩) (a0.at_).length (a0.at_).length) (rfl : _ = Value.int .i64 (jn)) (idx_some ka).1 (by have := (idx_some ka).2.1; have := (jz).1; omega) (by decide) (L_storeA (xs := jo) ty3 (rfl : _ = Value.pointer (some ⟨bat, (jn).toNat * 1, none⟩)) (rfl : _ = Value.int .i64 (k4 + 1)) Vint (jz) ka (fun kb kc kd => ?_))
    have ke := Tch.trans jt kc (fun k hk => Or.inl hk)
    refine nn (W_region (mv jv (mv jx (L_buildSlice (xs := ([jn] : List Int)) Try.underlying23 tyz3 (Parts_cons rfl (rfl : _ = Value.int .i64 (jn)) Parts_nil) (Vs.cons Vint Vs.nil) rfl (by decide) (by decide) (fun kf kg kh ki kj => ?_)))))
    have kk := Tch.ext ke kh
    obtain ⟨kl, hr⟩ := chk_some hr
    refine L_append (xs := jm) (B := s0.w.heap.size) Try.underlying23 tyz3 (rfl : _ = jl) (rfl : _ = kg) (((jw).tch kc k0).ext kh) (kk.size) kj kl.1 kl.2 (by decide) (fun km kn ko => ?_)
    have kp := ko.tchM (((jw).tch kc k0).ext kh) kk (Nat.le_refl _)
    have kq : ∀ k, (fun k => k = bat) k → ¬ own km k := fun k kr ks => by rcases ko.own k ks with kt | kt; exact (fun k hk hm => k0 k hm hk) k kr kt; have ku := ((kd).ext kh).lt; subst kr; omega
    refine asg (rfl : _ = km) (L_nil (block_n (then_n (W_region (mv jy ?_)))))
    obtain ⟨kv, kw, hr⟩ := bind_some hr
    obtain ⟨kx, ky, kz, g0⟩ := (((kd).ext kh).tch ko.tch ((fun k hk hm => k0 k hm hk) bat rfl)).freeze
    refine L_calls_fz cal33 (args1 (rfl : _ = w0)) ky kz (fun k hk => by have j7 : k = bat := hk; rw [j7]; exact (((kd).ext kh).tch ko.tch ((fun k hk hm => k0 k hm hk) bat rfl)).g) (dead_run_next_ok N _ _ _ ((h0.mono (jc.le.trans (ju.trans (kc.le.trans (kh.le.trans (ko.tch.le.trans kz.le)))))).ptr g0) kv kw) (by decide) (fun g1 g2 g3 g4 g5 g6 => ?_)
    have g7 := Tch.ext kp g5
    obtain rfl := g6.int
    exact asg (rfl : _ = Value.int .i64 (kv)) (nn ⟨jp, Nat.lt_succ_self _, ⟨g3, km, (jm ++ ([jn] : List Int)), kv, (jo.set (jn).toNat (k4 + 1)), rfl, g7, (ju.trans (kc.le.trans (kh.le.trans (ko.tch.le.trans g5.le)))), hr, rfl, (ko.bld).ext g5, rfl, jy, (((kd).ext kh).tch ko.tch ((fun k hk hm => k0 k hm hk) bat rfl)).ext g5, (fun k hk hm => kq k hm hk)⟩⟩)
   ·have hr := ite_f k1 hr; refine W_exit (then_x (then_x (block_here ?_))); exact then_n ⟨js, jl, jm, jo, rfl, jt, ju, Option.some.inj hr, jv, jw, jz, k0⟩
 ·rintro jl jm ⟨jn, ji, jj, jk, rfl, jo, jp, jg, jq, jr, js, jt⟩; subst jg; have hr := jh; (try dsimp only at hr); refine then_n (sr (mv jq (asg (rfl : _ = ji) (nn (W_ret ?_))))); obtain rfl := Option.some.inj hr; exact done1 (Or.inl rfl) Try.results49 rfl ⟨_, _, rfl, rfl, jo, (jr).toV, js⟩

theorem dead_End_ok (N : Nat) (s0 : St) (w0 : Value) (a0 : List (List Deed)) (h0 : V s0 w0 a0) (a1 : Int) (r : (List Int) × Int) (hr : dead_End N a0 a1 = some r) :
    Calls Try.prog 30 #[w0, .int .i64 a1] s0.w (Ret s0 fun v s => ∃ a b, v = .tuple #[a, b] ∧ V s a r.1 ∧ V s b r.2) := by
 unfold dead_End at hr
 have j0 := Ext.refl s0
 refine Calls_of (n := 23) (args := [w0, .int .i64 a1]) Try.func30 rfl rfl (by simp) (sr (asg (rfl : _ = Value.slice none 0 0) (asg (rfl : _ = Value.int .i64 (0)) (nn (sr (mv (rfl : _ = w0) (mv (rfl : _ = Value.int .i64 (a1)) ?_)))))))
 obtain ⟨j1, j2, hr⟩ := bind_some hr
 refine L_calls cal31 (args2 (rfl : _ = w0) (rfl : _ = Value.int .i64 (a1))) (dead_newRun_ok N _ _ _ h0 a1 j1 j2) (by decide) (fun j3 j4 j5 j6 => ?_)
 have j7 := Tch.ext j0 j5
 obtain ⟨j8, j9, rfl, ja, jb⟩ := j6
 obtain rfl := jb.int
 refine mv (rfl : _ = Value.tuple #[j8, Value.int .i64 (j1.2)]) (L_extract (rfl : _ = Value.tuple #[j8, Value.int .i64 (j1.2)]) (k := 0) rfl (by decide) (L_extract (rfl : _ = Value.tuple #[j8, Value.int .i64 (j1.2)]) (k := 1) rfl (by decide) (asg (rfl : _ = j8) (asg (rfl : _ = Value.int .i64 (j1.2)) (nn (W_seq (sr (mv (rfl : _ = Value.int .i64 (j1.2)) (L_neq (rfl : _ = Value.int .i64 (j1.2)) (rfl : _ = Value.int .i64 (0)) (by decide) (nn ?_))))))))))
 refine W_cond _ (rfl : _ = Value.bool (!decide (j1.2 = 0))) (fun jc => ?_) (fun jc => ?_)
 ·have hr := ite_t jc hr; refine sr (mv (rfl : _ = Value.int .i64 (j1.2)) (asg (rfl : _ = Value.slice none 0 0) (asg (rfl : _ = Value.int .i64 (j1.2)) (nn (W_ret (then_r ?_)))))); obtain rfl := Option.some.inj hr; exact done2 (Or.inl rfl) Try.results30 rfl rfl ⟨_, _, rfl, rfl, j7, _, _, rfl, Vnil, Vint⟩
 ·have hr := ite_f jc hr; refine W_skip (then_n (sr (mv (rfl : _ = j8) ?_))); obtain ⟨jd, je, hr⟩ := bind_some hr; obtain ⟨jf, jg, jh, ji⟩ := ja.open je; obtain ⟨jj, jk, hr⟩ := bind_some hr; refine L_calls_mut cal49 (args1 (rfl : _ = j8)) (dead_run_finish_ok N _ _ jf (Run.with_at_ jd jd.at_) (jh.at (fun _ => rfl) (ji)) (ji).self jj jk) (by decide) ?_; rintro jl jm jn ⟨jo, jp⟩; have jq := Tch.trans j7 jn (fun k hk => Or.inr (by subst hk; exact (Nat.le_trans j0.size jg))); have jp := (ji).back jp; obtain ⟨jr, js, jt, ju⟩ := (jp).freeze; rw [← js]; have jv := Tch.trans jq jt (fun k hk => Or.inr (by subst hk; exact (Nat.le_trans j0.size jg))); refine nn (sr (mv (rfl : _ = j8) (L_nilCheck_ptr (rfl : _ = j8) ((jh.mono (jn.le.trans jt.le)).ptr ju) (by decide) (L_fieldAddr fld72_2 Run.of_at_ (rfl : _ = j8) ((jh.mono (jn.le.trans jt.le)).ptr ju) (by decide) (fun jw jx => L_load ty23 (rfl : _ = jw) jx (by decide) (fun jy jz => asg (rfl : _ = jy) (asg (rfl : _ = Value.int .i64 (0)) (nn (W_ret ?_))))))))); obtain rfl := Option.some.inj hr; exact done2 (Or.inl rfl) Try.results30 rfl rfl ⟨_, _, rfl, rfl, jv, _, _, rfl, jz, Vint⟩

theorem dead_comes_ok (N : Nat) (s0 : St) (w0 : Value) (a0 : List (List Deed)) (h0 : V s0 w0 a0) (a1 : Int) (r : Bool) (hr : dead_comes N a0 a1 = some r) :
    Calls Try.prog 47 #[w0, .int .i64 a1] s0.w (Ret s0 fun v s => V s v r) := by
 unfold dead_comes at hr
 have j0 := Ext.refl s0
 refine Calls_of (n := 30) (args := [w0, .int .i64 a1]) Try.func47 rfl rfl (by simp) (sr (asg (rfl : _ = Value.bool (false)) (nn (sr (mv (rfl : _ = w0) (mv (rfl : _ = Value.int .i64 (a1)) ?_))))))
 obtain ⟨j1, j2, hr⟩ := bind_some hr
 refine L_calls cal30 (args2 (rfl : _ = w0) (rfl : _ = Value.int .i64 (a1))) (dead_End_ok N _ _ _ h0 a1 j1 j2) (by decide) (fun j3 j4 j5 j6 => ?_)
 have j7 := Tch.ext j0 j5
 obtain ⟨j8, j9, rfl, ja, jb⟩ := j6
 obtain rfl := jb.int
 refine mv (rfl : _ = Value.tuple #[j8, Value.int .i64 (j1.2)]) (L_extract (rfl : _ = Value.tuple #[j8, Value.int .i64 (j1.2)]) (k := 0) rfl (by decide) (L_extract (rfl : _ = Value.tuple #[j8, Value.int .i64 (j1.2)]) (k := 1) rfl (by decide) (asg (rfl : _ = j8) (asg (rfl : _ = Value.int .i64 (j1.2)) (nn (W_seq (sr (mv (rfl : _ = j8) (L_len Try.underlying23 (rfl : _ = j8) ja (by decide) (mv (rfl : _ = Value.int .i64 (0)) (nn ?_)))))))))))
 obtain ⟨jc, jd, je⟩ := bind_some hr
 refine W_cut (fun f w => ∃ (s : St), s.w = w ∧ Ext s0 s ∧ Le j4 s ∧ Sum.inl () = jc) ?_ ?_
 ·refine W_block (W_loop (fun m f w => ∃ (s : St) (jf : Int), s.w = w ∧ Ext s0 s ∧ Le j4 s ∧ dead_comes_l1 N a0 j1 m jf = some jc ∧ f 17 = Value.int .i64 jf ∧ f 0 = w0 ∧ f 15 = j8 ∧ f 16 = Value.int .i64 ((j1.1.length : Int))) N ⟨j4, 0, rfl, j7, (Le.refl _), jd, rfl, rfl, rfl, rfl⟩ ?_)
  rintro jg jh ji ⟨jj, jf, rfl, jk, jl, hr, jm, jn, jo, jp⟩
  cases jg with
  | zero => exact absurd hr (by simp [dead_comes_l1])
  | succ jg =>
   rw [dead_comes_l1.eq_2] at hr
   refine sr (L_lss jm jp (by decide) (nn (W_seq ?_)))
   refine W_cond _ (rfl : _ = Value.bool (decide (jf < (j1.1.length : Int)))) (fun jq => ?_) (fun jq => ?_)
   ·have hr := ite_t jq hr
    refine W_skip (then_n (W_seq (W_block (sr (mv jm ?_)))))
    obtain ⟨jr, js, hr⟩ := bind_some hr
    refine L_index Try.underlying23 ty3.inf jo (ja.mono jl) jm js (by decide) (fun jt ju => li ty3 (rfl : _ = jt) ju (asg (rfl : _ = Value.int .i64 (jf)) (asg (rfl : _ = Value.int .i64 (jr)) (nn (sr (mv (rfl : _ = Value.int .i64 (jr)) (mv jn (mv (rfl : _ = Value.int .i64 (jf)) ?_))))))))
    obtain ⟨jv, jw, hr⟩ := bind_some hr
    refine L_index Try.underlying29 ty59.inf (rfl : _ = w0) (h0.mono (j5.le.trans jl)) (rfl : _ = Value.int .i64 (jf)) jw (by decide) (fun jx jy => L_load ty59 (rfl : _ = jx) jy (by decide) (fun jz k0 => L_len Try.underlying59 (rfl : _ = jz) k0 (by decide) (L_lss (rfl : _ = Value.int .i64 (jr)) (rfl : _ = Value.int .i64 ((jv.length : Int))) (by decide) (nn ?_))))
    refine W_cond _ (rfl : _ = Value.bool (decide (jr < (jv.length : Int)))) (fun k1 => ?_) (fun k1 => ?_)
    ·have hr := ite_t k1 hr; refine sr (asg (rfl : _ = Value.bool (false)) (nn (W_ret (block_r (then_r (then_r (block_r ?_))))))); obtain rfl := Option.some.inj hr; have hr := je; (try dsimp only at hr); refine then_r (then_r ?_); obtain rfl := Option.some.inj hr; exact done1 (Or.inl rfl) Try.results47 rfl ⟨_, _, rfl, rfl, jk, Vbool⟩
    ·have hr := ite_f k1 hr; refine W_skip (block_n (then_n (W_region ?_))); obtain ⟨k2, hr⟩ := chk_some hr; exact L_add jm (rfl : _ = Value.int .i64 (1)) k2 (by decide) (mv (rfl : _ = Value.int .i64 (jf + 1)) (nn ⟨jg, Nat.lt_succ_self _, ⟨jj, (jf + 1), rfl, jk, jl, hr, rfl, jn, jo, jp⟩⟩))
   ·have hr := ite_f jq hr; refine W_exit (then_x (then_x (block_here ?_))); exact then_n ⟨jj, rfl, jk, jl, Option.some.inj hr⟩
 ·rintro jf jg ⟨jh, rfl, ji, jj, jd⟩; subst jd; have hr := je; (try dsimp only at hr); refine then_n (sr (asg (rfl : _ = Value.bool (true)) (nn (W_ret ?_)))); obtain rfl := Option.some.inj hr; exact done1 (Or.inl rfl) Try.results47 rfl ⟨_, _, rfl, rfl, ji, Vbool⟩

theorem dead_Decide_ok (N : Nat) (s0 : St) (w0 : Value) (a0 : List (List Deed)) (h0 : V s0 w0 a0) (r : Verdict × Int) (hr : dead_Decide N a0 = some r) :
    Calls Try.prog 18 #[w0] s0.w (Ret s0 fun v s => ∃ a b, v = .tuple #[a, b] ∧ V s a r.1 ∧ V s b r.2) := by
 unfold dead_Decide at hr
 have j0 := Ext.refl s0
 refine Calls_of (n := 49) (args := [w0]) Try.func18 rfl rfl (by simp) (sr (L_alloc (α := Verdict) (x := ⟨0, 0⟩) zero40 Verdict.zero_rel (by decide) (fun j1 j2 j3 j4 j5 => ?_)))
 have j6 := Tch.ext j0 j3
 refine asg (rfl : _ = Value.int .i64 (0)) (nn (sr (mv (rfl : _ = w0) ?_)))
 obtain ⟨j7, j8, hr⟩ := bind_some hr
 refine L_calls cal15 (args1 (rfl : _ = w0)) (dead_Narrow_ok N _ _ _ (h0.mono j3.le) j7 j8) (by decide) (fun j9 ja jb jc => ?_)
 have jd := Tch.ext j6 jb
 obtain ⟨je, jf, jg, rfl, jh, ji, jj⟩ := jc
 obtain rfl := ji.bool
 obtain rfl := jj.int
 refine mv (rfl : _ = Value.tuple #[je, Value.bool (j7.2.1), Value.int .i64 (j7.2.2)]) (L_extract (rfl : _ = Value.tuple #[je, Value.bool (j7.2.1), Value.int .i64 (j7.2.2)]) (k := 0) rfl (by decide) (L_extract (rfl : _ = Value.tuple #[je, Value.bool (j7.2.1), Value.int .i64 (j7.2.2)]) (k := 1) rfl (by decide) (L_extract (rfl : _ = Value.tuple #[je, Value.bool (j7.2.1), Value.int .i64 (j7.2.2)]) (k := 2) rfl (by decide) (asg (rfl : _ = je) (asg (rfl : _ = Value.bool (j7.2.1)) (asg (rfl : _ = Value.int .i64 (j7.2.2)) (nn ?_)))))))
 obtain ⟨jk, jl, jm⟩ := bind_some hr
 refine W_seq_cut (fun f w => ∃ (s : St) (jn : Verdict), s.w = w ∧ Ext s0 s ∧ Le ja s ∧ Sum.inl jn = jk ∧ f 2 = Value.pointer (some ⟨j2, 0, none⟩) ∧ f 4 = je ∧ Var s j2 40 jn) ?_ ?_
 ·have hr := jl
  refine W_block (sr (mv (rfl : _ = Value.int .i64 (j7.2.2)) (L_neq (rfl : _ = Value.int .i64 (j7.2.2)) (rfl : _ = Value.int .i64 (0)) (by decide) (asg (rfl : _ = Value.bool (!decide (j7.2.2 = 0))) (nn ?_)))))
  refine W_cond _ (rfl : _ = Value.bool (!decide (j7.2.2 = 0))) (fun jo => ?_) (fun jo => ?_)
  ·have hr := ite_t jo hr; refine sr (L_bld40_ (s := ja)   (by decide) (fun jp jq => mv (rfl : _ = Value.int .i64 (j7.2.2)) (L_store ty40 (rfl : _ = Value.pointer (some ⟨j2, 0, none⟩)) (rfl : _ = jp) jq ((j5).ext jb) (fun jr js jt => ?_)))); have ju := Tch.trans jd js (fun k hk => Or.inr (by subst hk; exact (Nat.le_trans j0.size j4))); refine asg (rfl : _ = Value.int .i64 (j7.2.2)) (nn (W_ret (block_r ?_))); obtain rfl := Option.some.inj hr; have hr := jm; (try dsimp only at hr); refine then_r ?_; obtain rfl := Option.some.inj hr; exact done_ct (Or.inl rfl) Try.results18 ty40 rfl (jt) rfl (fun v hv => ⟨_, _, rfl, rfl, ju, _, _, rfl, hv, Vint⟩)
  ·have hr := ite_f jo hr
   refine sr (mv (rfl : _ = Value.bool (j7.2.1)) (L_not (rfl : _ = Value.bool (j7.2.1)) (by decide) (asg (rfl : _ = Value.bool (!j7.2.1)) (nn ?_))))
   refine W_cond _ (rfl : _ = Value.bool (!j7.2.1)) (fun jp => ?_) (fun jp => ?_)
   ·have hr := ite_t jp hr; refine sr (L_bld40_0 (s := ja) (rfl : _ = Value.int .i64 (4)) (Vint : V _ _ (4 : Int)) (by decide) (fun jq jr => L_store ty40 (rfl : _ = Value.pointer (some ⟨j2, 0, none⟩)) (rfl : _ = jq) jr ((j5).ext jb) (fun js jt ju => ?_))); have jv := Tch.trans jd jt (fun k hk => Or.inr (by subst hk; exact (Nat.le_trans j0.size j4))); refine asg (rfl : _ = Value.int .i64 (0)) (nn (W_ret (block_r ?_))); obtain rfl := Option.some.inj hr; have hr := jm; (try dsimp only at hr); refine then_r ?_; obtain rfl := Option.some.inj hr; exact done_ct (Or.inl rfl) Try.results18 ty40 rfl (ju) rfl (fun v hv => ⟨_, _, rfl, rfl, jv, _, _, rfl, hv, Vint⟩)
   ·have hr := ite_f jp hr
    refine sr (mv (rfl : _ = je) ?_)
    obtain ⟨jq, jr, hr⟩ := bind_some hr
    refine L_calls cal47 (args2 (rfl : _ = je) (rfl : _ = Value.int .i64 (0))) (dead_comes_ok N _ _ _ jh 0 jq jr) (by decide) (fun js jt ju jv => ?_)
    have jw := Tch.ext jd ju
    obtain rfl := jv.bool
    refine asg (rfl : _ = Value.bool (jq)) (nn ?_)
    refine W_cond _ (rfl : _ = Value.bool (jq)) (fun jx => ?_) (fun jx => ?_)
    ·have hr := ite_t jx hr; refine sr (L_bld40_0 (s := jt) (rfl : _ = Value.int .i64 (1)) (Vint : V _ _ (1 : Int)) (by decide) (fun jy jz => L_store ty40 (rfl : _ = Value.pointer (some ⟨j2, 0, none⟩)) (rfl : _ = jy) jz (((j5).ext jb).ext ju) (fun k0 k1 k2 => ?_))); have k3 := Tch.trans jw k1 (fun k hk => Or.inr (by subst hk; exact (Nat.le_trans j0.size j4))); refine asg (rfl : _ = Value.int .i64 (0)) (nn (W_ret (block_r ?_))); obtain rfl := Option.some.inj hr; have hr := jm; (try dsimp only at hr); refine then_r ?_; obtain rfl := Option.some.inj hr; exact done_ct (Or.inl rfl) Try.results18 ty40 rfl (k2) rfl (fun v hv => ⟨_, _, rfl, rfl, k3, _, _, rfl, hv, Vint⟩)
    ·have hr := ite_f jx hr
     refine sr (mv (rfl : _ = je) ?_)
     obtain ⟨jy, jz, hr⟩ := bind_some hr
     refine L_calls cal47 (args2 (rfl : _ = je) (rfl : _ = Value.int .i64 (200))) (dead_comes_ok N _ _ _ (jh.mono ju.le) 200 jy jz) (by decide) (fun k0 k1 k2 k3 => ?_)
     have k4 := Tch.ext jw k2
     obtain rfl := k3.bool
     refine L_not (rfl : _ = Value.bool (jy)) (by decide) (asg (rfl : _ = Value.bool (!jy)) (nn ?_))
     refine W_cond _ (rfl : _ = Value.bool (!jy)) (fun k5 => ?_) (fun k5 => ?_)
     ·have hr := ite_t k5 hr; refine sr (L_bld40_0 (s := k1) (rfl : _ = Value.int .i64 (3)) (Vint : V _ _ (3 : Int)) (by decide) (fun k6 k7 => L_store ty40 (rfl : _ = Value.pointer (some ⟨j2, 0, none⟩)) (rfl : _ = k6) k7 ((((j5).ext jb).ext ju).ext k2) (fun k8 k9 ka => ?_))); have kb := Tch.trans k4 k9 (fun k hk => Or.inr (by subst hk; exact (Nat.le_trans j0.size j4))); refine asg (rfl : _ = Value.int .i64 (0)) (nn (W_ret (block_r ?_))); obtain rfl := Option.some.inj hr; have hr := jm; (try dsimp only at hr); refine then_r ?_; obtain rfl := Option.some.inj hr; exact done_ct (Or.inl rfl) Try.results18 ty40 rfl (ka) rfl (fun v hv => ⟨_, _, rfl, rfl, kb, _, _, rfl, hv, Vint⟩)
     ·have hr := ite_f k5 hr; refine W_skip (block_n ?_); exact then_n ⟨k1, (⟨0, 0⟩ : Verdict), rfl, k4, (ju.le.trans k2.le), Option.some.inj hr, rfl, rfl, (((j5).ext jb).ext ju).ext k2⟩
 ·rintro jo jp ⟨jq, jn, rfl, jr, js, jl, jt, ju, jv⟩
  subst jl
  have hr := jm
  try dsimp only at hr
  refine sr (asg (rfl : _ = Value.int .i64 (0)) (asg (rfl : _ = Value.int .i64 (200)) (nn (W_seq ?_))))
  obtain ⟨jw, jx, jy⟩ := bind_some hr
  refine W_cut (fun f w => ∃ (s : St) (jz : Int), s.w = w ∧ Ext s0 s ∧ Le jq s ∧ jz = jw ∧ f 8 = Value.int .i64 jz ∧ f 2 = Value.pointer (some ⟨j2, 0, none⟩) ∧ Var s j2 40 jn) ?_ ?_
  ·refine W_block (W_loop (fun m f w => ∃ (s : St) (k0 : Int) (k1 : Int), s.w = w ∧ Ext s0 s ∧ Le jq s ∧ dead_Decide_l1 N j7 m k0 k1 = some jw ∧ f 7 = Value.int .i64 k0 ∧ f 8 = Value.int .i64 k1 ∧ f 2 = Value.pointer (some ⟨j2, 0, none⟩) ∧ f 4 = je ∧ Var s j2 40 jn) N ⟨jq, 0, 200, rfl, jr, (Le.refl _), jx, rfl, rfl, jt, ju, jv⟩ ?_)
   rintro k2 k3 k4 ⟨k5, k0, k1, rfl, k6, k7, hr, k8, k9, ka, kb, kc⟩
   cases k2 with
   | zero => exact absurd hr (by simp [dead_Decide_l1])
   | succ k2 =>
    rw [dead_Decide_l1.eq_2] at hr
    refine W_seq (sr (mv k9 (mv k8 ?_)))
    obtain ⟨kd, hr⟩ := chk_some hr
    refine L_sub (rfl : _ = Value.int .i64 (k1)) (rfl : _ = Value.int .i64 (k0)) kd (by decide) (L_gtr (rfl : _ = Value.int .i64 (k1 - k0)) (rfl : _ = Value.int .i64 (1)) (by decide) (nn ?_))
    refine W_cond _ (rfl : _ = Value.bool (decide (1 < (k1 - k0)))) (fun ke => ?_) (fun ke => ?_)
    ·have hr := ite_t ke hr
     refine W_skip (then_n (W_block (sr (mv k8 (mv k9 ?_)))))
     obtain ⟨kf, hr⟩ := chk_some hr
     refine L_add (rfl : _ = Value.int .i64 (k0)) (rfl : _ = Value.int .i64 (k1)) kf (by decide) ?_
     obtain ⟨kg, hr⟩ := chk_some hr
     refine L_quo (rfl : _ = Value.int .i64 (k0 + k1)) (rfl : _ = Value.int .i64 (2)) kg.1 kg.2 (by decide) (asg (rfl : _ = Value.int .i64 (Int.tdiv (k0 + k1) 2)) (nn (sr (mv kb (mv (rfl : _ = Value.int .i64 (Int.tdiv (k0 + k1) 2)) ?_)))))
     obtain ⟨kh, ki, hr⟩ := bind_some hr
     refine L_calls cal47 (args2 (rfl : _ = je) (rfl : _ = Value.int .i64 (Int.tdiv (k0 + k1) 2))) (dead_comes_ok N _ _ _ (jh.mono (js.trans k7)) (Int.tdiv (k0 + k1) 2) kh ki) (by decide) (fun kj kk kl km => ?_)
     have kn := Tch.ext k6 kl
     obtain rfl := km.bool
     refine nn ?_
     refine W_cond _ (rfl : _ = Value.bool (kh)) (fun ko => ?_) (fun ko => ?_)
     ·have hr := ite_t ko hr; refine W_region (mv (rfl : _ = Value.int .i64 (Int.tdiv (k0 + k1) 2)) (asg (rfl : _ = Value.int .i64 (Int.tdiv (k0 + k1) 2)) (L_nil (block_n ?_)))); exact then_n ⟨k2, Nat.lt_succ_self _, ⟨kk, k0, (Int.tdiv (k0 + k1) 2), rfl, kn, (k7.trans kl.le), hr, k8, rfl, ka, kb, (kc).ext kl⟩⟩
     ·have hr := ite_f ko hr; refine W_region (mv (rfl : _ = Value.int .i64 (Int.tdiv (k0 + k1) 2)) (asg (rfl : _ = Value.int .i64 (Int.tdiv (k0 + k1) 2)) (L_nil (block_n ?_)))); exact then_n ⟨k2, Nat.lt_succ_self _, ⟨kk, (Int.tdiv (k0 + k1) 2), k1, rfl, kn, (k7.trans kl.le), hr, rfl, k9, ka, kb, (kc).ext kl⟩⟩
    ·have hr := ite_f ke hr; refine W_exit (then_x (then_x (block_here ?_))); exact then_n ⟨k5, k1, rfl, k6, k7, Option.some.inj hr, k9, ka, kc⟩
  ·rintro k0 k1 ⟨k2, jz, rfl, k3, k4, jx, k5, k6, k7⟩; subst jx; have hr := jy; (try dsimp only at hr); refine then_n (sr (mv k5 (L_bld40_0_1 (s := k2) (rfl : _ = Value.int .i64 (2)) (rfl : _ = Value.int .i64 (jz)) (Vint : V _ _ (2 : Int)) (Vint : V _ _ (jz : Int)) (by decide) (fun k8 k9 => L_store ty40 k6 (rfl : _ = k8) k9 (k7) (fun ka kb kc => ?_))))); have kd := Tch.trans k3 kb (fun k hk => Or.inr (by subst hk; exact (Nat.le_trans j0.size j4))); refine asg (rfl : _ = Value.int .i64 (0)) (nn (W_ret ?_)); obtain rfl := Option.some.inj hr; exact done_ct (Or.inl rfl) Try.results18 ty40 k6 (kc) rfl (fun v hv => ⟨_, _, rfl, rfl, kd, _, _, rfl, hv, Vint⟩)

theorem dead_Show_ok (N : Nat) (s0 : St) (w0 : Value) (a0 : List (List Deed)) (h0 : V s0 w0 a0) (a1 : Int) (r : (List Int) × Int) (hr : dead_Show N a0 a1 = some r) :
    Calls Try.prog 22 #[w0, .int .i64 a1] s0.w (Ret s0 fun v s => ∃ a b, v = .tuple #[a, b] ∧ V s a r.1 ∧ V s b r.2) := by
 unfold dead_Show at hr
 have j0 := Ext.refl s0
 refine Calls_of (n := 19) (args := [w0, .int .i64 a1]) Try.func22 rfl rfl (by simp) (sr (asg (rfl : _ = Value.slice none 0 0) (asg (rfl : _ = Value.int .i64 (0)) (nn (sr (mv (rfl : _ = w0) (mv (rfl : _ = Value.int .i64 (a1)) ?_)))))))
 obtain ⟨j1, j2, hr⟩ := bind_some hr
 refine L_calls cal31 (args2 (rfl : _ = w0) (rfl : _ = Value.int .i64 (a1))) (dead_newRun_ok N _ _ _ h0 a1 j1 j2) (by decide) (fun j3 j4 j5 j6 => ?_)
 have j7 := Tch.ext j0 j5
 obtain ⟨j8, j9, rfl, ja, jb⟩ := j6
 obtain rfl := jb.int
 refine mv (rfl : _ = Value.tuple #[j8, Value.int .i64 (j1.2)]) (L_extract (rfl : _ = Value.tuple #[j8, Value.int .i64 (j1.2)]) (k := 0) rfl (by decide) (L_extract (rfl : _ = Value.tuple #[j8, Value.int .i64 (j1.2)]) (k := 1) rfl (by decide) (asg (rfl : _ = j8) (asg (rfl : _ = Value.int .i64 (j1.2)) (nn (W_seq (sr (mv (rfl : _ = Value.int .i64 (j1.2)) (L_neq (rfl : _ = Value.int .i64 (j1.2)) (rfl : _ = Value.int .i64 (0)) (by decide) (nn ?_))))))))))
 refine W_cond _ (rfl : _ = Value.bool (!decide (j1.2 = 0))) (fun jc => ?_) (fun jc => ?_)
 ·have hr := ite_t jc hr; refine sr (mv (rfl : _ = Value.int .i64 (j1.2)) (asg (rfl : _ = Value.slice none 0 0) (asg (rfl : _ = Value.int .i64 (j1.2)) (nn (W_ret (then_r ?_)))))); obtain rfl := Option.some.inj hr; exact done2 (Or.inl rfl) Try.results22 rfl rfl ⟨_, _, rfl, rfl, j7, _, _, rfl, Vnil, Vint⟩
 ·have hr := ite_f jc hr; refine W_skip (then_n (sr (mv (rfl : _ = j8) ?_))); obtain ⟨jd, je, hr⟩ := bind_some hr; obtain ⟨jf, jg, jh, ji⟩ := ja.open je; obtain ⟨jj, jk, hr⟩ := bind_some hr; refine L_calls_mut cal49 (args1 (rfl : _ = j8)) (dead_run_finish_ok N _ _ jf (Run.with_at_ jd jd.at_) (jh.at (fun _ => rfl) (ji)) (ji).self jj jk) (by decide) ?_; rintro jl jm jn ⟨jo, jp⟩; have jq := Tch.trans j7 jn (fun k hk => Or.inr (by subst hk; exact (Nat.le_trans j0.size jg))); have jp := (ji).back jp; obtain ⟨jr, js, jt, ju⟩ := (jp).freeze; rw [← js]; have jv := Tch.trans jq jt (fun k hk => Or.inr (by subst hk; exact (Nat.le_trans j0.size jg))); refine asg (rfl : _ = jl) (asg (rfl : _ = Value.int .i64 (0)) (nn (W_ret ?_))); obtain rfl := Option.some.inj hr; exact done2 (Or.inl rfl) Try.results22 rfl rfl ⟨_, _, rfl, rfl, jv, _, _, rfl, (jo.mono jt.le), Vint⟩

theorem dead_Blocks_ok (N : Nat) (s0 : St) (w0 : Value) (a0 : List (List Deed)) (h0 : V s0 w0 a0) (a1 : Int) (r : (List Block) × Int) (hr : dead_Blocks N a0 a1 = some r) :
    Calls Try.prog 24 #[w0, .int .i64 a1] s0.w (Ret s0 fun v s => ∃ a b, v = .tuple #[a, b] ∧ V s a r.1 ∧ V s b r.2) := by
 unfold dead_Blocks at hr
 have j0 := Ext.refl s0
 refine Calls_of (n := 81) (args := [w0, .int .i64 a1]) Try.func24 rfl rfl (by simp) (sr (asg (rfl : _ = Value.slice none 0 0) (asg (rfl : _ = Value.int .i64 (0)) (nn (sr (mv (rfl : _ = w0) (mv (rfl : _ = Value.int .i64 (a1)) ?_)))))))
 obtain ⟨j1, j2, hr⟩ := bind_some hr
 refine L_calls cal31 (args2 (rfl : _ = w0) (rfl : _ = Value.int .i64 (a1))) (dead_newRun_ok N _ _ _ h0 a1 j1 j2) (by decide) (fun j3 j4 j5 j6 => ?_)
 have j7 := Tch.ext j0 j5
 obtain ⟨j8, j9, rfl, ja, jb⟩ := j6
 obtain rfl := jb.int
 refine mv (rfl : _ = Value.tuple #[j8, Value.int .i64 (j1.2)]) (L_extract (rfl : _ = Value.tuple #[j8, Value.int .i64 (j1.2)]) (k := 0) rfl (by decide) (L_extract (rfl : _ = Value.tuple #[j8, Value.int .i64 (j1.2)]) (k := 1) rfl (by decide) (asg (rfl : _ = j8) (asg (rfl : _ = Value.int .i64 (j1.2)) (nn (W_seq (sr (mv (rfl : _ = Value.int .i64 (j1.2)) (L_neq (rfl : _ = Value.int .i64 (j1.2)) (rfl : _ = Value.int .i64 (0)) (by decide) (nn ?_))))))))))
 refine W_cond _ (rfl : _ = Value.bool (!decide (j1.2 = 0))) (fun jc => ?_) (fun jc => ?_)
 ·have hr := ite_t jc hr; refine sr (mv (rfl : _ = Value.int .i64 (j1.2)) (asg (rfl : _ = Value.slice none 0 0) (asg (rfl : _ = Value.int .i64 (j1.2)) (nn (W_ret (then_r ?_)))))); obtain rfl := Option.some.inj hr; exact done2 (Or.inl rfl) Try.results24 rfl rfl ⟨_, _, rfl, rfl, j7, _, _, rfl, Vnil, Vint⟩
 ·have hr := ite_f jc hr
  refine W_skip (then_n (sr (mv (rfl : _ = j8) ?_)))
  obtain ⟨jd, je, hr⟩ := bind_some hr
  obtain ⟨jf, jg, jh, ji⟩ := ja.open je
  obtain ⟨jj, jk, hr⟩ := bind_some hr
  refine L_calls_mut cal49 (args1 (rfl : _ = j8)) (dead_run_finish_ok N _ _ jf (Run.with_at_ jd jd.at_) (jh.at (fun _ => rfl) (ji)) (ji).self jj jk) (by decide) ?_
  rintro jl jm jn ⟨jo, jp⟩
  have jq := Tch.trans j7 jn (fun k hk => Or.inr (by subst hk; exact (Nat.le_trans j0.size jg)))
  have jp := (ji).back jp
  obtain ⟨jr, js, jt, ju⟩ := (jp).freeze
  rw [← js]
  have jv := Tch.trans jq jt (fun k hk => Or.inr (by subst hk; exact (Nat.le_trans j0.size jg)))
  refine nn (sr (asg (rfl : _ = Value.slice none 0 0) (nn (W_seq (sr (mv (rfl : _ = j8) (L_nilCheck_ptr (rfl : _ = j8) ((jh.mono (jn.le.trans jt.le)).ptr ju) (by decide) (L_fieldAddr fld72_2 Run.of_at_ (rfl : _ = j8) ((jh.mono (jn.le.trans jt.le)).ptr ju) (by decide) (fun jw jx => L_load ty23 (rfl : _ = jw) jx (by decide) (fun jy jz => L_len Try.underlying23 (rfl : _ = jy) jz (by decide) (mv (rfl : _ = Value.int .i64 (0)) (nn ?_))))))))))))
  obtain ⟨k0, k1, k2⟩ := bind_some hr
  refine W_cut (fun f w => ∃ (s : St) (k3 : Value) (k4 : List Block), s.w = w ∧ Ext s0 s ∧ Le jr s ∧ k4 = k0 ∧ f 8 = k3 ∧ Bld s s0.w.heap.size 58 k3 k4) ?_ ?_
  ·refine W_block (W_loop (fun m f w => ∃ (s : St) (k5 : Value) (k6 : List Block) (k7 : Int), s.w = w ∧ Ext s0 s ∧ Le jr s ∧ dead_Blocks_l1 N a0 jd jj m k6 k7 = some k0 ∧ f 8 = k5 ∧ Bld s s0.w.heap.size 58 k5 k6 ∧ f 29 = Value.int .i64 k7 ∧ f 0 = w0 ∧ f 6 = j8 ∧ f 27 = jy ∧ f 28 = Value.int .i64 ((((Run.with_at_ jd jj.2).at_).length : Int))) N ⟨jr, (Value.slice none 0 0), ([]), 0, rfl, jv, (Le.refl _), k1, rfl, Bld.nil, rfl, rfl, rfl, rfl, rfl⟩ ?_)
   rintro k8 k9 ka ⟨kb, k5, k6, k7, rfl, kc, kd, hr, ke, kf, kg, kh, ki, kj, kk⟩
   cases k8 with
   | zero => exact absurd hr (by simp [dead_Blocks_l1])
   | succ k8 =>
    rw [dead_Blocks_l1.eq_2] at hr
    refine sr (L_lss kg kk (by decide) (nn (W_seq ?_)))
    refine W_cond _ (rfl : _ = Value.bool (decide (k7 < (((Run.with_at_ jd jj.2).at_).length : Int)))) (fun kl => ?_) (fun kl => ?_)
    ·have hr := ite_t kl hr
     refine W_skip (then_n (W_seq (W_block (sr (mv kg ?_)))))
     obtain ⟨km, kn, hr⟩ := bind_some hr
     refine L_index Try.underlying23 ty3.inf kj (jz.mono kd) kg kn (by decide) (fun ko kp => li ty3 (rfl : _ = ko) kp (asg (rfl : _ = Value.int .i64 (k7)) (asg (rfl : _ = Value.int .i64 (km)) (nn (W_seq (sr (mv (rfl : _ = Value.int .i64 (km)) (mv kh (mv (rfl : _ = Value.int .i64 (k7)) ?_)))))))))
     obtain ⟨kq, kr, hr⟩ := bind_some hr
     refine L_index Try.underlying29 ty59.inf (rfl : _ = w0) (h0.mono (j5.le.trans (jn.le.trans (jt.le.trans kd)))) (rfl : _ = Value.int .i64 (k7)) kr (by decide) (fun ks kt => L_load ty59 (rfl : _ = ks) kt (by decide) (fun ku kv => L_len Try.underlying59 (rfl : _ = ku) kv (by decide) (L_eql (rfl : _ = Value.int .i64 (km)) (rfl : _ = Value.int .i64 ((kq.length : Int))) (by decide) (nn ?_))))
     refine W_cond _ (rfl : _ = Value.bool (decide (km = (kq.length : Int)))) (fun kw => ?_) (fun kw => ?_)
     ·have hr := ite_t kw hr; refine W_exit (then_x (block_here (then_n (W_region ?_)))); obtain ⟨kx, hr⟩ := chk_some hr; exact L_add kg (rfl : _ = Value.int .i64 (1)) kx (by decide) (mv (rfl : _ = Value.int .i64 (k7 + 1)) (nn ⟨k8, Nat.lt_succ_self _, ⟨kb, k5, k6, (k7 + 1), rfl, kc, kd, hr, ke, kf, rfl, kh, ki, kj, kk⟩⟩))
     ·have hr := ite_f kw hr
      refine W_skip (then_n (sr (mv kh (mv (rfl : _ = Value.int .i64 (k7)) ?_))))
      obtain ⟨kx, ky, hr⟩ := bind_some hr
      refine L_index Try.underlying29 ty59.inf (rfl : _ = w0) (h0.mono (j5.le.trans (jn.le.trans (jt.le.trans kd)))) (rfl : _ = Value.int .i64 (k7)) ky (by decide) (fun kz g0 => L_load ty59 (rfl : _ = kz) g0 (by decide) (fun g1 g2 => mv (rfl : _ = Value.int .i64 (km)) ?_))
      obtain ⟨g3, g4, hr⟩ := bind_some hr
      refine L_index Try.underlying59 ty64.inf (rfl : _ = g1) g2 (rfl : _ = Value.int .i64 (km)) g4 (by decide) (fun g5 g6 => L_load ty64 (rfl : _ = g5) g6 (by decide) (fun g7 g8 => L_alloc (α := Deed) (x := ⟨0, 0, 0, 0, false⟩) zero64 Deed.zero_rel (by decide) (fun g9 ga gb gc gd => ?_)))
      have gg := Tch.ext kc gb
      have gh : ∀ k, (own k5) k → ¬ (fun k => k = ga) k := fun k gi gj => by have gk := (fun k hk => ((kf).lt hk).2) k gi; have gl := gc; subst gj; omega
      refine L_store ty64 (rfl : _ = Value.pointer (some ⟨ga, 0, none⟩)) (rfl : _ = g7) (g8.mono gb.le) (gd) (fun gm gn go => ?_)
      have gp := Tch.trans gg gn (fun k hk => Or.inr (by subst hk; exact (Nat.le_trans kc.size gc)))
      refine nn (W_seq (sr (L_fieldAddr_var fld64_0 (rfl : _ = Value.pointer (some ⟨ga, 0, none⟩)) (by decide) (L_load_field ty3 Deed.of_Kind (rfl : _ = Value.pointer (some ⟨ga, 0, none⟩)) (go) (by decide) (fun gq gr => ?_)))))
      obtain rfl := gr.int
      refine L_eql (rfl : _ = Value.int .i64 (g3.Kind)) (rfl : _ = Value.int .i64 (5)) (by decide) (nn ?_)
      refine W_cond _ (rfl : _ = Value.bool (decide (g3.Kind = 5))) (fun gs => ?_) (fun gs => ?_)
      ·have hr := ite_t gs hr
       obtain ⟨gu, gv, hr⟩ := bind_some hr
       obtain ⟨gw, gx, hr⟩ := bind_some hr
       obtain ⟨gy, gz, hr⟩ := bind_some hr
       refine W_drawP mixed 12 [PX.data (a0 : List (List Deed)), PX.eq (Value.int .i64 (k7)), PX.ptr (gu : List Deed), PX.data (gu : List Deed), PX.ptr ((Run.with_at_ jd jj.2) : Run), PX.eq (Value.int .i64 (k7)), PX.eq (Value.pointer (some ⟨ga, 3, none⟩)), PX.eq (Value.int .i64 (g3.Req)), PX.eq (Value.int .i64 (gw)), PX.ptr (gy : Deed), PX.data (gy : Deed), PX.var s0.w.heap.size 64 (gy : Deed), PX.var s0.w.heap.size 64 (g3 : Deed)] [51, 52, 53, 54, 55, 56, 57, 58, 59, 60, 61, 11, 11] [[], [], [], [], [], [], [], [], [], [], [], [12]] rfl (by kernel_rfl) (ent1 rfl ⟨ga, rfl, (Nat.le_trans kc.size gc), go⟩) (dis1 rfl) (StepsX_cons ?_ (StepsX_cons ?_ (StepsX_cons ?_ (StepsX_cons ?_ (StepsX_cons ?_ (StepsX_cons ?_ (StepsX_cons ?_ (StepsX_cons ?_ (StepsX_cons ?_ (StepsX_cons ?_ (StepsX_cons ?_ (StepsX_cons ?_ StepsX_nil)))))))))))) ?_
       ·intro u0 u1 u2 u3 u4 Q u5; have u6 : u0 0 = w0 := (u4 0 (by kernel_rfl)).trans kh; exact mv u6 (L_nil (u5 _ _ No (Ext.refl u1) (fun _ h => h.elim) (h0.mono (j5.le.trans (jn.le.trans (jt.le.trans (kd.trans (gb.le.trans (gn.le.trans u2.le))))))) (fun _ h => h.elim)))
       ·intro u0 u1 u2 u3 u4 Q u5; have u6 : u0 9 = Value.int .i64 (k7) := (u4 9 (by kernel_rfl)).trans rfl; exact mv u6 (L_nil (u5 _ _ No (Ext.refl u1) (fun _ h => h.elim) rfl (fun _ h => h.elim)))
       ·intro u0 u1 u2 u3 u4 Q u5; have u6 : V _ (u0 51) (a0 : List (List Deed)) := u3 0 (by kernel_rfl) (by show _ < 13; decide); obtain ⟨u7, u9, ua⟩ : ∃ v, _ = v ∧ V _ v _ := ⟨_, rfl, u6⟩; have ub : u0 52 = Value.int .i64 (k7) := u3 1 (by kernel_rfl) (by show _ < 13; decide); exact L_index Try.underlying29 ty59.inf u9 ua ub gv (by decide) (fun uc ud => L_nil (u5 _ _ No (Ext.refl u1) (fun _ h => h.elim) ud (fun _ h => h.elim)))
       ·intro u0 u1 u2 u3 u4 Q u5; have u6 : Ptr _ (u0 53) (gu : List Deed) := u3 2 (by kernel_rfl) (by show _ < 13; decide); obtain ⟨u7, u9, ua⟩ : ∃ v, _ = v ∧ Ptr _ v _ := ⟨_, rfl, u6⟩; exact L_load ty59 u9 ua (by decide) (fun ub uc => L_nil (u5 _ _ No (Ext.refl u1) (fun _ h => h.elim) uc (fun _ h => h.elim)))
       ·intro u0 u1 u2 u3 u4 Q u5; have u6 : u0 6 = j8 := (u4 6 (by kernel_rfl)).trans ki; exact mv u6 (L_nil (u5 _ _ No (Ext.refl u1) (fun _ h => h.elim) (((jh.mono (jn.le.trans jt.le)).ptr ju).mono (kd.trans (gb.le.trans (gn.le.trans u2.le)))) (fun _ h => h.elim)))
       ·intro u0 u1 u2 u3 u4 Q u5; have u6 : u0 9 = Value.int .i64 (k7) := (u4 9 (by kernel_rfl)).trans rfl; exact mv u6 (L_nil (u5 _ _ No (Ext.refl u1) (fun _ h => h.elim) rfl (fun _ h => h.elim)))
       ·intro u0 u1 u2 u3 u4 Q u5
        obtain ⟨u6, u7, u9, ua⟩ : ∃ b, u0 11 = Value.pointer (some ⟨b, 0, none⟩) ∧ s0.w.heap.size ≤ b ∧ Var u1 b 64 (g3 : Deed) := u3 12 (by kernel_rfl) (by show _ < 13; decide)
        have ub : u0 11 = Value.pointer (some ⟨ga, 0, none⟩) := (u4 11 (by kernel_rfl)).trans rfl
        have uc : u6 = ga := by have gk := u7.symm.trans ub; cases gk; rfl
        rw [uc] at u9 ua
        exact L_fieldAddr_var fld64_3 ub (by decide) (L_nil (u5 _ _ No (Ext.refl u1) (fun _ h => h.elim) rfl (fun _ h => h.elim)))
       ·intro u0 u1 u2 u3 u4 Q u5
        obtain ⟨u6, u7, u9, ua⟩ : ∃ b, u0 11 = Value.pointer (some ⟨b, 0, none⟩) ∧ s0.w.heap.size ≤ b ∧ Var u1 b 64 (g3 : Deed) := u3 12 (by kernel_rfl) (by show _ < 13; decide)
        have ub : u0 11 = Value.pointer (some ⟨ga, 0, none⟩) := (u4 11 (by kernel_rfl)).trans rfl
        have uc : u6 = ga := by have gk := u7.symm.trans ub; cases gk; rfl
        rw [uc] at u9 ua
        have ud : u0 57 = Value.pointer (some ⟨ga, 3, none⟩) := u3 6 (by kernel_rfl) (by show _ < 13; decide)
        refine L_load_field ty3 Deed.of_Req ud (ua) (by decide) (fun ue uf => ?_)
        obtain rfl := uf.int
        exact L_nil (u5 _ _ No (Ext.refl u1) (fun _ h => h.elim) rfl (fun _ h => h.elim))
       ·intro u0 u1 u2 u3 u4 Q u5; have u6 : Ptr _ (u0 55) ((Run.with_at_ jd jj.2) : Run) := u3 4 (by kernel_rfl) (by show _ < 13; decide); obtain ⟨u7, u9, ua⟩ : ∃ v, _ = v ∧ Ptr _ v _ := ⟨_, rfl, u6⟩; have ub : u0 56 = Value.int .i64 (k7) := u3 5 (by kernel_rfl) (by show _ < 13; decide); have uc : u0 58 = Value.int .i64 (g3.Req) := u3 7 (by kernel_rfl) (by show _ < 13; decide); refine L_calls cal50 (args3 u9 ub uc) (dead_run_request_ok N _ _ _ ua k7 g3.Req gw gx) (by decide) (fun ud ue uf ug => ?_); have uh := Tch.ext (Ext.refl u1) uf; obtain rfl := ug.int; exact L_nil (u5 _ _ No uh (fun _ h => h.elim) rfl (fun _ h => h.elim))
       ·intro u0 u1 u2 u3 u4 Q u5; have u6 : V _ (u0 54) (gu : List Deed) := u3 3 (by kernel_rfl) (by show _ < 13; decide); obtain ⟨u7, u9, ua⟩ : ∃ v, _ = v ∧ V _ v _ := ⟨_, rfl, u6⟩; have ub : u0 59 = Value.int .i64 (gw) := u3 8 (by kernel_rfl) (by show _ < 13; decide); exact L_index Try.underlying59 ty64.inf u9 ua ub gz (by decide) (fun uc ud => L_nil (u5 _ _ No (Ext.refl u1) (fun _ h => h.elim) ud (fun _ h => h.elim)))
       ·intro u0 u1 u2 u3 u4 Q u5; have u6 : Ptr _ (u0 60) (gy : Deed) := u3 9 (by kernel_rfl) (by show _ < 13; decide); obtain ⟨u7, u9, ua⟩ : ∃ v, _ = v ∧ Ptr _ v _ := ⟨_, rfl, u6⟩; exact L_load ty64 u9 ua (by decide) (fun ub uc => L_nil (u5 _ _ No (Ext.refl u1) (fun _ h => h.elim) uc (fun _ h => h.elim)))
       ·intro u0 u1 u2 u3 u4 Q u5
        obtain ⟨u6, u7, u9, ua⟩ : ∃ b, u0 11 = Value.pointer (some ⟨b, 0, none⟩) ∧ s0.w.heap.size ≤ b ∧ Var u1 b 64 (g3 : Deed) := u3 12 (by kernel_rfl) (by show _ < 13; decide)
        have ub : u0 11 = Value.pointer (some ⟨ga, 0, none⟩) := (u4 11 (by kernel_rfl)).trans rfl
        have uc : u6 = ga := by have gk := u7.symm.trans ub; cases gk; rfl
        rw [uc] at u9 ua
        have ud : V _ (u0 61) (gy : Deed) := u3 10 (by kernel_rfl) (by show _ < 13; decide)
        obtain ⟨ue, uf, ug⟩ : ∃ v, _ = v ∧ V _ v _ := ⟨_, rfl, ud⟩
        exact L_store ty64 ub uf ug (ua) (fun uh ui uj => L_nil (u5 undef _ _ ui (fun k h => ⟨12, (List.mem_singleton.2 rfl : (12 : Nat) ∈ [12]), (by show ownP (u0 11) k; rw [ub]; exact congrArg (fun z => Value.pointer (some ⟨z, 0, none⟩)) h.symm)⟩) ⟨_, ub, u9, uj⟩ (fun k h => Or.inl ⟨12, (List.mem_singleton.2 rfl : (12 : Nat) ∈ [12]), h⟩)))
       ·intro u0 u1 u2 u3 u4 u5
        have u6 := Tch.trans gp u2 (fun k h => Or.inr (by have gj := ent_is (k := 12) rfl rfl h; have gk := Eq.mp (congrArg (fun v => ownP v k) (rfl : _ = Value.pointer (some ⟨ga, 0, none⟩))) gj; cases gk; exact (Nat.le_trans kc.size gc)))
        obtain ⟨u7, u9, ua, ub⟩ : ∃ b, u0 11 = Value.pointer (some ⟨b, 0, none⟩) ∧ s0.w.heap.size ≤ b ∧ Var u1 b 64 (gy : Deed) := u3 11 (by show _ < 13; decide) (by kernel_rfl)
        have uc : u0 11 = Value.pointer (some ⟨ga, 0, none⟩) := (u5 11 (by kernel_rfl)).trans rfl
        have ud : u7 = ga := by have gk := u9.symm.trans uc; cases gk; rfl
        rw [ud] at ua ub
        have ue : u0 0 = w0 := (u5 0 (by kernel_rfl)).trans kh
        have uf : u0 6 = j8 := (u5 6 (by kernel_rfl)).trans ki
        have ug : u0 8 = k5 := (u5 8 (by kernel_rfl)).trans ke
        have uh : u0 9 = Value.int .i64 (k7) := (u5 9 (by kernel_rfl)).trans rfl
        have ui : u0 10 = Value.int .i64 (km) := (u5 10 (by kernel_rfl)).trans rfl
        have uj : u0 27 = jy := (u5 27 (by kernel_rfl)).trans kj
        have uk : u0 28 = Value.int .i64 ((((Run.with_at_ jd jj.2).at_).length : Int)) := (u5 28 (by kernel_rfl)).trans kk
        have ul : u0 29 = Value.int .i64 (k7) := (u5 29 (by kernel_rfl)).trans kg
        refine then_n (sr (mv uh (mv ui (L_fieldAddr_var fld64_1 uc (by decide) (L_load_field ty3 Deed.of_Peer (rfl : _ = Value.pointer (some ⟨ga, 1, none⟩)) (ub) (by decide) (fun um un => ?_))))))
        obtain rfl := un.int
        refine L_buildSlice (xs := ([gy.Peer] : List Int)) Try.underlying23 tyz3 (Parts_cons rfl (rfl : _ = Value.int .i64 (gy.Peer)) Parts_nil) (Vs.cons Vint Vs.nil) rfl (by decide) (by decide) (fun uo up uq ur us => ?_)
        have ut := Tch.ext u6 uq
        refine L_bld58_0_1_2 (s := uo) (rfl : _ = Value.int .i64 (k7)) (rfl : _ = Value.int .i64 (km)) (rfl : _ = up) (Vint : V _ _ (k7 : Int)) (Vint : V _ _ (km : Int)) (us : V _ _ (([gy.Peer] : List Int) : List Int)) (by decide) (fun uu uv => L_alloc (α := Block) (x := ⟨0, 0, []⟩) zero58 Block.zero_rel (by decide) (fun uw ux uy uz t0 => ?_))
        have t1 := Tch.ext ut uy
        have t2 : ∀ k, (own k5) k → ¬ (fun k => k = ux) k := fun k gi gj => by have gk := (fun k hk => ((((((kf).ext gb).tch gn (fun k hk => gh k hk)).tch u2 (fun k hx => ent_one (k := 12) rfl rfl (fun gj => by have gk := Eq.mp (congrArg (fun v => ownP v k) (rfl : _ = Value.pointer (some ⟨ga, 0, none⟩))) gj; cases gk; exact (fun k hk => gh k hk) _ hx rfl))).ext uq).lt hk).2) k gi; have gl := uz; subst gj; omega
        have t3 : ∀ k, (fun k => k = ga) k → ¬ (fun k => k = ux) k := fun k gi gj => by have gk := (fun k (hk : k = ga) => lt_at hk ((ub).ext uq).lt) k gi; have gl := uz; subst gj; omega
        refine L_store ty58 (rfl : _ = Value.pointer (some ⟨ux, 0, none⟩)) (rfl : _ = uu) (uv.mono uy.le) (t0) (fun t4 t5 t6 => ?_)
        have t7 := Tch.trans t1 t5 (fun k hk => Or.inr (by subst hk; exact (Nat.le_trans ut.size uz)))
        refine nn (W_seq (sr (L_fieldAddr_var fld64_0 uc (by decide) (L_load_field ty3 Deed.of_Kind (rfl : _ = Value.pointer (some ⟨ga, 0, none⟩)) ((((ub).ext uq).ext uy).tch t5 ((fun k hk => t3 k hk) ga rfl)) (by decide) (fun t8 t9 => ?_)))))
        obtain rfl := t9.int
        refine L_eql (rfl : _ = Value.int .i64 (gy.Kind)) (rfl : _ = Value.int .i64 (6)) (by decide) (nn ?_)
        refine W_cond _ (rfl : _ = Value.bool (decide (gy.Kind = 6))) (fun ta => ?_) (fun ta => ?_)
        ·have hr := ite_t ta hr; refine W_region (mv uf (mv uh ?_)); obtain ⟨tb, tc, hr⟩ := bind_some hr; refine L_calls cal51 (args2 (rfl : _ = j8) (rfl : _ = Value.int .i64 (k7))) (dead_run_late_ok N _ _ _ (((jh.mono (jn.le.trans jt.le)).ptr ju).mono (kd.trans (gb.le.trans (gn.le.trans (u2.le.trans (uq.le.trans (uy.le.trans t5.le))))))) k7 tb tc) (by decide) (fun td te tf tg => ?_); have th := Tch.ext t7 tf; refine L_fieldAddr_var fld58_2 (rfl : _ = Value.pointer (some ⟨ux, 0, none⟩)) (by decide) (L_store_field ty23 Block.set_For (rfl : _ = Value.pointer (some ⟨ux, 2, none⟩)) (rfl : _ = td) tg ((t6).ext tf) (fun ti tj tk => ?_)); have tl := Tch.trans th tj (fun k hk => Or.inr (by subst hk; exact (Nat.le_trans ut.size uz))); refine nn (W_region (mv ug (L_load_var ty58 (rfl : _ = Value.pointer (some ⟨ux, 0, none⟩)) (tk) (by decide) (fun tm tn => L_buildSlice (xs := ([(Block.with_For (⟨k7, km, ([gy.Peer] : List Int)⟩ : Block) tb)] : List Block)) Try.underlying53 tyz58 (Parts_cons rfl (rfl : _ = tm) Parts_nil) (Vs.cons tn Vs.nil) rfl (by decide) (by decide) (fun tp tq tr ts tt => ?_))))); have tu := Tch.ext tl tr; obtain ⟨tv, hr⟩ := chk_some hr; refine L_append (xs := k6) (B := s0.w.heap.size) Try.underlying53 tyz58 (rfl : _ = k5) (rfl : _ = tq) ((((((((((kf).ext gb).tch gn (fun k hk => gh k hk)).tch u2 (fun k hx => ent_one (k := 12) rfl rfl (fun gj => by have gk := Eq.mp (congrArg (fun v => ownP v k) (rfl : _ = Value.pointer (some ⟨ga, 0, none⟩))) gj; cases gk; exact (fun k hk => gh k hk) _ hx rfl))).ext uq).ext uy).tch t5 (fun k hk => t2 k hk)).ext tf).tch tj (fun k hk => t2 k hk)).ext tr) (tu.size) tt tv.1 tv.2 (by decide) (fun tw tx ty => ?_); have tz := ty.tchM ((((((((((kf).ext gb).tch gn (fun k hk => gh k hk)).tch u2 (fun k hx => ent_one (k := 12) rfl rfl (fun gj => by have gk := Eq.mp (congrArg (fun v => ownP v k) (rfl : _ = Value.pointer (some ⟨ga, 0, none⟩))) gj; cases gk; exact (fun k hk => gh k hk) _ hx rfl))).ext uq).ext uy).tch t5 (fun k hk => t2 k hk)).ext tf).tch tj (fun k hk => t2 k hk)).ext tr) tu (Nat.le_refl _); refine asg (rfl : _ = tw) (L_nil (block_n (then_n (W_region ?_)))); obtain ⟨c0, hr⟩ := chk_some hr; exact L_add ul (rfl : _ = Value.int .i64 (1)) c0 (by decide) (mv (rfl : _ = Value.int .i64 (k7 + 1)) (nn ⟨k8, Nat.lt_succ_self _, ⟨tx, tw, (k6 ++ ([(Block.with_For (⟨k7, km, ([gy.Peer] : List Int)⟩ : Block) tb)] : List Block)), (k7 + 1), rfl, tz, (kd.trans (gb.le.trans (gn.le.trans (u2.le.trans (uq.le.trans (uy.le.trans (t5.le.trans (tf.le.trans (tj.le.trans (tr.le.trans ty.tch.le)))))))))), hr, rfl, ty.bld, rfl, ue, uf, uj, uk⟩⟩))
        ·have hr := ite_f ta hr; refine W_skip (then_n (W_region (mv ug (L_load_var ty58 (rfl : _ = Value.pointer (some ⟨ux, 0, none⟩)) (t6) (by decide) (fun tb tc => L_buildSlice (xs := ([(⟨k7, km, ([gy.Peer] : List Int)⟩ : Block)] : List Block)) Try.underlying53 tyz58 (Parts_cons rfl (rfl : _ = tb) Parts_nil) (Vs.cons tc Vs.nil) rfl (by decide) (by decide) (fun td te tf tg th => ?_)))))); have ti := Tch.ext t7 tf; obtain ⟨tj, hr⟩ := chk_some hr; refine L_append (xs := k6) (B := s0.w.heap.size) Try.underlying53 tyz58 (rfl : _ = k5) (rfl : _ = te) ((((((((kf).ext gb).tch gn (fun k hk => gh k hk)).tch u2 (fun k hx => ent_one (k := 12) rfl rfl (fun gj => by have gk := Eq.mp (congrArg (fun v => ownP v k) (rfl : _ = Value.pointer (some ⟨ga, 0, none⟩))) gj; cases gk; exact (fun k hk => gh k hk) _ hx rfl))).ext uq).ext uy).tch t5 (fun k hk => t2 k hk)).ext tf) (ti.size) th tj.1 tj.2 (by decide) (fun tk tl tm => ?_); have tn := tm.tchM ((((((((kf).ext gb).tch gn (fun k hk => gh k hk)).tch u2 (fun k hx => ent_one (k := 12) rfl rfl (fun gj => by have gk := Eq.mp (congrArg (fun v => ownP v k) (rfl : _ = Value.pointer (some ⟨ga, 0, none⟩))) gj; cases gk; exact (fun k hk => gh k hk) _ hx rfl))).ext uq).ext uy).tch t5 (fun k hk => t2 k hk)).ext tf) ti (Nat.le_refl _); refine asg (rfl : _ = tk) (L_nil (block_n (then_n (W_region ?_)))); obtain ⟨tp, hr⟩ := chk_some hr; exact L_add ul (rfl : _ = Value.int .i64 (1)) tp (by decide) (mv (rfl : _ = Value.int .i64 (k7 + 1)) (nn ⟨k8, Nat.lt_succ_self _, ⟨tl, tk, (k6 ++ ([(⟨k7, km, ([gy.Peer] : List Int)⟩ : Block)] : List Block)), (k7 + 1), rfl, tn, (kd.trans (gb.le.trans (gn.le.trans (u2.le.trans (uq.le.trans (uy.le.trans (t5.le.trans (tf.le.trans tm.tch.le)))))))), hr, rfl, tm.bld, rfl, ue, uf, uj, uk⟩⟩))
      ·have hr := ite_f gs hr
       refine W_skip (then_n (sr (mv (rfl : _ = Value.int .i64 (k7)) (mv (rfl : _ = Value.int .i64 (km)) (L_fieldAddr_var fld64_1 (rfl : _ = Value.pointer (some ⟨ga, 0, none⟩)) (by decide) (L_load_field ty3 Deed.of_Peer (rfl : _ = Value.pointer (some ⟨ga, 1, none⟩)) (go) (by decide) (fun gu gv => ?_)))))))
       obtain rfl := gv.int
       refine L_buildSlice (xs := ([g3.Peer] : List Int)) Try.underlying23 tyz3 (Parts_cons rfl (rfl : _ = Value.int .i64 (g3.Peer)) Parts_nil) (Vs.cons Vint Vs.nil) rfl (by decide) (by decide) (fun gw gx gy gz u0 => ?_)
       have u1 := Tch.ext gp gy
       refine L_bld58_0_1_2 (s := gw) (rfl : _ = Value.int .i64 (k7)) (rfl : _ = Value.int .i64 (km)) (rfl : _ = gx) (Vint : V _ _ (k7 : Int)) (Vint : V _ _ (km : Int)) (u0 : V _ _ (([g3.Peer] : List Int) : List Int)) (by decide) (fun u2 u3 => L_alloc (α := Block) (x := ⟨0, 0, []⟩) zero58 Block.zero_rel (by decide) (fun u4 u5 u6 u7 u9 => ?_))
       have ua := Tch.ext u1 u6
       have ub : ∀ k, (own k5) k → ¬ (fun k => k = u5) k := fun k gi gj => by have gk := (fun k hk => (((((kf).ext gb).tch gn (fun k hk => gh k hk)).ext gy).lt hk).2) k gi; have gl := u7; subst gj; omega
       have uc : ∀ k, (fun k => k = ga) k → ¬ (fun k => k = u5) k := fun k gi gj => by have gk := (fun k (hk : k = ga) => lt_at hk ((go).ext gy).lt) k gi; have gl := u7; subst gj; omega
       refine L_store ty58 (rfl : _ = Value.pointer (some ⟨u5, 0, none⟩)) (rfl : _ = u2) (u3.mono u6.le) (u9) (fun ud ue uf => ?_)
       have ug := Tch.trans ua ue (fun k hk => Or.inr (by subst hk; exact (Nat.le_trans u1.size u7)))
       refine nn (W_seq (sr (L_fieldAddr_var fld64_0 (rfl : _ = Value.pointer (some ⟨ga, 0, none⟩)) (by decide) (L_load_field ty3 Deed.of_Kind (rfl : _ = Value.pointer (some ⟨ga, 0, none⟩)) ((((go).ext gy).ext u6).tch ue ((fun k hk => uc k hk) ga rfl)) (by decide) (fun uh ui => ?_)))))
       obtain rfl := ui.int
       refine L_eql (rfl : _ = Value.int .i64 (g3.Kind)) (rfl : _ = Value.int .i64 (6)) (by decide) (nn ?_)
       refine W_cond _ (rfl : _ = Value.bool (decide (g3.Kind = 6))) (fun uj => ?_) (fun uj => ?_)
       ·have hr := ite_t uj hr; refine W_region (mv ki (mv (rfl : _ = Value.int .i64 (k7)) ?_)); obtain ⟨uk, ul, hr⟩ := bind_some hr; refine L_calls cal51 (args2 (rfl : _ = j8) (rfl : _ = Value.int .i64 (k7))) (dead_run_late_ok N _ _ _ (((jh.mono (jn.le.trans jt.le)).ptr ju).mono (kd.trans (gb.le.trans (gn.le.trans (gy.le.trans (u6.le.trans ue.le)))))) k7 uk ul) (by decide) (fun um un uo up => ?_); have uq := Tch.ext ug uo; refine L_fieldAddr_var fld58_2 (rfl : _ = Value.pointer (some ⟨u5, 0, none⟩)) (by decide) (L_store_field ty23 Block.set_For (rfl : _ = Value.pointer (some ⟨u5, 2, none⟩)) (rfl : _ = um) up ((uf).ext uo) (fun ur us ut => ?_)); have uu := Tch.trans uq us (fun k hk => Or.inr (by subst hk; exact (Nat.le_trans u1.size u7))); refine nn (W_region (mv ke (L_load_var ty58 (rfl : _ = Value.pointer (some ⟨u5, 0, none⟩)) (ut) (by decide) (fun uv uw => L_buildSlice (xs := ([(Block.with_For (⟨k7, km, ([g3.Peer] : List Int)⟩ : Block) uk)] : List Block)) Try.underlying53 tyz58 (Parts_cons rfl (rfl : _ = uv) Parts_nil) (Vs.cons uw Vs.nil) rfl (by decide) (by decide) (fun ux uy uz t0 t1 => ?_))))); have t2 := Tch.ext uu uz; obtain ⟨t3, hr⟩ := chk_some hr; refine L_append (xs := k6) (B := s0.w.heap.size) Try.underlying53 tyz58 (rfl : _ = k5) (rfl : _ = uy) (((((((((kf).ext gb).tch gn (fun k hk => gh k hk)).ext gy).ext u6).tch ue (fun k hk => ub k hk)).ext uo).tch us (fun k hk => ub k hk)).ext uz) (t2.size) t1 t3.1 t3.2 (by decide) (fun t4 t5 t6 => ?_); have t7 := t6.tchM (((((((((kf).ext gb).tch gn (fun k hk => gh k hk)).ext gy).ext u6).tch ue (fun k hk => ub k hk)).ext uo).tch us (fun k hk => ub k hk)).ext uz) t2 (Nat.le_refl _); refine asg (rfl : _ = t4) (L_nil (block_n (then_n (W_region ?_)))); obtain ⟨t8, hr⟩ := chk_some hr; exact L_add kg (rfl : _ = Value.int .i64 (1)) t8 (by decide) (mv (rfl : _ = Value.int .i64 (k7 + 1)) (nn ⟨k8, Nat.lt_succ_self _, ⟨t5, t4, (k6 ++ ([(Block.with_For (⟨k7, km, ([g3.Peer] : List Int)⟩ : Block) uk)] : List Block)), (k7 + 1), rfl, t7, (kd.trans (gb.le.trans (gn.le.trans (gy.le.trans (u6.le.trans (ue.le.trans (uo.le.trans (us.le.trans (uz.le.trans t6.tch.le))))))))), hr, rfl, t6.bld, rfl, kh, ki, kj, kk⟩⟩))
       ·have hr := ite_f uj hr; refine W_skip (then_n (W_region (mv ke (L_load_var ty58 (rfl : _ = Value.pointer (some ⟨u5, 0, none⟩)) (uf) (by decide) (fun uk ul => L_buildSlice (xs := ([(⟨k7, km, ([g3.Peer] : List Int)⟩ : Block)] : List Block)) Try.underlying53 tyz58 (Parts_cons rfl (rfl : _ = uk) Parts_nil) (Vs.cons ul Vs.nil) rfl (by decide) (by decide) (fun um un uo up uq => ?_)))))); have ur := Tch.ext ug uo; obtain ⟨us, hr⟩ := chk_some hr; refine L_append (xs := k6) (B := s0.w.heap.size) Try.underlying53 tyz58 (rfl : _ = k5) (rfl : _ = un) (((((((kf).ext gb).tch gn (fun k hk => gh k hk)).ext gy).ext u6).tch ue (fun k hk => ub k hk)).ext uo) (ur.size) uq us.1 us.2 (by decide) (fun ut uu uv => ?_); have uw := uv.tchM (((((((kf).ext gb).tch gn (fun k hk => gh k hk)).ext gy).ext u6).tch ue (fun k hk => ub k hk)).ext uo) ur (Nat.le_refl _); refine asg (rfl : _ = ut) (L_nil (block_n (then_n (W_region ?_)))); obtain ⟨ux, hr⟩ := chk_some hr; exact L_add kg (rfl : _ = Value.int .i64 (1)) ux (by decide) (mv (rfl : _ = Value.int .i64 (k7 + 1)) (nn ⟨k8, Nat.lt_succ_self _, ⟨uu, ut, (k6 ++ ([(⟨k7, km, ([g3.Peer] : List Int)⟩ : Block)] : List Block)), (k7 + 1), rfl, uw, (kd.trans (gb.le.trans (gn.le.trans (gy.le.trans (u6.le.trans (ue.le.trans (uo.le.trans uv.tch.le))))))), hr, rfl, uv.bld, rfl, kh, ki, kj, kk⟩⟩))
    ·have hr := ite_f kl hr; refine W_exit (then_x (then_x (block_here ?_))); exact then_n ⟨kb, k5, k6, rfl, kc, kd, Option.some.inj hr, ke, kf⟩
  ·rintro k5 k6 ⟨k7, k3, k4, rfl, k8, k9, k1, ka, kb⟩; subst k1; have hr := k2; (try dsimp only at hr); refine then_n (sr (mv ka (asg (rfl : _ = k3) (asg (rfl : _ = Value.int .i64 (0)) (nn (W_ret ?_)))))); obtain rfl := Option.some.inj hr; exact done2 (Or.inl rfl) Try.results24 rfl rfl ⟨_, _, rfl, rfl, k8, _, _, rfl, (kb).toV, Vint⟩

theorem slices_IndexFunc_Ldead_Block_dead_Block_ok (N : Nat) (s0 : St) (w0 : Value) (a0 : List Block) (h0 : V s0 w0 a0) (w1 : Value) (a1 : Block → Option Bool) (h1 : Fn1 Try.prog s0 w1 a1) (r : Int) (hr : slices_IndexFunc_Ldead_Block_dead_Block N a0 a1 = some r) :
    Calls Try.prog 77 #[w0, w1] s0.w (Ret s0 fun v s => V s v r) := by
 unfold slices_IndexFunc_Ldead_Block_dead_Block at hr
 have j0 := Ext.refl s0
 refine Calls_of (n := 19) (args := [w0, w1]) Try.func77 rfl rfl (by simp) (sr (asg (rfl : _ = Value.int .i64 (0)) (nn (W_seq (sr (mv (rfl : _ = w0) (L_len Try.underlying53 (rfl : _ = w0) h0 (by decide) (mv (rfl : _ = Value.int .i64 (0)) (nn ?_)))))))))
 obtain ⟨j1, j2, j3⟩ := bind_some hr
 refine W_cut (fun f w => ∃ (s : St), s.w = w ∧ Ext s0 s ∧ Le s0 s ∧ Sum.inl () = j1) ?_ ?_
 ·refine W_block (W_loop (fun m f w => ∃ (s : St) (j4 : Int), s.w = w ∧ Ext s0 s ∧ Le s0 s ∧ slices_IndexFunc_Ldead_Block_dead_Block_l1 N a0 a1 m j4 = some j1 ∧ f 8 = Value.int .i64 j4 ∧ f 0 = w0 ∧ f 1 = w1 ∧ f 7 = Value.int .i64 ((a0.length : Int))) N ⟨s0, 0, rfl, j0, (Le.refl _), j2, rfl, rfl, rfl, rfl⟩ ?_)
  rintro j5 j6 j7 ⟨j8, j4, rfl, j9, ja, hr, jb, jc, jd, je⟩
  cases j5 with
  | zero => exact absurd hr (by simp [slices_IndexFunc_Ldead_Block_dead_Block_l1])
  | succ j5 =>
   rw [slices_IndexFunc_Ldead_Block_dead_Block_l1.eq_2] at hr
   refine sr (L_lss jb je (by decide) (nn (W_seq ?_)))
   refine W_cond _ (rfl : _ = Value.bool (decide (j4 < (a0.length : Int)))) (fun jf => ?_) (fun jf => ?_)
   ·have hr := ite_t jf hr
    refine W_skip (then_n (W_seq (W_block (sr (mv jb (asg (rfl : _ = Value.int .i64 (j4)) (nn (sr (mv jd (mv jc (mv (rfl : _ = Value.int .i64 (j4)) ?_)))))))))))
    obtain ⟨jg, jh, hr⟩ := bind_some hr
    refine L_index Try.underlying53 ty58.inf (rfl : _ = w0) (h0.mono ja) (rfl : _ = Value.int .i64 (j4)) jh (by decide) (fun ji jj => L_load ty58 (rfl : _ = ji) jj (by decide) (fun jk jl => ?_))
    obtain ⟨jm, jn, hr⟩ := bind_some hr
    refine L_call1 (rfl : _ = w1) (h1.mono ja) (rfl : _ = jk) jl jn (by decide) (fun jo jp jq jr => ?_)
    have js := Tch.ext j9 jq
    obtain rfl := jr.bool
    refine nn ?_
    refine W_cond _ (rfl : _ = Value.bool (jm)) (fun jt => ?_) (fun jt => ?_)
    ·have hr := ite_t jt hr; refine sr (mv (rfl : _ = Value.int .i64 (j4)) (asg (rfl : _ = Value.int .i64 (j4)) (nn (W_ret (block_r (then_r (then_r (block_r ?_)))))))); obtain rfl := Option.some.inj hr; have hr := j3; (try dsimp only at hr); refine then_r (then_r ?_); obtain rfl := Option.some.inj hr; exact done1 (Or.inl rfl) Try.results77 rfl ⟨_, _, rfl, rfl, js, Vint⟩
    ·have hr := ite_f jt hr; refine W_skip (block_n (then_n (W_region ?_))); obtain ⟨ju, hr⟩ := chk_some hr; exact L_add jb (rfl : _ = Value.int .i64 (1)) ju (by decide) (mv (rfl : _ = Value.int .i64 (j4 + 1)) (nn ⟨j5, Nat.lt_succ_self _, ⟨jp, (j4 + 1), rfl, js, (ja.trans jq.le), hr, rfl, jc, jd, je⟩⟩))
   ·have hr := ite_f jf hr; refine W_exit (then_x (then_x (block_here ?_))); exact then_n ⟨j8, rfl, j9, ja, Option.some.inj hr⟩
 ·rintro j4 j5 ⟨j6, rfl, j7, j8, j2⟩; subst j2; have hr := j3; (try dsimp only at hr); refine then_n (sr (asg (rfl : _ = Value.int .i64 (-1)) (nn (W_ret ?_)))); obtain rfl := Option.some.inj hr; exact done1 (Or.inl rfl) Try.results77 rfl ⟨_, _, rfl, rfl, j7, Vint⟩

theorem slices_ContainsFunc_Ldead_Block_dead_Block_ok (N : Nat) (s0 : St) (w0 : Value) (a0 : List Block) (h0 : V s0 w0 a0) (w1 : Value) (a1 : Block → Option Bool) (h1 : Fn1 Try.prog s0 w1 a1) (r : Bool) (hr : slices_ContainsFunc_Ldead_Block_dead_Block N a0 a1 = some r) :
    Calls Try.prog 52 #[w0, w1] s0.w (Ret s0 fun v s => V s v r) := by
 unfold slices_ContainsFunc_Ldead_Block_dead_Block at hr
 have j0 := Ext.refl s0
 refine Calls_of (n := 9) (args := [w0, w1]) Try.func52 rfl rfl (by simp) (sr (asg (rfl : _ = Value.bool (false)) (nn (sr (mv (rfl : _ = w0) (mv (rfl : _ = w1) ?_))))))
 obtain ⟨j1, j2, hr⟩ := bind_some hr
 refine L_calls cal77 (args2 (rfl : _ = w0) (rfl : _ = w1)) (slices_IndexFunc_Ldead_Block_dead_Block_ok N _ _ _ h0 _ a1 h1 j1 j2) (by decide) (fun j3 j4 j5 j6 => ?_)
 have j7 := Tch.ext j0 j5
 obtain rfl := j6.int
 refine L_geq (rfl : _ = Value.int .i64 (j1)) (rfl : _ = Value.int .i64 (0)) (by decide) (asg (rfl : _ = Value.bool (decide (0 ≤ j1))) (nn (W_ret ?_)))
 obtain rfl := Option.some.inj hr
 exact done1 (Or.inl rfl) Try.results52 rfl ⟨_, _, rfl, rfl, j7, Vbool⟩

theorem dead_Cycle_1_ok (N : Nat) (s0 : St) (w0 : Value) (a0 : Block) (h0 : V s0 w0 a0) (w1 : Value) (a1 : Int) (h1 : Ptr s0 w1 a1) (r : Bool) (hr : dead_Cycle_1 N a0 a1 = some r) :
    Calls Try.prog 53 #[w0, w1] s0.w (Ret s0 fun v s => V s v r) := by
 unfold dead_Cycle_1 at hr
 have j0 := Ext.refl s0
 refine Calls_of (n := 8) (args := [w0, w1]) Try.func53 rfl rfl (by simp) (sr (L_box (rfl : _ = w0) h0 (by decide) (fun j1 j2 j3 j4 => ?_)))
 have j5 := Tch.ext j0 j3
 refine asg (rfl : _ = Value.bool (false)) (nn (sr (L_fieldAddr fld58_0 Block.of_Process (rfl : _ = j2) j4 (by decide) (fun j6 j7 => li ty3 (rfl : _ = j6) j7 (li ty3 (rfl : _ = w1) (h1.mono j3.le) (L_eql (rfl : _ = Value.int .i64 (a0.Proc)) (rfl : _ = Value.int .i64 (a1)) (by decide) (asg (rfl : _ = Value.bool (decide (a0.Proc = a1))) (nn (W_ret ?_)))))))))
 obtain rfl := Option.some.inj hr
 exact done1 (Or.inl rfl) Try.results53 rfl ⟨_, _, rfl, rfl, j5, Vbool⟩

theorem slices_Index_Lint_int_ok (N : Nat) (s0 : St) (w0 : Value) (a0 : List Int) (h0 : V s0 w0 a0) (a1 : Int) (r : Int) (hr : slices_Index_Lint_int N a0 a1 = some r) :
    Calls Try.prog 55 #[w0, .int .i64 a1] s0.w (Ret s0 fun v s => V s v r) := by
 unfold slices_Index_Lint_int at hr
 have j0 := Ext.refl s0
 refine Calls_of (n := 19) (args := [w0, .int .i64 a1]) Try.func55 rfl rfl (by simp) (sr (asg (rfl : _ = Value.int .i64 (0)) (nn (W_seq (sr (mv (rfl : _ = w0) (L_len Try.underlying23 (rfl : _ = w0) h0 (by decide) (mv (rfl : _ = Value.int .i64 (0)) (nn ?_)))))))))
 obtain ⟨j1, j2, j3⟩ := bind_some hr
 refine W_cut (fun f w => ∃ (s : St), s.w = w ∧ Ext s0 s ∧ Le s0 s ∧ Sum.inl () = j1) ?_ ?_
 ·refine W_block (W_loop (fun m f w => ∃ (s : St) (j4 : Int), s.w = w ∧ Ext s0 s ∧ Le s0 s ∧ slices_Index_Lint_int_l1 N a0 a1 m j4 = some j1 ∧ f 8 = Value.int .i64 j4 ∧ f 0 = w0 ∧ f 1 = Value.int .i64 (a1) ∧ f 7 = Value.int .i64 ((a0.length : Int))) N ⟨s0, 0, rfl, j0, (Le.refl _), j2, rfl, rfl, rfl, rfl⟩ ?_)
  rintro j5 j6 j7 ⟨j8, j4, rfl, j9, ja, hr, jb, jc, jd, je⟩
  cases j5 with
  | zero => exact absurd hr (by simp [slices_Index_Lint_int_l1])
  | succ j5 =>
   rw [slices_Index_Lint_int_l1.eq_2] at hr
   refine sr (L_lss jb je (by decide) (nn (W_seq ?_)))
   refine W_cond _ (rfl : _ = Value.bool (decide (j4 < (a0.length : Int)))) (fun jf => ?_) (fun jf => ?_)
   ·have hr := ite_t jf hr
    refine W_skip (then_n (W_seq (W_block (sr (mv jb (asg (rfl : _ = Value.int .i64 (j4)) (nn (sr (mv jd (mv jc (mv (rfl : _ = Value.int .i64 (j4)) ?_)))))))))))
    obtain ⟨jg, jh, hr⟩ := bind_some hr
    refine L_index Try.underlying23 ty3.inf (rfl : _ = w0) (h0.mono ja) (rfl : _ = Value.int .i64 (j4)) jh (by decide) (fun ji jj => li ty3 (rfl : _ = ji) jj (L_eql (rfl : _ = Value.int .i64 (a1)) (rfl : _ = Value.int .i64 (jg)) (by decide) (nn ?_)))
    refine W_cond _ (rfl : _ = Value.bool (decide (a1 = jg))) (fun jk => ?_) (fun jk => ?_)
    ·have hr := ite_t jk hr; refine sr (mv (rfl : _ = Value.int .i64 (j4)) (asg (rfl : _ = Value.int .i64 (j4)) (nn (W_ret (block_r (then_r (then_r (block_r ?_)))))))); obtain rfl := Option.some.inj hr; have hr := j3; (try dsimp only at hr); refine then_r (then_r ?_); obtain rfl := Option.some.inj hr; exact done1 (Or.inl rfl) Try.results55 rfl ⟨_, _, rfl, rfl, j9, Vint⟩
    ·have hr := ite_f jk hr; refine W_skip (block_n (then_n (W_region ?_))); obtain ⟨jl, hr⟩ := chk_some hr; exact L_add jb (rfl : _ = Value.int .i64 (1)) jl (by decide) (mv (rfl : _ = Value.int .i64 (j4 + 1)) (nn ⟨j5, Nat.lt_succ_self _, ⟨j8, (j4 + 1), rfl, j9, ja, hr, rfl, jc, jd, je⟩⟩))
   ·have hr := ite_f jf hr; refine W_exit (then_x (then_x (block_here ?_))); exact then_n ⟨j8, rfl, j9, ja, Option.some.inj hr⟩
 ·rintro j4 j5 ⟨j6, rfl, j7, j8, j2⟩; subst j2; have hr := j3; (try dsimp only at hr); refine then_n (sr (asg (rfl : _ = Value.int .i64 (-1)) (nn (W_ret ?_)))); obtain rfl := Option.some.inj hr; exact done1 (Or.inl rfl) Try.results55 rfl ⟨_, _, rfl, rfl, j7, Vint⟩

theorem slices_Contains_Lint_int_ok (N : Nat) (s0 : St) (w0 : Value) (a0 : List Int) (h0 : V s0 w0 a0) (a1 : Int) (r : Bool) (hr : slices_Contains_Lint_int N a0 a1 = some r) :
    Calls Try.prog 54 #[w0, .int .i64 a1] s0.w (Ret s0 fun v s => V s v r) := by
 unfold slices_Contains_Lint_int at hr
 have j0 := Ext.refl s0
 refine Calls_of (n := 9) (args := [w0, .int .i64 a1]) Try.func54 rfl rfl (by simp) (sr (asg (rfl : _ = Value.bool (false)) (nn (sr (mv (rfl : _ = w0) (mv (rfl : _ = Value.int .i64 (a1)) ?_))))))
 obtain ⟨j1, j2, hr⟩ := bind_some hr
 refine L_calls cal55 (args2 (rfl : _ = w0) (rfl : _ = Value.int .i64 (a1))) (slices_Index_Lint_int_ok N _ _ _ h0 a1 j1 j2) (by decide) (fun j3 j4 j5 j6 => ?_)
 have j7 := Tch.ext j0 j5
 obtain rfl := j6.int
 refine L_geq (rfl : _ = Value.int .i64 (j1)) (rfl : _ = Value.int .i64 (0)) (by decide) (asg (rfl : _ = Value.bool (decide (0 ≤ j1))) (nn (W_ret ?_)))
 obtain rfl := Option.some.inj hr
 exact done1 (Or.inl rfl) Try.results54 rfl ⟨_, _, rfl, rfl, j7, Vbool⟩

theorem slices_Min_Lint_int_ok (N : Nat) (s0 : St) (w0 : Value) (a0 : List Int) (h0 : V s0 w0 a0) (r : Int) (hr : slices_Min_Lint_int N a0 = some r) :
    Calls Try.prog 56 #[w0] s0.w (Ret s0 fun v s => V s v r) := by
 unfold slices_Min_Lint_int at hr
 have j0 := Ext.refl s0
 refine Calls_of (n := 25) (args := [w0]) Try.func56 rfl rfl (by simp) (sr (asg (rfl : _ = Value.int .i64 (0)) (nn (W_seq (sr (mv (rfl : _ = w0) (L_len Try.underlying23 (rfl : _ = w0) h0 (by decide) (L_lss (rfl : _ = Value.int .i64 ((a0.length : Int))) (rfl : _ = Value.int .i64 (1)) (by decide) (nn ?_)))))))))
 refine W_cond _ (rfl : _ = Value.bool (decide ((a0.length : Int) < 1))) (fun j1 => ?_) (fun j1 => ?_)
 ·have hr := ite_t j1 hr
  refine W_region ?_
  cases hr
 ·have hr := ite_f j1 hr
  refine W_skip (then_n (sr (mv (rfl : _ = w0) ?_)))
  obtain ⟨j2, j3, hr⟩ := bind_some hr
  refine L_index Try.underlying23 ty3.inf (rfl : _ = w0) h0 (rfl : _ = Value.int .i64 (0)) j3 (by decide) (fun j4 j5 => li ty3 (rfl : _ = j4) j5 (asg (rfl : _ = Value.int .i64 (j2)) (nn (W_seq (sr (asg (rfl : _ = Value.int .i64 (1)) (nn ?_)))))))
  obtain ⟨j6, j7, j8⟩ := bind_some hr
  refine W_cut (fun f w => ∃ (s : St) (j9 : Int), s.w = w ∧ Ext s0 s ∧ Le s0 s ∧ j9 = j6 ∧ f 3 = Value.int .i64 j9) ?_ ?_
  ·refine W_block (W_loop (fun m f w => ∃ (s : St) (ja : Int) (jb : Int), s.w = w ∧ Ext s0 s ∧ Le s0 s ∧ slices_Min_Lint_int_l1 N a0 m ja jb = some j6 ∧ f 3 = Value.int .i64 ja ∧ f 4 = Value.int .i64 jb ∧ f 0 = w0) N ⟨s0, j2, 1, rfl, j0, (Le.refl _), j7, rfl, rfl, rfl⟩ ?_)
   rintro jc jd je ⟨jf, ja, jb, rfl, jg, jh, hr, ji, jj, jk⟩
   cases jc with
   | zero => exact absurd hr (by simp [slices_Min_Lint_int_l1])
   | succ jc =>
    rw [slices_Min_Lint_int_l1.eq_2] at hr
    refine W_seq (sr (mv jj (mv jk (L_len Try.underlying23 (rfl : _ = w0) (h0.mono jh) (by decide) (L_lss (rfl : _ = Value.int .i64 (jb)) (rfl : _ = Value.int .i64 ((a0.length : Int))) (by decide) (nn ?_))))))
    refine W_cond _ (rfl : _ = Value.bool (decide (jb < (a0.length : Int)))) (fun jl => ?_) (fun jl => ?_)
    ·have hr := ite_t jl hr; refine W_skip (then_n (W_seq (W_block (W_region (mv ji (mv jk (mv jj ?_))))))); obtain ⟨jm, jn, hr⟩ := bind_some hr; refine L_index Try.underlying23 ty3.inf (rfl : _ = w0) (h0.mono jh) (rfl : _ = Value.int .i64 (jb)) jn (by decide) (fun jo jp => li ty3 (rfl : _ = jo) jp (L_min (rfl : _ = Value.int .i64 (ja)) (rfl : _ = Value.int .i64 (jm)) (by decide) (asg (rfl : _ = Value.int .i64 (min ja jm)) (L_nil (block_n (then_n (W_region (mv jj ?_)))))))); obtain ⟨jq, hr⟩ := chk_some hr; exact L_add (rfl : _ = Value.int .i64 (jb)) (rfl : _ = Value.int .i64 (1)) jq (by decide) (asg (rfl : _ = Value.int .i64 (jb + 1)) (nn ⟨jc, Nat.lt_succ_self _, ⟨jf, (min ja jm), (jb + 1), rfl, jg, jh, hr, rfl, rfl, jk⟩⟩))
    ·have hr := ite_f jl hr; refine W_exit (then_x (then_x (block_here ?_))); exact then_n ⟨jf, ja, rfl, jg, jh, Option.some.inj hr, ji⟩
  ·rintro ja jb ⟨jc, j9, rfl, jd, je, j7, jf⟩; subst j7; have hr := j8; (try dsimp only at hr); refine then_n (sr (mv jf (asg (rfl : _ = Value.int .i64 (j9)) (nn (W_ret ?_))))); obtain rfl := Option.some.inj hr; exact done1 (Or.inl rfl) Try.results56 rfl ⟨_, _, rfl, rfl, jd, Vint⟩

theorem slices_Grow_Lint_int_ok (N : Nat) (s0 : St) (a1 : Int) (r : (List Int)) (hr : slices_Grow_Lint_int N a1 = some r) :
    Calls Try.prog 78 #[.slice none 0 0, .int .i64 a1] s0.w (Ret s0 fun v s => Bld s s0.w.heap.size 3 v r) := by
 unfold slices_Grow_Lint_int at hr
 have j0 := Ext.refl s0
 refine Calls_of (n := 27) (args := [.slice none 0 0, .int .i64 a1]) Try.func78 rfl rfl (by simp) (sr (asg (rfl : _ = Value.slice none 0 0) (nn (W_seq (sr (mv (rfl : _ = Value.int .i64 (a1)) (L_lss (rfl : _ = Value.int .i64 (a1)) (rfl : _ = Value.int .i64 (0)) (by decide) (nn ?_))))))))
 refine W_cond _ (rfl : _ = Value.bool (decide (a1 < 0))) (fun j1 => ?_) (fun j1 => ?_)
 ·have hr := ite_t j1 hr
  refine W_region ?_
  cases hr
 ·have hr := ite_f j1 hr
  refine W_skip (then_n (W_seq (sr (mv (rfl : _ = Value.int .i64 (a1)) (mv (rfl : _ = Value.slice none 0 0) (L_capNil Try.underlying23 (rfl : _ = Value.slice none 0 0) (by decide) (mv (rfl : _ = Value.slice none 0 0) (L_lenA Try.underlying23 (rfl : _ = Value.slice none 0 0) (by decide) ?_))))))))
  obtain ⟨j2, hr⟩ := chk_some hr
  refine L_sub (rfl : _ = Value.int .i64 (0)) (rfl : _ = Value.int .i64 (((0 : Nat) : Int))) j2 (by decide) ?_
  obtain ⟨j3, hr⟩ := chk_some hr
  refine L_sub (rfl : _ = Value.int .i64 (a1)) (rfl : _ = Value.int .i64 (0 - ((0 : Nat) : Int))) j3 (by decide) (asg (rfl : _ = Value.int .i64 (a1 - (0 - ((0 : Nat) : Int)))) (nn (sr (mv (rfl : _ = Value.int .i64 (a1 - (0 - ((0 : Nat) : Int)))) (L_gtr (rfl : _ = Value.int .i64 (a1 - (0 - ((0 : Nat) : Int)))) (rfl : _ = Value.int .i64 (0)) (by decide) (nn ?_))))))
  refine W_cond _ (rfl : _ = Value.bool (decide (0 < (a1 - (0 - ((0 : Nat) : Int)))))) (fun j4 => ?_) (fun j4 => ?_)
  ·have hr := ite_t j4 hr; refine W_region (mv (rfl : _ = Value.slice none 0 0) (mv (rfl : _ = Value.slice none 0 0) (L_capNil Try.underlying23 (rfl : _ = Value.slice none 0 0) (by decide) ?_))); obtain ⟨j5, hr⟩ := chk_some hr; refine L_sliceNil Try.underlying23 ty3.inf (rfl : _ = Value.slice none 0 0) (rfl : _ = Value.int .i64 (0)) j5 (by decide) (mv (rfl : _ = Value.int .i64 (a1 - (0 - ((0 : Nat) : Int)))) ?_); obtain ⟨j6, hr⟩ := chk_some hr; refine L_growNil (α := Int) Try.underlying23 Try.underlying3 tyz3 (rfl : _ = Value.slice none 0 0) (rfl : _ = Value.int .i64 (a1 - (0 - ((0 : Nat) : Int)))) j6.1 j6.2.1 j6.2.2 (by decide) (fun j7 j8 j9 ja jb => ?_); have jc := Tch.ext j0 ja; refine mv (rfl : _ = Value.slice none 0 0) (L_lenA Try.underlying23 (rfl : _ = Value.slice none 0 0) (by decide) ?_); obtain ⟨jd, hr⟩ := chk_some hr; refine L_slice0 Try.underlying23 ty3.inf (rfl : _ = (Value.slice (some ⟨j8, 0, none⟩) (a1 - (0 - ((0 : Nat) : Int))).toNat j9)) (rfl : _ = Value.int .i64 (((0 : Nat) : Int))) jd (by decide) (asg (rfl : _ = (Value.slice (some ⟨j8, 0, none⟩) 0 j9)) (nn (sr (mv (rfl : _ = (Value.slice (some ⟨j8, 0, none⟩) 0 j9)) (asg (rfl : _ = (Value.slice (some ⟨j8, 0, none⟩) 0 j9)) (nn (W_ret ?_))))))); obtain rfl := Option.some.inj hr; exact done1 (Or.inl rfl) Try.results78 rfl ⟨_, _, rfl, rfl, jc, (jb.base j0.size)⟩
  ·have hr := ite_f j4 hr; refine W_skip (then_n (sr (mv (rfl : _ = Value.slice none 0 0) (asg (rfl : _ = Value.slice none 0 0) (nn (W_ret ?_)))))); obtain rfl := Option.some.inj hr; exact done1 (Or.inl rfl) Try.results78 rfl ⟨_, _, rfl, rfl, j0, Bld.nil⟩

theorem slices_Concat_Lint_int_ok (N : Nat) (s0 : St) (w0 : Value) (a0 : List (List Int)) (h0 : V s0 w0 a0) (r : (List Int)) (hr : slices_Concat_Lint_int N a0 = some r) :
    Calls Try.prog 57 #[w0] s0.w (Ret s0 fun v s => V s v r) := by
 unfold slices_Concat_Lint_int at hr
 have j0 := Ext.refl s0
 refine Calls_of (n := 36) (args := [w0]) Try.func57 rfl rfl (by simp) (sr (asg (rfl : _ = Value.slice none 0 0) (nn (sr (asg (rfl : _ = Value.int .i64 (0)) (nn (W_seq (sr (mv (rfl : _ = w0) (L_len Try.underlying108 (rfl : _ = w0) h0 (by decide) (mv (rfl : _ = Value.int .i64 (0)) (nn ?_))))))))))))
 obtain ⟨j1, j2, j3⟩ := bind_some hr
 refine W_cut (fun f w => ∃ (s : St) (j4 : Int), s.w = w ∧ Ext s0 s ∧ Le s0 s ∧ j4 = j1 ∧ f 3 = Value.int .i64 j4 ∧ f 0 = w0) ?_ ?_
 ·refine W_block (W_loop (fun m f w => ∃ (s : St) (j5 : Int) (j6 : Int), s.w = w ∧ Ext s0 s ∧ Le s0 s ∧ slices_Concat_Lint_int_l1 N a0 m j5 j6 = some j1 ∧ f 3 = Value.int .i64 j5 ∧ f 11 = Value.int .i64 j6 ∧ f 0 = w0 ∧ f 9 = w0 ∧ f 10 = Value.int .i64 ((a0.length : Int))) N ⟨s0, 0, 0, rfl, j0, (Le.refl _), j2, rfl, rfl, rfl, rfl, rfl⟩ ?_)
  rintro j7 j8 j9 ⟨ja, j5, j6, rfl, jb, jc, hr, jd, je, jf, jg, jh⟩
  cases j7 with
  | zero => exact absurd hr (by simp [slices_Concat_Lint_int_l1])
  | succ j7 =>
   rw [slices_Concat_Lint_int_l1.eq_2] at hr
   refine sr (L_lss je jh (by decide) (nn (W_seq ?_)))
   refine W_cond _ (rfl : _ = Value.bool (decide (j6 < (a0.length : Int)))) (fun ji => ?_) (fun ji => ?_)
   ·have hr := ite_t ji hr
    refine W_skip (then_n (W_seq (W_block (sr ?_))))
    obtain ⟨jj, jk, hr⟩ := bind_some hr
    refine L_index Try.underlying108 ty23.inf jg (h0.mono jc) je jk (by decide) (fun jl jm => L_load ty23 (rfl : _ = jl) jm (by decide) (fun jn jo => asg (rfl : _ = jn) (nn (sr (mv jd (mv (rfl : _ = jn) (L_len Try.underlying23 (rfl : _ = jn) jo (by decide) ?_)))))))
    obtain ⟨jp, hr⟩ := chk_some hr
    refine L_add (rfl : _ = Value.int .i64 (j5)) (rfl : _ = Value.int .i64 ((jj.length : Int))) jp (by decide) (asg (rfl : _ = Value.int .i64 (j5 + (jj.length : Int))) (nn (sr (mv (rfl : _ = Value.int .i64 (j5 + (jj.length : Int))) (L_lss (rfl : _ = Value.int .i64 (j5 + (jj.length : Int))) (rfl : _ = Value.int .i64 (0)) (by decide) (nn ?_))))))
    refine W_cond _ (rfl : _ = Value.bool (decide ((j5 + (jj.length : Int)) < 0))) (fun jq => ?_) (fun jq => ?_)
    ·have hr := ite_t jq hr
     refine W_region ?_
     cases hr
    ·have hr := ite_f jq hr; refine W_skip (block_n (then_n (W_region ?_))); obtain ⟨jr, hr⟩ := chk_some hr; exact L_add je (rfl : _ = Value.int .i64 (1)) jr (by decide) (mv (rfl : _ = Value.int .i64 (j6 + 1)) (nn ⟨j7, Nat.lt_succ_self _, ⟨ja, (j5 + (jj.length : Int)), (j6 + 1), rfl, jb, jc, hr, rfl, rfl, jf, jg, jh⟩⟩))
   ·have hr := ite_f ji hr; refine W_exit (then_x (then_x (block_here ?_))); exact then_n ⟨ja, j5, rfl, jb, jc, Option.some.inj hr, jd, jf⟩
 ·rintro j5 j6 ⟨j7, j4, rfl, j8, j9, j2, ja, jb⟩
  subst j2
  have hr := j3
  try dsimp only at hr
  refine then_n (sr (mv ja ?_))
  obtain ⟨jc, jd, hr⟩ := bind_some hr
  refine L_calls cal78 (args2 (rfl : _ = Value.slice none 0 0) (rfl : _ = Value.int .i64 (j4))) (slices_Grow_Lint_int_ok N _ j4 jc jd) (by decide) (fun je jf jg jh => ?_)
  have ji := Tch.ext j8 jg
  refine asg (rfl : _ = je) (nn (W_seq (sr (mv jb (L_len Try.underlying108 (rfl : _ = w0) (h0.mono (j9.trans jg.le)) (by decide) (mv (rfl : _ = Value.int .i64 (0)) (nn ?_)))))))
  obtain ⟨jj, jk, jl⟩ := bind_some hr
  refine W_cut (fun f w => ∃ (s : St) (jm : Value) (jn : List Int), s.w = w ∧ Ext s0 s ∧ Le jf s ∧ jn = jj ∧ f 6 = jm ∧ Bld s s0.w.heap.size 3 jm jn) ?_ ?_
  ·refine W_block (W_loop (fun m f w => ∃ (s : St) (jo : Value) (jp : List Int) (jq : Int), s.w = w ∧ Ext s0 s ∧ Le jf s ∧ slices_Concat_Lint_int_l2 N a0 m jp jq = some jj ∧ f 6 = jo ∧ Bld s s0.w.heap.size 3 jo jp ∧ f 27 = Value.int .i64 jq ∧ f 25 = w0 ∧ f 26 = Value.int .i64 ((a0.length : Int))) N ⟨jf, je, jc, 0, rfl, ji, (Le.refl _), jk, rfl, (jh.base j8.size), rfl, rfl, rfl⟩ ?_)
   rintro jr js jt ⟨ju, jo, jp, jq, rfl, jv, jw, hr, jx, jy, jz, k0, k1⟩
   cases jr with
   | zero => exact absurd hr (by simp [slices_Concat_Lint_int_l2])
   | succ jr =>
    rw [slices_Concat_Lint_int_l2.eq_2] at hr
    refine sr (L_lss jz k1 (by decide) (nn (W_seq ?_)))
    refine W_cond _ (rfl : _ = Value.bool (decide (jq < (a0.length : Int)))) (fun k2 => ?_) (fun k2 => ?_)
    ·have hr := ite_t k2 hr; refine W_skip (then_n (W_seq (W_block (sr ?_)))); obtain ⟨k3, k4, hr⟩ := bind_some hr; refine L_index Try.underlying108 ty23.inf k0 (h0.mono (j9.trans (jg.le.trans jw))) jz k4 (by decide) (fun k5 k6 => L_load ty23 (rfl : _ = k5) k6 (by decide) (fun k7 k8 => asg (rfl : _ = k7) (nn (W_region (mv jx (mv (rfl : _ = k7) ?_)))))); obtain ⟨k9, hr⟩ := chk_some hr; refine L_append (xs := jp) (B := s0.w.heap.size) Try.underlying23 tyz3 (rfl : _ = jo) (rfl : _ = k7) (jy) (jv.size) k8 k9.1 k9.2 (by decide) (fun ka kb kc => ?_); have kd := kc.tchM (jy) jv (Nat.le_refl _); refine asg (rfl : _ = ka) (L_nil (block_n (then_n (W_region ?_)))); obtain ⟨ke, hr⟩ := chk_some hr; exact L_add jz (rfl : _ = Value.int .i64 (1)) ke (by decide) (mv (rfl : _ = Value.int .i64 (jq + 1)) (nn ⟨jr, Nat.lt_succ_self _, ⟨kb, ka, (jp ++ k3), (jq + 1), rfl, kd, (jw.trans kc.tch.le), hr, rfl, kc.bld, rfl, k0, k1⟩⟩))
    ·have hr := ite_f k2 hr; refine W_exit (then_x (then_x (block_here ?_))); exact then_n ⟨ju, jo, jp, rfl, jv, jw, Option.some.inj hr, jx, jy⟩
  ·rintro jo jp ⟨jq, jm, jn, rfl, jr, js, jk, jt, ju⟩; subst jk; have hr := jl; (try dsimp only at hr); refine then_n (sr (mv jt (asg (rfl : _ = jm) (nn (W_ret ?_))))); obtain rfl := Option.some.inj hr; exact done1 (Or.inl rfl) Try.results57 rfl ⟨_, _, rfl, rfl, jr, (ju).toV⟩

theorem dead_Cycle_ok (N : Nat) (s0 : St) (w0 : Value) (a0 : List (List Deed)) (h0 : V s0 w0 a0) (a1 : Int) (r : (List Int) × Int) (hr : dead_Cycle N a0 a1 = some r) :
    Calls Try.prog 25 #[w0, .int .i64 a1] s0.w (Ret s0 fun v s => ∃ a b, v = .tuple #[a, b] ∧ V s a r.1 ∧ V s b r.2) := by
 unfold dead_Cycle at hr
 have j0 := Ext.refl s0
 refine Calls_of (n := 95) (args := [w0, .int .i64 a1]) Try.func25 rfl rfl (by simp) (sr (asg (rfl : _ = Value.slice none 0 0) (asg (rfl : _ = Value.int .i64 (0)) (nn (sr (mv (rfl : _ = w0) (mv (rfl : _ = Value.int .i64 (a1)) ?_)))))))
 obtain ⟨j1, j2, hr⟩ := bind_some hr
 refine L_calls cal24 (args2 (rfl : _ = w0) (rfl : _ = Value.int .i64 (a1))) (dead_Blocks_ok N _ _ _ h0 a1 j1 j2) (by decide) (fun j3 j4 j5 j6 => ?_)
 have j7 := Tch.ext j0 j5
 obtain ⟨j8, j9, rfl, ja, jb⟩ := j6
 obtain rfl := jb.int
 refine mv (rfl : _ = Value.tuple #[j8, Value.int .i64 (j1.2)]) (L_extract (rfl : _ = Value.tuple #[j8, Value.int .i64 (j1.2)]) (k := 0) rfl (by decide) (L_extract (rfl : _ = Value.tuple #[j8, Value.int .i64 (j1.2)]) (k := 1) rfl (by decide) (asg (rfl : _ = j8) (asg (rfl : _ = Value.int .i64 (j1.2)) (nn (W_seq (sr (mv (rfl : _ = Value.int .i64 (j1.2)) (L_neq (rfl : _ = Value.int .i64 (j1.2)) (rfl : _ = Value.int .i64 (0)) (by decide) (nn ?_))))))))))
 refine W_cond _ (rfl : _ = Value.bool (!decide (j1.2 = 0))) (fun jc => ?_) (fun jc => ?_)
 ·have hr := ite_t jc hr; refine sr (mv (rfl : _ = Value.int .i64 (j1.2)) (asg (rfl : _ = Value.slice none 0 0) (asg (rfl : _ = Value.int .i64 (j1.2)) (nn (W_ret (then_r ?_)))))); obtain rfl := Option.some.inj hr; exact done2 (Or.inl rfl) Try.results25 rfl rfl ⟨_, _, rfl, rfl, j7, _, _, rfl, Vnil, Vint⟩
 ·have hr := ite_f jc hr
  refine W_skip (then_n (sr (L_makeMap (β := Int) (by decide) (fun jd je jf jg jh => ?_))))
  have ji := Tch.ext j7 jf
  refine asg (rfl : _ = Value.map (some je)) (nn (W_seq (sr (mv (rfl : _ = j8) (L_len Try.underlying53 (rfl : _ = j8) (ja.mono jf.le) (by decide) (mv (rfl : _ = Value.int .i64 (0)) (nn ?_)))))))
  obtain ⟨jj, jk, jl⟩ := bind_some hr
  refine W_cut (fun f w => ∃ (s : St) (jm : List (Int × Int)), s.w = w ∧ Ext s0 s ∧ Le jd s ∧ jm = jj ∧ f 6 = j8 ∧ f 8 = Value.map (some je) ∧ MapX s je jm) ?_ ?_
  ·refine W_block (W_loop (fun m f w => ∃ (s : St) (jn : Int) (jo : List (Int × Int)), s.w = w ∧ Ext s0 s ∧ Le jd s ∧ dead_Cycle_l1 N j1 m jn jo = some jj ∧ f 31 = Value.int .i64 jn ∧ f 6 = j8 ∧ f 8 = Value.map (some je) ∧ f 29 = j8 ∧ f 30 = Value.int .i64 ((j1.1.length : Int)) ∧ MapX s je jo) N ⟨jd, 0, ([] : List (Int × Int)), rfl, ji, (Le.refl _), jk, rfl, rfl, rfl, rfl, rfl, jh⟩ ?_)
   rintro jp jq jr ⟨js, jn, jo, rfl, jt, ju, hr, jv, jw, jx, jy, jz, k0⟩
   cases jp with
   | zero => exact absurd hr (by simp [dead_Cycle_l1])
   | succ jp =>
    rw [dead_Cycle_l1.eq_2] at hr
    refine sr (L_lss jv jz (by decide) (nn (W_seq ?_)))
    refine W_cond _ (rfl : _ = Value.bool (decide (jn < (j1.1.length : Int)))) (fun k1 => ?_) (fun k1 => ?_)
    ·have hr := ite_t k1 hr
     refine W_skip (then_n (W_seq (W_block (sr ?_))))
     obtain ⟨k2, k3, hr⟩ := bind_some hr
     refine L_index Try.underlying53 ty58.inf jy (ja.mono (jf.le.trans ju)) jv k3 (by decide) (fun k4 k5 => L_load ty58 (rfl : _ = k4) k5 (by decide) (fun k6 k7 => L_alloc (α := Block) (x := ⟨0, 0, []⟩) zero58 Block.zero_rel (by decide) (fun k8 k9 ka kb kc => ?_)))
     have kd := Tch.ext jt ka
     have ke : ∀ k, (fun k => k = je) k → ¬ (fun k => k = k9) k := fun k kf kg => by have kh := (fun k (hk : k = je) => lt_at hk (k0).lt) k kf; have ki := kb; subst kg; omega
     refine L_store_ro ty58 (rfl : _ = Value.pointer (some ⟨k9, 0, none⟩)) (rfl : _ = k6) (k7.mono ka.le) (kc) (fun kj kk kl => ?_)
     have km := Tch.trans kd kk (fun k hk => Or.inr (by subst hk; exact (Nat.le_trans jt.size kb)))
     refine nn (sr (L_fieldAddr fld58_2 Block.of_For (rfl : _ = Value.pointer (some ⟨k9, 0, none⟩)) kl (by decide) (fun kn ko => L_load ty23 (rfl : _ = kn) ko (by decide) (fun kp kq => L_len Try.underlying23 (rfl : _ = kp) kq (by decide) (mv (rfl : _ = Value.int .i64 (0)) (nn ?_))))))
     obtain ⟨kr, ks, kt⟩ := bind_some hr
     refine W_cut (fun f w => ∃ (s : St) (ku : List (Int × Int)), s.w = w ∧ Ext s0 s ∧ Le kj s ∧ ku = kr ∧ f 6 = j8 ∧ f 8 = Value.map (some je) ∧ f 29 = j8 ∧ f 30 = Value.int .i64 ((j1.1.length : Int)) ∧ f 31 = Value.int .i64 (jn) ∧ MapX s je ku) ?_ ?_
     ·refine W_block (W_loop (fun m f w => ∃ (s : St) (kv : Int) (kw : List (Int × Int)), s.w = w ∧ Ext s0 s ∧ Le kj s ∧ dead_Cycle_l2 N j1 k2 m kv kw = some kr ∧ f 38 = Value.int .i64 kv ∧ f 6 = j8 ∧ f 8 = Value.map (some je) ∧ f 10 = Value.pointer (some ⟨k9, 0, none⟩) ∧ f 29 = j8 ∧ f 30 = Value.int .i64 ((j1.1.length : Int)) ∧ f 31 = Value.int .i64 (jn) ∧ f 36 = kp ∧ f 37 = Value.int .i64 ((k2.For.length : Int)) ∧ MapX s je kw) N ⟨kj, 0, jo, rfl, km, (Le.refl _), ks, rfl, jw, jx, rfl, jy, jz, jv, rfl, rfl, ((k0).ext ka).tch kk ((fun k hk => ke k hk) je rfl)⟩ ?_)
      rintro kx ky kz ⟨g0, kv, kw, rfl, g1, g2, hr, g3, g4, g5, g6, g7, g8, g9, ga, gb, gc⟩
      cases kx with
      | zero => exact absurd hr (by simp [dead_Cycle_l2])
      | succ kx =>
       rw [dead_Cycle_l2.eq_2] at hr
       refine sr (L_lss g3 gb (by decide) (nn (W_seq ?_)))
       refine W_cond _ (rfl : _ = Value.bool (decide (kv < (k2.For.length : Int)))) (fun gd => ?_) (fun gd => ?_)
       ·have hr := ite_t gd hr
        refine W_skip (then_n (W_seq (W_block (sr ?_))))
        obtain ⟨gg, gh, hr⟩ := bind_some hr
        refine L_index Try.underlying23 ty3.inf ga (kq.mono g2) g3 gh (by decide) (fun gi gj => li ty3 (rfl : _ = gi) gj (L_alloc (α := Int) (x := 0) zero3 (fun _ => rfl) (by decide) (fun gk gl gm gn go => ?_)))
        have gp := Tch.ext g1 gm
        have gq : ∀ k, (fun k => k = je) k → ¬ (fun k => k = gl) k := fun k kf kg => by have kh := (fun k (hk : k = je) => lt_at hk (gc).lt) k kf; have ki := gn; subst kg; omega
        refine L_store_ro ty3 (rfl : _ = Value.pointer (some ⟨gl, 0, none⟩)) (rfl : _ = Value.int .i64 (gg)) Vint (go) (fun gr gs gu => ?_)
        have gv := Tch.trans gp gs (fun k hk => Or.inr (by subst hk; exact (Nat.le_trans g1.size gn)))
        refine nn (sr (mv g4 (L_makeFunc (args1 (rfl : _ = Value.pointer (some ⟨gl, 0, none⟩))) (by decide) ?_)))
        obtain ⟨gw, gx, hr⟩ := bind_some hr
        refine L_calls cal52 (args2 (rfl : _ = j8) (rfl : _ = Value.func (.func 53) #[] #[Value.pointer (some ⟨gl, 0, none⟩)])) (slices_ContainsFunc_Ldead_Block_dead_Block_ok N _ _ _ (ja.mono (jf.le.trans (ju.trans (ka.le.trans (kk.le.trans (g2.trans (gm.le.trans gs.le))))))) _ (fun x => dead_Cycle_1 N x gg) (Fn1.mk1 cal53 fun t vx x r hl hv hr => dead_Cycle_1_ok N t vx x hv _ _ ((gu).mono hl) r hr) gw gx) (by decide) (fun gy gz u0 u1 => ?_)
        have u2 := Tch.ext gv u0
        obtain rfl := u1.bool
        refine nn ?_
        refine W_cond _ (rfl : _ = Value.bool (gw)) (fun u3 => ?_) (fun u3 => ?_)
        ·have hr := ite_t u3 hr; refine sr (mv g5 (L_fieldAddr fld58_0 Block.of_Process g6 (kl.mono (g2.trans (gm.le.trans (gs.le.trans u0.le)))) (by decide) (fun u4 u5 => li ty3 (rfl : _ = u4) u5 (li ty3 (rfl : _ = Value.pointer (some ⟨gl, 0, none⟩)) (gu.mono u0.le) (L_mapUpdate (m := kw) Try.underlying92 Try.underlying3 (rfl : _ = Value.map (some je)) (rfl : _ = Value.int .i64 (k2.Proc)) (rfl : _ = Value.int .i64 (gg)) ((((gc).ext gm).tch gs ((fun k hk => gq k hk) je rfl)).ext u0) (Vint : V _ _ (gg : Int)) (fun u6 u7 u9 => ?_)))))); have ua := Tch.trans u2 u7 (fun k hk => Or.inr (by subst hk; exact (Nat.le_trans j7.size jg))); refine nn (W_exit (block_x (by decide) (then_x (then_x (block_here ?_))))); exact then_n ⟨u6, (mset kw k2.Proc gg), rfl, ua, (g2.trans (gm.le.trans (gs.le.trans (u0.le.trans u7.le)))), Option.some.inj hr, g4, g5, g7, g8, g9, u9⟩
        ·have hr := ite_f u3 hr; refine W_skip (block_n (then_n (W_region ?_))); obtain ⟨u4, hr⟩ := chk_some hr; exact L_add g3 (rfl : _ = Value.int .i64 (1)) u4 (by decide) (mv (rfl : _ = Value.int .i64 (kv + 1)) (nn ⟨kx, Nat.lt_succ_self _, ⟨gz, (kv + 1), kw, rfl, u2, (g2.trans (gm.le.trans (gs.le.trans u0.le))), hr, rfl, g4, g5, g6, g7, g8, g9, ga, gb, (((gc).ext gm).tch gs ((fun k hk => gq k hk) je rfl)).ext u0⟩⟩))
       ·have hr := ite_f gd hr; refine W_exit (then_x (then_x (block_here ?_))); exact then_n ⟨g0, kw, rfl, g1, g2, Option.some.inj hr, g4, g5, g7, g8, g9, gc⟩
     ·rintro kv kw ⟨kx, ku, rfl, ky, kz, ks, g0, g1, g2, g3, g4, g5⟩; subst ks; have hr := kt; (try dsimp only at hr); refine block_n (then_n (W_region ?_)); obtain ⟨g6, hr⟩ := chk_some hr; exact L_add g4 (rfl : _ = Value.int .i64 (1)) g6 (by decide) (mv (rfl : _ = Value.int .i64 (jn + 1)) (nn ⟨jp, Nat.lt_succ_self _, ⟨kx, (jn + 1), ku, rfl, ky, (ju.trans (ka.le.trans (kk.le.trans kz))), hr, rfl, g0, g1, g2, g3, g5⟩⟩))
    ·have hr := ite_f k1 hr; refine W_exit (then_x (then_x (block_here ?_))); exact then_n ⟨js, jo, rfl, jt, ju, Option.some.inj hr, jw, jx, k0⟩
  ·rintro jn jo ⟨jp, jm, rfl, jq, jr, jk, js, jt, ju⟩
   subst jk
   have hr := jl
   try dsimp only at hr
   refine then_n (W_seq (sr (mv js (L_len Try.underlying53 (rfl : _ = j8) (ja.mono (jf.le.trans jr)) (by decide) (mv (rfl : _ = Value.int .i64 (0)) (nn ?_))))))
   obtain ⟨jv, jw, jx⟩ := bind_some hr
   refine W_cut (fun f w => ∃ (s : St), s.w = w ∧ Ext s0 s ∧ Le jp s ∧ Sum.inl () = jv) ?_ ?_
   ·refine W_block (W_loop (fun m f w => ∃ (s : St) (jy : Int), s.w = w ∧ Ext s0 s ∧ Le jp s ∧ dead_Cycle_l3 N j1 jm m jy = some jv ∧ f 53 = Value.int .i64 jy ∧ f 8 = Value.map (some je) ∧ f 51 = j8 ∧ f 52 = Value.int .i64 ((j1.1.length : Int)) ∧ MapX s je jm) N ⟨jp, 0, rfl, jq, (Le.refl _), jw, rfl, jt, rfl, rfl, ju⟩ ?_)
    rintro jz k0 k1 ⟨k2, jy, rfl, k3, k4, hr, k5, k6, k7, k8, k9⟩
    cases jz with
    | zero => exact absurd hr (by simp [dead_Cycle_l3])
    | succ jz =>
     rw [dead_Cycle_l3.eq_2] at hr
     refine sr (L_lss k5 k8 (by decide) (nn (W_seq ?_)))
     refine W_cond _ (rfl : _ = Value.bool (decide (jy < (j1.1.length : Int)))) (fun ka => ?_) (fun ka => ?_)
     ·have hr := ite_t ka hr
      refine W_skip (then_n (W_seq (W_block (sr ?_))))
      obtain ⟨kb, kc, hr⟩ := bind_some hr
      refine L_index Try.underlying53 ty58.inf k7 (ja.mono (jf.le.trans (jr.trans k4))) k5 kc (by decide) (fun kd ke => L_load ty58 (rfl : _ = kd) ke (by decide) (fun kf kg => L_alloc (α := Block) (x := ⟨0, 0, []⟩) zero58 Block.zero_rel (by decide) (fun kh ki kj kk kl => ?_)))
      have km := Tch.ext k3 kj
      have kn : ∀ k, (fun k => k = je) k → ¬ (fun k => k = ki) k := fun k ko kp => by have kq := (fun k (hk : k = je) => lt_at hk (k9).lt) k ko; have kr := kk; subst kp; omega
      refine L_store_ro ty58 (rfl : _ = Value.pointer (some ⟨ki, 0, none⟩)) (rfl : _ = kf) (kg.mono kj.le) (kl) (fun ks kt ku => ?_)
      have kv := Tch.trans km kt (fun k hk => Or.inr (by subst hk; exact (Nat.le_trans k3.size kk)))
      refine nn (sr (asg (rfl : _ = Value.slice none 0 0) (nn (sr (L_fieldAddr fld58_0 Block.of_Process (rfl : _ = Value.pointer (some ⟨ki, 0, none⟩)) ku (by decide) (fun kw kx => li ty3 (rfl : _ = kw) kx (asg (rfl : _ = Value.int .i64 (kb.Proc)) (asg (rfl : _ = Value.bool (true)) (nn (W_seq ?_))))))))))
      obtain ⟨ky, kz, g0⟩ := bind_some hr
      refine W_cut (fun f w => ∃ (s : St) (g1 : Value) (g2 : List Int) (g3 : Int) (g4 : Bool), s.w = w ∧ Ext s0 s ∧ Le ks s ∧ (g2, g3, g4) = ky ∧ f 15 = g1 ∧ Bld s s0.w.heap.size 3 g1 g2 ∧ f 16 = Value.int .i64 g3 ∧ f 17 = Value.bool g4 ∧ f 8 = Value.map (some je) ∧ f 51 = j8 ∧ f 52 = Value.int .i64 ((j1.1.length : Int)) ∧ f 53 = Value.int .i64 (jy) ∧ MapX s je jm ∧ (∀ k, (own g1) k → ¬ (fun k => k = je) k)) ?_ ?_
      ·refine W_block (W_loop (fun m f w => ∃ (s : St) (g5 : Value) (g6 : List Int) (g7 : Int) (g8 : Bool), s.w = w ∧ Ext s0 s ∧ Le ks s ∧ dead_Cycle_l4 N jm m g6 g7 g8 = some ky ∧ f 15 = g5 ∧ Bld s s0.w.heap.size 3 g5 g6 ∧ f 16 = Value.int .i64 g7 ∧ f 17 = Value.bool g8 ∧ f 8 = Value.map (some je) ∧ f 51 = j8 ∧ f 52 = Value.int .i64 ((j1.1.length : Int)) ∧ f 53 = Value.int .i64 (jy) ∧ MapX s je jm ∧ (∀ k, (own g5) k → ¬ (fun k => k = je) k)) N ⟨ks, (Value.slice none 0 0), ([]), kb.Proc, true, rfl, kv, (Le.refl _), kz, rfl, Bld.nil, rfl, rfl, k6, k7, k8, k5, ((k9).ext kj).tch kt ((fun k hk => kn k hk) je rfl), (fun k h => absurd h own_nil)⟩ ?_)
       rintro g9 ga gb ⟨gc, g5, g6, g7, g8, rfl, gd, gg, hr, gh, gi, gj, gk, gl, gm, gn, go, gp, gq⟩
       cases g9 with
       | zero => exact absurd hr (by simp [dead_Cycle_l4])
       | succ g9 =>
        rw [dead_Cycle_l4.eq_2] at hr
        refine W_seq ?_
        obtain ⟨gr, gs, gu⟩ := bind_some hr
        refine W_seq_cut (fun f w => ∃ (s : St) (gv : Bool), s.w = w ∧ Ext s0 s ∧ Le gc s ∧ gv = gr ∧ f 65 = Value.bool gv ∧ f 8 = Value.map (some je) ∧ f 15 = g5 ∧ f 16 = Value.int .i64 (g7) ∧ f 17 = Value.bool (g8) ∧ f 51 = j8 ∧ f 52 = Value.int .i64 ((j1.1.length : Int)) ∧ f 53 = Value.int .i64 (jy) ∧ MapX s je jm ∧ Bld s s0.w.heap.size 3 g5 g6) ?_ ?_
        ·have hr := gs
         refine W_region (mv gk (mv (rfl : _ = Value.bool (g8)) ?_))
         rcases Bool.eq_false_or_eq_true (g8) with gw | gw
         ·have hr := ite_t gw hr; refine gt 60 (rfl : _ = Value.bool (g8)) gw (mv gh (gt 60 (rfl : _ = Value.bool (g8)) gw (mv gj (gt 60 (rfl : _ = Value.bool (g8)) gw ?_)))); obtain ⟨gx, gy, hr⟩ := bind_some hr; refine L_calls cal54 (args2 (rfl : _ = g5) (rfl : _ = Value.int .i64 (g7))) (slices_Contains_Lint_int_ok N _ _ _ (gi).toV g7 gx gy) (by decide) (fun gz u0 u1 u2 => ?_); have u3 := Tch.ext gd u1; obtain rfl := u2.bool; exact gt 60 (rfl : _ = Value.bool (g8)) gw (L_not (rfl : _ = Value.bool (gx)) (by decide) (pt (rfl : _ = Value.bool (g8)) gw (rfl : _ = Value.bool (!gx)) (nn ⟨u0, (!gx), rfl, u3, u1.le, Option.some.inj hr, rfl, gl, gh, gj, gk, gm, gn, go, (gp).ext u1, (gi).ext u1⟩)))
         ·have hr := ite_f gw hr; exact gf 60 (rfl : _ = Value.bool (g8)) gw (gf 60 (rfl : _ = Value.bool (g8)) gw (gf 60 (rfl : _ = Value.bool (g8)) gw (gf 60 (rfl : _ = Value.bool (g8)) gw (pf (rfl : _ = Value.bool (g8)) gw (rfl : _ = Value.bool (false)) (nn ⟨gc, false, rfl, gd, (Le.refl _), Option.some.inj hr, rfl, gl, gh, gj, gk, gm, gn, go, gp, gi⟩)))))
        ·rintro gw gx ⟨gy, gv, rfl, gz, u0, gs, u1, u2, u3, u4, u5, u6, u7, u9, ua, ub⟩
         subst gs
         have hr := gu
         try dsimp only at hr
         refine W_cond _ u1 (fun uc => ?_) (fun uc => ?_)
         ·have hr := ite_t uc hr
          refine W_skip (then_n (W_block (sr (mv u3 (mv u4 (L_buildSlice (xs := ([g7] : List Int)) Try.underlying23 tyz3 (Parts_cons rfl (rfl : _ = Value.int .i64 (g7)) Parts_nil) (Vs.cons Vint Vs.nil) rfl (by decide) (by decide) (fun ud ue uf ug uh => ?_)))))))
          have ui := Tch.ext gz uf
          obtain ⟨uj, hr⟩ := chk_some hr
          refine L_append (xs := g6) (B := s0.w.heap.size) Try.underlying23 tyz3 (rfl : _ = g5) (rfl : _ = ue) ((ub).ext uf) (ui.size) uh uj.1 uj.2 (by decide) (fun uk ul um => ?_)
          have un := um.tchM ((ub).ext uf) ui (Nat.le_refl _)
          have uo : ∀ k, (fun k => k = je) k → ¬ own uk k := fun k ko kp => by rcases um.own k kp with kq | kq; exact (fun k hk hm => gq k hm hk) k ko kq; have kr := ((ua).ext uf).lt; subst ko; omega
          refine asg (rfl : _ = uk) (nn (W_region (mv u2 (mv u4 (L_lookupX_ok (m := jm) (z0 := (0 : Int)) Try.underlying92 Try.underlying3 zero3 Vint (rfl : _ = Value.map (some je)) (rfl : _ = Value.int .i64 (g7)) (((ua).ext uf).tch um.tch ((fun k hk hm => gq k hm hk) je rfl)) (by decide) (fun up uq => ?_))))))
          obtain rfl := uq.int
          refine mv (rfl : _ = Value.tuple #[Value.int .i64 ((mget jm g7).getD (0 : Int)), Value.bool ((mget jm g7).isSome)]) (L_extract (rfl : _ = Value.tuple #[Value.int .i64 ((mget jm g7).getD (0 : Int)), Value.bool ((mget jm g7).isSome)]) (k := 0) rfl (by decide) (L_extract (rfl : _ = Value.tuple #[Value.int .i64 ((mget jm g7).getD (0 : Int)), Value.bool ((mget jm g7).isSome)]) (k := 1) rfl (by decide) (asg (rfl : _ = Value.int .i64 ((mget jm g7).getD (0 : Int))) (asg (rfl : _ = Value.bool ((mget jm g7).isSome)) (L_nil (block_n ?_))))))
          exact then_n ⟨g9, Nat.lt_succ_self _, ⟨ul, uk, (g6 ++ ([g7] : List Int)), ((mget jm g7).getD (0 : Int)), ((mget jm g7).isSome), rfl, un, (gg.trans (u0.trans (uf.le.trans um.tch.le))), hr, rfl, um.bld, rfl, rfl, u2, u6, u7, u9, ((ua).ext uf).tch um.tch ((fun k hk hm => gq k hm hk) je rfl), (fun k hk hm => uo k hm hk)⟩⟩
         ·have hr := ite_f uc hr; refine W_exit (then_x (then_x (block_here ?_))); exact then_n ⟨gy, g5, g6, g7, g8, rfl, gz, (gg.trans u0), Option.some.inj hr, u3, ub, u4, u5, u2, u6, u7, u9, ua, gq⟩
      ·rintro g5 g6 ⟨g7, g1, g2, g3, g4, rfl, g8, g9, kz, ga, gb, gc, gd, gg, gh, gi, gj, gk, gl⟩
       subst kz
       have hr := g0
       try dsimp only at hr
       refine then_n (sr (mv gd (nn ?_)))
       refine W_cond _ (rfl : _ = Value.bool (g4)) (fun gm => ?_) (fun gm => ?_)
       ·have hr := ite_t gm hr
        refine sr (mv ga (mv ga (mv gc ?_)))
        obtain ⟨gn, go, hr⟩ := bind_some hr
        refine L_calls cal55 (args2 (rfl : _ = g1) (rfl : _ = Value.int .i64 (g3))) (slices_Index_Lint_int_ok N _ _ _ (gb).toV g3 gn go) (by decide) (fun gp gq gr gs => ?_)
        have gu := Tch.ext g8 gr
        obtain rfl := gs.int
        obtain ⟨gv, gw, hr⟩ := bind_some hr
        refine L_slice_l Try.underlying23 ty3.inf (rfl : _ = g1) ((gb).ext gr).toV (rfl : _ = Value.int .i64 (gn)) gw (by decide) (fun gx gy => asg (rfl : _ = gx) (nn (sr (mv (rfl : _ = gx) (mv (rfl : _ = gx) ?_)))))
        obtain ⟨gz, u0, hr⟩ := bind_some hr
        refine L_calls cal56 (args1 (rfl : _ = gx)) (slices_Min_Lint_int_ok N _ _ _ gy gz u0) (by decide) (fun u1 u2 u3 u4 => ?_)
        have u5 := Tch.ext gu u3
        obtain rfl := u4.int
        obtain ⟨u6, u7, hr⟩ := bind_some hr
        refine L_calls cal55 (args2 (rfl : _ = gx) (rfl : _ = Value.int .i64 (gz))) (slices_Index_Lint_int_ok N _ _ _ (gy.mono u3.le) gz u6 u7) (by decide) (fun u9 ua ub uc => ?_)
        have ud := Tch.ext u5 ub
        obtain rfl := uc.int
        refine asg (rfl : _ = Value.int .i64 (u6)) (nn (W_seq ?_))
        obtain ⟨ue, uf, hr⟩ := bind_some hr
        obtain ⟨ug, uh, hr⟩ := bind_some hr
        obtain ⟨ui, uj, hr⟩ := bind_some hr
        refine W_draws mixed (by kernel_rfl) [PV.data (gv : List Int), PV.eq (Value.int .i64 (u6)), PV.data (ue : List Int), PV.data (gv : List Int), PV.eq (Value.int .i64 (u6)), PV.data (ug : List Int), PV.data (([ue, ug] : List (List Int)) : List (List Int)), PV.data (ui : List Int), PV.data (ui : List Int), PV.eq (Value.int .i64 (0))] (Steps_cons ?_ (Steps_cons ?_ (Steps_cons ?_ (Steps_cons ?_ (Steps_cons ?_ (Steps_cons ?_ (Steps_cons ?_ (Steps_cons ?_ (Steps_cons ?_ (Steps_cons ?_ Steps_nil)))))))))) ?_
        ·intro uk ul um un uo Q up; have uq : uk 15 = gx := (uo 15 (by kernel_rfl)).trans rfl; exact mv uq (fin up (gy.mono (u3.le.trans (ub.le.trans um.le))))
        ·intro uk ul um un uo Q up; have uq : uk 18 = Value.int .i64 (u6) := (uo 18 (by kernel_rfl)).trans rfl; exact mv uq (fin up rfl)
        ·intro uk ul um un uo Q up; have uq : V _ (uk 86) (gv : List Int) := un 0 86 (by kernel_rfl) (by kernel_rfl); obtain ⟨ur, us, ut⟩ : ∃ v, _ = v ∧ V _ v _ := ⟨_, rfl, uq⟩; have uu : uk 87 = Value.int .i64 (u6) := un 1 87 (by kernel_rfl) (by kernel_rfl); exact L_slice_l Try.underlying23 ty3.inf us ut uu uf (by decide) (fun uv uw => fin up uw)
        ·intro uk ul um un uo Q up; have uq : uk 15 = gx := (uo 15 (by kernel_rfl)).trans rfl; exact mv uq (fin up (gy.mono (u3.le.trans (ub.le.trans um.le))))
        ·intro uk ul um un uo Q up; have uq : uk 18 = Value.int .i64 (u6) := (uo 18 (by kernel_rfl)).trans rfl; exact mv uq (fin up rfl)
        ·intro uk ul um un uo Q up; have uq : V _ (uk 89) (gv : List Int) := un 3 89 (by kernel_rfl) (by kernel_rfl); obtain ⟨ur, us, ut⟩ : ∃ v, _ = v ∧ V _ v _ := ⟨_, rfl, uq⟩; have uu : uk 90 = Value.int .i64 (u6) := un 4 90 (by kernel_rfl) (by kernel_rfl); exact L_slice_h Try.underlying23 ty3.inf us ut uu uh (by decide) (fun uv uw => fin up uw)
        ·intro uk ul um un uo Q up; have uq : V _ (uk 88) (ue : List Int) := un 2 88 (by kernel_rfl) (by kernel_rfl); obtain ⟨ur, us, ut⟩ : ∃ v, _ = v ∧ V _ v _ := ⟨_, rfl, uq⟩; have uu : V _ (uk 91) (ug : List Int) := un 5 91 (by kernel_rfl) (by kernel_rfl); obtain ⟨uv, uw, ux⟩ : ∃ v, _ = v ∧ V _ v _ := ⟨_, rfl, uu⟩; refine L_buildSlice (xs := ([ue, ug] : List (List Int))) Try.underlying108 tyz23 (Parts_cons rfl us (Parts_cons rfl uw Parts_nil)) (Vs.cons ut (Vs.cons ux Vs.nil)) rfl (by decide) (by decide) (fun uy uz t0 t1 t2 => ?_); have t3 := Tch.ext (Ext.refl ul) t0; exact L_nil (up _ _ t3 t2)
        ·intro uk ul um un uo Q up; have uq : V _ (uk 92) (([ue, ug] : List (List Int)) : List (List Int)) := un 6 92 (by kernel_rfl) (by kernel_rfl); obtain ⟨ur, us, ut⟩ : ∃ v, _ = v ∧ V _ v _ := ⟨_, rfl, uq⟩; refine L_calls cal57 (args1 us) (slices_Concat_Lint_int_ok N _ _ _ ut ui uj) (by decide) (fun uu uv uw ux => ?_); have uy := Tch.ext (Ext.refl ul) uw; exact L_nil (up _ _ uy ux)
        ·intro uk ul um un uo Q up; have uq : V _ (uk 93) (ui : List Int) := un 7 93 (by kernel_rfl) (by kernel_rfl); obtain ⟨ur, us, ut⟩ : ∃ v, _ = v ∧ V _ v _ := ⟨_, rfl, uq⟩; exact asg us (fin up ut)
        ·intro uk ul um un uo Q up; exact asg (rfl : _ = Value.int .i64 (0)) (fin up rfl)
        ·intro uk ul um un uo; have up := Tch.ext ud um; have uq : V _ (uk 4) (ui : List Int) := un 8 4 (by kernel_rfl); obtain ⟨ur, us, ut⟩ : ∃ v, _ = v ∧ V _ v _ := ⟨_, rfl, uq⟩; have uu : uk 5 = Value.int .i64 (0) := un 9 5 (by kernel_rfl); refine then_n (W_ret (block_r (then_r (then_r (block_r ?_))))); obtain rfl := Option.some.inj hr; have hr := jx; (try dsimp only at hr); refine then_r (then_r ?_); obtain rfl := Option.some.inj hr; exact done2 (Or.inl rfl) Try.results25 us uu ⟨_, _, rfl, rfl, up, _, _, rfl, ut, Vint⟩
       ·have hr := ite_f gm hr; refine W_skip (block_n (then_n (W_region ?_))); obtain ⟨gn, hr⟩ := chk_some hr; exact L_add gj (rfl : _ = Value.int .i64 (1)) gn (by decide) (mv (rfl : _ = Value.int .i64 (jy + 1)) (nn ⟨jz, Nat.lt_succ_self _, ⟨g7, (jy + 1), rfl, g8, (k4.trans (kj.le.trans (kt.le.trans g9))), hr, rfl, gg, gh, gi, gk⟩⟩))
     ·have hr := ite_f ka hr; refine W_exit (then_x (then_x (block_here ?_))); exact then_n ⟨k2, rfl, k3, k4, Option.some.inj hr⟩
   ·rintro jy jz ⟨k0, rfl, k1, k2, jw⟩; subst jw; have hr := jx; (try dsimp only at hr); refine then_n (sr (asg (rfl : _ = Value.slice none 0 0) (asg (rfl : _ = Value.int .i64 (0)) (nn (W_ret ?_))))); obtain rfl := Option.some.inj hr; exact done2 (Or.inl rfl) Try.results25 rfl rfl ⟨_, _, rfl, rfl, k1, _, _, rfl, Vnil, Vint⟩

theorem law08_send_ok (N : Nat) (s0 : St) (a0 : Int) (a1 : Int) (r : Deed) (hr : law08_send N a0 a1 = some r) :
    Calls Try.prog 28 #[.int .i64 a0, .int .i64 a1] s0.w (Ret s0 fun v s => V s v r) := by
 unfold law08_send at hr
 have j0 := Ext.refl s0
 refine Calls_of (n := 8) (args := [.int .i64 a0, .int .i64 a1]) Try.func28 rfl rfl (by simp) (sr (L_alloc (α := Deed) (x := ⟨0, 0, 0, 0, false⟩) zero64 Deed.zero_rel (by decide) (fun j1 j2 j3 j4 j5 => ?_)))
 have j6 := Tch.ext j0 j3
 refine nn (sr (mv (rfl : _ = Value.int .i64 (a0)) (mv (rfl : _ = Value.int .i64 (a1)) (L_bld64_0_1_2 (s := j1) (rfl : _ = Value.int .i64 (1)) (rfl : _ = Value.int .i64 (a0)) (rfl : _ = Value.int .i64 (a1)) (Vint : V _ _ (1 : Int)) (Vint : V _ _ (a0 : Int)) (Vint : V _ _ (a1 : Int)) (by decide) (fun j7 j8 => L_store ty64 (rfl : _ = Value.pointer (some ⟨j2, 0, none⟩)) (rfl : _ = j7) j8 (j5) (fun j9 ja jb => ?_))))))
 have jc := Tch.trans j6 ja (fun k hk => Or.inr (by subst hk; exact (Nat.le_trans j0.size j4)))
 refine nn (W_ret ?_)
 obtain rfl := Option.some.inj hr
 exact done_c (Or.inl rfl) Try.results28 ty64 rfl (jb) (fun v hv => ⟨_, _, rfl, rfl, jc, hv⟩)

theorem law08_recv_ok (N : Nat) (s0 : St) (a0 : Int) (a1 : Int) (r : Deed) (hr : law08_recv N a0 a1 = some r) :
    Calls Try.prog 29 #[.int .i64 a0, .int .i64 a1] s0.w (Ret s0 fun v s => V s v r) := by
 unfold law08_recv at hr
 have j0 := Ext.refl s0
 refine Calls_of (n := 8) (args := [.int .i64 a0, .int .i64 a1]) Try.func29 rfl rfl (by simp) (sr (L_alloc (α := Deed) (x := ⟨0, 0, 0, 0, false⟩) zero64 Deed.zero_rel (by decide) (fun j1 j2 j3 j4 j5 => ?_)))
 have j6 := Tch.ext j0 j3
 refine nn (sr (mv (rfl : _ = Value.int .i64 (a0)) (mv (rfl : _ = Value.int .i64 (a1)) (L_bld64_0_1_2 (s := j1) (rfl : _ = Value.int .i64 (2)) (rfl : _ = Value.int .i64 (a0)) (rfl : _ = Value.int .i64 (a1)) (Vint : V _ _ (2 : Int)) (Vint : V _ _ (a0 : Int)) (Vint : V _ _ (a1 : Int)) (by decide) (fun j7 j8 => L_store ty64 (rfl : _ = Value.pointer (some ⟨j2, 0, none⟩)) (rfl : _ = j7) j8 (j5) (fun j9 ja jb => ?_))))))
 have jc := Tch.trans j6 ja (fun k hk => Or.inr (by subst hk; exact (Nat.le_trans j0.size j4)))
 refine nn (W_ret ?_)
 obtain rfl := Option.some.inj hr
 exact done_c (Or.inl rfl) Try.results29 ty64 rfl (jb) (fun v hv => ⟨_, _, rfl, rfl, jc, hv⟩)

end Go.Arm
