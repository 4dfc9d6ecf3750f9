/- Each function of the program computes what its plain function says. -/
import Derived.Test.YtmojccilbgjngaaPrfT4b
namespace Go.Arm
open Go Go.RowKit Go.Proofs
theorem law08_deeds_ok (N : Nat) (s0 : St) (w0 : Value) (a0 : List (List Deed)) (h0 : V s0 w0 a0) (r : (List (List Deed))) (hr : law08_deeds N a0 = some r) :
    Calls Try.prog 12 #[w0] s0.w (Ret s0 fun v s => V s v r) := by
 unfold law08_deeds at hr
 have j0 := Ext.refl s0
 refine Calls_of (n := 49) (args := [w0]) Try.func12 rfl rfl (by simp) (sr (asg (rv (Value.slice none 0 0)) (nn (sr (asg (rv (Value.slice none 0 0)) (nn (W_seq (sr (asg (rv (vi 0)) (nn ?_))))))))))
 obtain ⟨j1, j2, j3⟩ := bind_some hr
 refine W_cut (fun f w => ∃ (s : St) (j4 : Value) (j5 : List (List Deed)), s.w = w ∧ Ext s0 s ∧ Le s0 s ∧ j5 = j1 ∧ f 3 = j4 ∧ Bld s s0.w.heap.size 59 j4 j5) ?_ ?_
 ·refine W_block (W_loop (fun m f w => ∃ (s : St) (j6 : Value) (j7 : List (List Deed)) (j8 : Int), s.w = w ∧ Ext s0 s ∧ Le s0 s ∧ law08_deeds_l1 N a0 m j7 j8 = some j1 ∧ f 3 = j6 ∧ Bld s s0.w.heap.size 59 j6 j7 ∧ f 4 = vi j8 ∧ f 0 = w0) N ⟨s0, (Value.slice none 0 0), ([]), 0, rfl, j0, (Le.refl _), j2, rfl, Bld.nil, rfl, rfl⟩ ?_)
  rintro j9 ja jb ⟨jc, j6, j7, j8, rfl, jd, je, hr, jf, jg, jh, ji⟩
  cases j9 with
  | zero => exact absurd hr (by simp [law08_deeds_l1])
  | succ j9 =>
   rw [law08_deeds_l1.eq_2] at hr
   refine W_seq (sr (mv jh (mv ji (ln Try.underlying22 (rv w0) (h0.mono je) (ls (rv (vi j8)) (rv (vi ((a0.length : Int)))) (nn ?_))))))
   refine W_cond _ (rv (vb (decide (j8 < (a0.length : Int))))) (fun jj => ?_) (fun jj => ?_)
   ·have hr := ite_t jj hr
    refine W_skip (then_n (W_seq (W_block (sr (asg (rv (Value.slice none 0 0)) (nn (W_seq (sr (asg (rv (vi 0)) (nn ?_))))))))))
    obtain ⟨jk, jl, jm⟩ := bind_some hr
    refine W_cut (fun f w => ∃ (s : St) (jn : Value) (jo : List Deed), s.w = w ∧ Ext s0 s ∧ Le jc s ∧ jo = jk ∧ f 5 = jn ∧ Bld s s0.w.heap.size 64 jn jo ∧ f 0 = w0 ∧ f 3 = j6 ∧ f 4 = vi (j8) ∧ Bld s s0.w.heap.size 59 j6 j7 ∧ (∀ k, (own jn) k → ¬ (own j6) k)) ?_ ?_
    ·refine W_block (W_loop (fun m f w => ∃ (s : St) (jp : Value) (jq : List Deed) (jr : Int), s.w = w ∧ Ext s0 s ∧ Le jc s ∧ law08_deeds_l2 N a0 j8 m jq jr = some jk ∧ f 5 = jp ∧ Bld s s0.w.heap.size 64 jp jq ∧ f 6 = vi jr ∧ f 0 = w0 ∧ f 3 = j6 ∧ f 4 = vi (j8) ∧ Bld s s0.w.heap.size 59 j6 j7 ∧ (∀ k, (own jp) k → ¬ (own j6) k)) N ⟨jc, (Value.slice none 0 0), ([]), 0, rfl, jd, (Le.refl _), jl, rfl, Bld.nil, rfl, ji, jf, jh, jg, (fun k h => absurd h own_nil)⟩ ?_)
     rintro js jt ju ⟨jv, jp, jq, jr, rfl, jw, jx, hr, jy, jz, k0, k1, k2, k3, k4, k5⟩
     cases js with
     | zero => exact absurd hr (by simp [law08_deeds_l2])
     | succ js =>
      rw [law08_deeds_l2.eq_2] at hr
      refine W_seq (sr (mv k0 (mv k1 (mv k3 ?_))))
      obtain ⟨k6, k7, hr⟩ := bind_some hr
      refine ix Try.underlying22 ty65.inf (rv w0) (h0.mono (je.trans jx)) (rv (vi j8)) k7 (fun k8 k9 => ld ty65 (rv k8) k9 (fun ka kb => ln Try.underlying65 (rv ka) kb (ls (rv (vi jr)) (rv (vi ((k6.length : Int)))) (nn ?_))))
      refine W_cond _ (rv (vb (decide (jr < (k6.length : Int))))) (fun kc => ?_) (fun kc => ?_)
      ·have hr := ite_t kc hr
       refine W_skip (then_n (W_seq (W_block (sr (mv k1 (mv k3 ?_))))))
       obtain ⟨kd, ke, hr⟩ := bind_some hr
       refine ix Try.underlying22 ty65.inf (rv w0) (h0.mono (je.trans jx)) (rv (vi j8)) ke (fun kf kg => ld ty65 (rv kf) kg (fun kh ki => mv k0 ?_))
       obtain ⟨kj, kk, hr⟩ := bind_some hr
       refine ix Try.underlying65 ty74.inf (rv kh) ki (rv (vi jr)) kk (fun kl km => ld ty74 (rv kl) km (fun kn ko => L_alloc (α := Deed) (x := ⟨0, 0, 0, 0, false⟩) zero74 Deed.zero_rel (by decide) (fun kp kq kr ks kt => ?_)))
       have ku := Tch.ext jw kr
       have kv : ∀ k, (own jp) k → ¬ (fun k => k = kq) k := fun k kw kx => by have ky := (fun k hk => ((jz).lt hk).2) k kw; have kz := ks; subst kx; omega
       have g0 : ∀ k, (own j6) k → ¬ (fun k => k = kq) k := fun k kw kx => by have ky := (fun k hk => ((k4).lt hk).2) k kw; have kz := ks; subst kx; omega
       refine L_store_ro ty74 (rv (Value.pointer (some ⟨kq, 0, none⟩))) (rv kn) (ko.mono kr.le) (kt) (fun g1 g2 g3 => ?_)
       have g4 := Tch.trans ku g2 (fun k hk => Or.inr (by subst hk; exact (Nat.le_trans jw.size ks)))
       refine nn (W_region (mv jy (fa fld74_0 Deed.of_Kind (rv (Value.pointer (some ⟨kq, 0, none⟩))) g3 (fun g5 g6 => li ty3 (rv g5) g6 (fa fld74_1 Deed.of_Peer (rv (Value.pointer (some ⟨kq, 0, none⟩))) g3 (fun g7 g8 => li ty3 (rv g7) g8 (fa fld74_2 Deed.of_Tag (rv (Value.pointer (some ⟨kq, 0, none⟩))) g3 (fun g9 ga => li ty3 (rv g9) ga (fa fld74_3 Deed.of_Req (rv (Value.pointer (some ⟨kq, 0, none⟩))) g3 (fun gb gc => li ty3 (rv gb) gc (fa fld74_4 Deed.of_Sync (rv (Value.pointer (some ⟨kq, 0, none⟩))) g3 (fun gd gg => L_load_bool ty4 (rv gd) gg (by decide) (L_bld64_0_1_2_3_4 (s := g1) (rv (vi (kj.Kind))) (rv (vi (kj.Peer))) (rv (vi (kj.Tag))) (rv (vi (kj.Req))) (rv (vb (kj.Sync))) (Vint : V _ _ (kj.Kind : Int)) (Vint : V _ _ (kj.Peer : Int)) (Vint : V _ _ (kj.Tag : Int)) (Vint : V _ _ (kj.Req : Int)) (Vbool : V _ _ (kj.Sync : Bool)) (by decide) ?_)))))))))))))
       intro gh gi
       refine L_buildSlice (xs := ([(⟨kj.Kind, kj.Peer, kj.Tag, kj.Req, kj.Sync⟩ : Deed)] : List Deed)) Try.underlying59 tyz64 (Parts_cons rfl (rv gh) Parts_nil) (Vs.cons gi Vs.nil) rfl (by decide) (by decide) (fun gj gk gl gm gn => ?_)
       have go := Tch.ext g4 gl
       obtain ⟨gp, hr⟩ := chk_some hr
       refine L_append (xs := jq) (B := s0.w.heap.size) Try.underlying59 tyz64 (rv jp) (rv gk) ((((jz).ext kr).tch g2 (fun k hk => kv k hk)).ext gl) (go.size) gn gp.1 gp.2 (by decide) (fun gq gr gs => ?_)
       have gu := gs.tchM ((((jz).ext kr).tch g2 (fun k hk => kv k hk)).ext gl) go (Nat.le_refl _)
       have gv := gs.apart ((((k4).ext kr).tch g2 (fun k hk => g0 k hk)).ext gl) (fun k hk hm => k5 k hm hk)
       refine asg (rv gq) (L_nil (block_n (then_n (W_region (mv k0 ?_)))))
       obtain ⟨gw, hr⟩ := chk_some hr
       exact ad (rv (vi jr)) (rv (vi 1)) gw (asg (rv (vi (jr + 1))) (nn ⟨js, Nat.lt_succ_self _, ⟨gr, gq, (jq ++ ([(⟨kj.Kind, kj.Peer, kj.Tag, kj.Req, kj.Sync⟩ : Deed)] : List Deed)), (jr + 1), rfl, gu, (jx.trans (kr.le.trans (g2.le.trans (gl.le.trans gs.tch.le)))), hr, rfl, gs.bld, rfl, k1, k2, k3, ((((k4).ext kr).tch g2 (fun k hk => g0 k hk)).ext gl).tch gs.tch (fun k hk hm => k5 k hm hk), (fun k hk hm => gv k hm hk)⟩⟩))
      ·have hr := ite_f kc hr; refine W_exit (then_x (then_x (block_here ?_))); exact then_n ⟨jv, jp, jq, rfl, jw, jx, Option.some.inj hr, jy, jz, k1, k2, k3, k4, k5⟩
    ·rintro jp jq ⟨jr, jn, jo, rfl, js, jt, jl, ju, jv, jw, jx, jy, jz, k0⟩; subst jl; have hr := jm; (try dsimp only at hr); refine then_n (W_region (mv jx (mv ju (L_buildSlice (xs := ([jo] : List (List Deed))) Try.underlying29 tyz59 (Parts_cons rfl (rv jn) Parts_nil) (Vs.cons (jv).toV Vs.nil) rfl (by decide) (by decide) (fun k1 k2 k3 k4 k5 => ?_))))); have k6 := Tch.ext js k3; obtain ⟨k7, hr⟩ := chk_some hr; refine L_append (xs := j7) (B := s0.w.heap.size) Try.underlying29 tyz59 (rv j6) (rv k2) ((jz).ext k3) (k6.size) k5 k7.1 k7.2 (by decide) (fun k8 k9 ka => ?_); have kb := ka.tchM ((jz).ext k3) k6 (Nat.le_refl _); refine asg (rv k8) (L_nil (block_n (then_n (W_region (mv jy ?_))))); obtain ⟨kc, hr⟩ := chk_some hr; exact ad (rv (vi j8)) (rv (vi 1)) kc (asg (rv (vi (j8 + 1))) (nn ⟨j9, Nat.lt_succ_self _, ⟨k9, k8, (j7 ++ ([jo] : List (List Deed))), (j8 + 1), rfl, kb, (je.trans (jt.trans (k3.le.trans ka.tch.le))), hr, rfl, ka.bld, rfl, jw⟩⟩))
   ·have hr := ite_f jj hr; refine W_exit (then_x (then_x (block_here ?_))); exact then_n ⟨jc, j6, j7, rfl, jd, je, Option.some.inj hr, jf, jg⟩
 ·rintro j6 j7 ⟨j8, j4, j5, rfl, j9, ja, j2, jb, jc⟩; subst j2; have hr := j3; (try dsimp only at hr); refine then_n (sr (mv jb (asg (rv j4) (nn (W_ret ?_))))); obtain rfl := Option.some.inj hr; exact done1 (Or.inl rfl) Try.results12 rfl ⟨_, _, rfl, rfl, j9, (jc).toV⟩

theorem ref08_named_ok (N : Nat) (s0 : St) (w0 : Value) (a0 : Deed) (h0 : V s0 w0 a0) (r : Bool) (hr : ref08_named N a0 = some r) :
    Calls Try.prog 82 #[w0] s0.w (Ret s0 fun v s => V s v r) := by
 unfold ref08_named at hr
 have j0 := Ext.refl s0
 refine Calls_of (n := 11) (args := [w0]) Try.func82 rfl rfl (by simp) (sr (L_box (rv w0) h0 (by decide) (fun j1 j2 j3 j4 => ?_)))
 have j5 := Tch.ext j0 j3
 refine asg (rv (vb false)) (nn (sr (fa fld74_0 Deed.of_Kind (rv j2) j4 (fun j6 j7 => li ty3 (rv j6) j7 (el (rv (vi (a0.Kind))) (rv (vi 3)) (mv (rv (vb (decide (a0.Kind = 3)))) ?_))))))
 rcases tf (decide (a0.Kind = 3)) with j8 | j8
 ·have hr := ite_t j8 hr; refine gf 6 (rv (vb (decide (a0.Kind = 3)))) j8 (gf 6 (rv (vb (decide (a0.Kind = 3)))) j8 (gf 6 (rv (vb (decide (a0.Kind = 3)))) j8 (pt (rv (vb (decide (a0.Kind = 3)))) j8 (rv (vb true)) (asg (rv (vb true)) (nn (W_ret ?_)))))); obtain rfl := Option.some.inj hr; exact done1 (Or.inl rfl) Try.results82 rfl ⟨_, _, rfl, rfl, j5, Vbool⟩
 ·have hr := ite_f j8 hr; refine gt 6 (rv (vb (decide (a0.Kind = 3)))) j8 (fa fld74_0 Deed.of_Kind (rv j2) j4 (fun j9 ja => gt 6 (rv (vb (decide (a0.Kind = 3)))) j8 (li ty3 (rv j9) ja (gt 6 (rv (vb (decide (a0.Kind = 3)))) j8 (el (rv (vi (a0.Kind))) (rv (vi 4)) (pf (rv (vb (decide (a0.Kind = 3)))) j8 (rv (vb (decide (a0.Kind = 4)))) (asg (rv (vb (decide (a0.Kind = 4)))) (nn (W_ret ?_))))))))); obtain rfl := Option.some.inj hr; exact done1 (Or.inl rfl) Try.results82 rfl ⟨_, _, rfl, rfl, j5, Vbool⟩

set_option maxHeartbeats 1901000 in
theorem ref08_formed_ok (N : Nat) (s0 : St) (w0 : Value) (a0 : Deed) (h0 : V s0 w0 a0) (w1 : Value) (a1 : List Deed) (h1 : V s0 w1 a1) (a2 : Int) (r : Bool) (hr : ref08_formed N a0 a1 a2 = some r) :
    Calls Try.prog 72 #[w0, w1, .int .i64 a2] s0.w (Ret s0 fun v s => V s v r) := by
 unfold ref08_formed at hr
 have j0 := Ext.refl s0
 refine Calls_of (n := 173) (args := [w0, w1, .int .i64 a2]) Try.func72 rfl rfl (by simp) (sr (L_box (rv w0) h0 (by decide) (fun j1 j2 j3 j4 => ?_)))
 have j5 := Tch.ext j0 j3
 refine asg (rv (vb false)) (nn (sr (asg (rv (vi 0)) (nn (W_seq (sr (asg (rv (vi 0)) (nn ?_))))))))
 obtain ⟨j6, j7, j8⟩ := bind_some hr
 refine W_cut (fun f w => ∃ (s : St) (j9 : Int), s.w = w ∧ Ext s0 s ∧ Le j1 s ∧ j9 = j6 ∧ f 7 = vi j9 ∧ f 1 = w1 ∧ f 2 = vi (a2) ∧ f 3 = j2) ?_ ?_
 ·refine W_block (W_loop (fun m f w => ∃ (s : St) (ja : Int) (jb : Int), s.w = w ∧ Ext s0 s ∧ Le j1 s ∧ ref08_formed_l1 N a1 m ja jb = some j6 ∧ f 7 = vi ja ∧ f 8 = vi jb ∧ f 1 = w1 ∧ f 2 = vi (a2) ∧ f 3 = j2) N ⟨j1, 0, 0, rfl, j5, (Le.refl _), j7, rfl, rfl, rfl, rfl, rfl⟩ ?_)
  rintro jc jd je ⟨jf, ja, jb, rfl, jg, jh, hr, ji, jj, jk, jl, jm⟩
  cases jc with
  | zero => exact absurd hr (by simp [ref08_formed_l1])
  | succ jc =>
   rw [ref08_formed_l1.eq_2] at hr
   refine W_seq (sr (mv jj (mv jk (ln Try.underlying65 (rv w1) (h1.mono (j3.le.trans jh)) (ls (rv (vi jb)) (rv (vi ((a1.length : Int)))) (nn ?_))))))
   refine W_cond _ (rv (vb (decide (jb < (a1.length : Int))))) (fun jn => ?_) (fun jn => ?_)
   ·have hr := ite_t jn hr
    refine W_skip (then_n (W_seq (W_block (sr (mv jk (mv jj ?_))))))
    obtain ⟨jo, jp, hr⟩ := bind_some hr
    refine ix Try.underlying65 ty74.inf (rv w1) (h1.mono (j3.le.trans jh)) (rv (vi jb)) jp (fun jq jr => ld ty74 (rv jq) jr (fun js jt => ?_))
    obtain ⟨ju, jv, hr⟩ := bind_some hr
    refine L_calls cal82 (args1 (rv js)) (ref08_named_ok N _ _ _ jt ju jv) (by decide) (fun jw jx jy jz => ?_)
    have k0 := Tch.ext jg jy
    obtain rfl := jz.bool
    refine nn ?_
    refine W_cond _ (rv (vb ju)) (fun k1 => ?_) (fun k1 => ?_)
    ·have hr := ite_t k1 hr; refine W_region (mv ji ?_); obtain ⟨k2, hr⟩ := chk_some hr; refine ad (rv (vi ja)) (rv (vi 1)) k2 (asg (rv (vi (ja + 1))) (L_nil (block_n (then_n (W_region (mv jj ?_)))))); obtain ⟨k3, hr⟩ := chk_some hr; exact ad (rv (vi jb)) (rv (vi 1)) k3 (asg (rv (vi (jb + 1))) (nn ⟨jc, Nat.lt_succ_self _, ⟨jx, (ja + 1), (jb + 1), rfl, k0, (jh.trans jy.le), hr, rfl, rfl, jk, jl, jm⟩⟩))
    ·have hr := ite_f k1 hr; refine W_skip (block_n (then_n (W_region (mv jj ?_)))); obtain ⟨k2, hr⟩ := chk_some hr; exact ad (rv (vi jb)) (rv (vi 1)) k2 (asg (rv (vi (jb + 1))) (nn ⟨jc, Nat.lt_succ_self _, ⟨jx, ja, (jb + 1), rfl, k0, (jh.trans jy.le), hr, ji, rfl, jk, jl, jm⟩⟩))
   ·have hr := ite_f jn hr; refine W_exit (then_x (then_x (block_here ?_))); exact then_n ⟨jf, ja, rfl, jg, jh, Option.some.inj hr, ji, jk, jl, jm⟩
 ·rintro ja jb ⟨jc, j9, rfl, jd, je, j7, jf, jg, jh, ji⟩
  subst j7
  have hr := j8
  try dsimp only at hr
  refine then_n ?_
  obtain ⟨jj, jk, jl⟩ := bind_some hr
  refine W_seq_cut (fun f w => ∃ (s : St) (jm : Bool), s.w = w ∧ Ext s0 s ∧ Le jc s ∧ jm = jj ∧ f 9 = vb jm ∧ f 1 = w1 ∧ f 2 = vi (a2) ∧ f 3 = j2 ∧ f 7 = vi (j9)) ?_ ?_
  ·have hr := jk
   refine W_region (fa fld74_2 Deed.of_Tag ji (j4.mono je) (fun jn jo => li ty3 (rv jn) jo (L_geq (rv (vi (a0.Tag))) (rv (vi 0)) (by decide) (mv (rv (vb (decide (0 ≤ a0.Tag)))) ?_))))
   rcases tf (decide (0 ≤ a0.Tag)) with jp | jp
   ·have hr := ite_t jp hr; exact gt 29 (rv (vb (decide (0 ≤ a0.Tag)))) jp (fa fld74_2 Deed.of_Tag ji (j4.mono je) (fun jq jr => gt 29 (rv (vb (decide (0 ≤ a0.Tag)))) jp (li ty3 (rv jq) jr (gt 29 (rv (vb (decide (0 ≤ a0.Tag)))) jp (L_leq (rv (vi (a0.Tag))) (rv (vi 1048576)) (by decide) (pt (rv (vb (decide (0 ≤ a0.Tag)))) jp (rv (vb (decide (a0.Tag ≤ 1048576)))) (asg (rv (vb (decide (a0.Tag ≤ 1048576)))) (nn ⟨jc, (decide (a0.Tag ≤ 1048576)), rfl, jd, (Le.refl _), Option.some.inj hr, rfl, jg, jh, ji, jf⟩))))))))
   ·have hr := ite_f jp hr; exact gf 29 (rv (vb (decide (0 ≤ a0.Tag)))) jp (gf 29 (rv (vb (decide (0 ≤ a0.Tag)))) jp (gf 29 (rv (vb (decide (0 ≤ a0.Tag)))) jp (pf (rv (vb (decide (0 ≤ a0.Tag)))) jp (rv (vb false)) (asg (rv (vb false)) (nn ⟨jc, false, rfl, jd, (Le.refl _), Option.some.inj hr, rfl, jg, jh, ji, jf⟩)))))
  ·rintro jn jo ⟨jp, jm, rfl, jq, jr, jk, js, jt, ju, jv, jw⟩
   subst jk
   have hr := jl
   try dsimp only at hr
   obtain ⟨jx, jy, jz⟩ := bind_some hr
   refine W_seq_cut (fun f w => ∃ (s : St) (k0 : Bool), s.w = w ∧ Ext s0 s ∧ Le jp s ∧ k0 = jx ∧ f 10 = vb k0 ∧ f 1 = w1 ∧ f 3 = j2 ∧ f 7 = vi (j9) ∧ f 9 = vb (jm)) ?_ ?_
   ·have hr := jy
    refine W_region (fa fld74_1 Deed.of_Peer jv (j4.mono (je.trans jr)) (fun k1 k2 => li ty3 (rv k1) k2 (L_geq (rv (vi (a0.Peer))) (rv (vi 0)) (by decide) (mv (rv (vb (decide (0 ≤ a0.Peer)))) ?_))))
    rcases tf (decide (0 ≤ a0.Peer)) with k3 | k3
    ·have hr := ite_t k3 hr; exact gt 37 (rv (vb (decide (0 ≤ a0.Peer)))) k3 (fa fld74_1 Deed.of_Peer jv (j4.mono (je.trans jr)) (fun k4 k5 => gt 37 (rv (vb (decide (0 ≤ a0.Peer)))) k3 (li ty3 (rv k4) k5 (gt 37 (rv (vb (decide (0 ≤ a0.Peer)))) k3 (mv ju (gt 37 (rv (vb (decide (0 ≤ a0.Peer)))) k3 (ls (rv (vi (a0.Peer))) (rv (vi a2)) (pt (rv (vb (decide (0 ≤ a0.Peer)))) k3 (rv (vb (decide (a0.Peer < a2)))) (asg (rv (vb (decide (a0.Peer < a2)))) (nn ⟨jp, (decide (a0.Peer < a2)), rfl, jq, (Le.refl _), Option.some.inj hr, rfl, jt, jv, jw, js⟩))))))))))
    ·have hr := ite_f k3 hr; exact gf 37 (rv (vb (decide (0 ≤ a0.Peer)))) k3 (gf 37 (rv (vb (decide (0 ≤ a0.Peer)))) k3 (gf 37 (rv (vb (decide (0 ≤ a0.Peer)))) k3 (gf 37 (rv (vb (decide (0 ≤ a0.Peer)))) k3 (pf (rv (vb (decide (0 ≤ a0.Peer)))) k3 (rv (vb false)) (asg (rv (vb false)) (nn ⟨jp, false, rfl, jq, (Le.refl _), Option.some.inj hr, rfl, jt, jv, jw, js⟩))))))
   ·rintro k1 k2 ⟨k3, k0, rfl, k4, k5, jy, k6, k7, k8, k9, ka⟩
    subst jy
    have hr := jz
    try dsimp only at hr
    refine W_seq (sr (fa fld74_0 Deed.of_Kind k8 (j4.mono (je.trans (jr.trans k5))) (fun kb kc => li ty3 (rv kb) kc (nn (W_block (sr (el (rv (vi (a0.Kind))) (rv (vi 1)) (asg (rv (vb (decide (a0.Kind = 1)))) (nn ?_)))))))))
    refine W_cond _ (rv (vb (decide (a0.Kind = 1)))) (fun kd => ?_) (fun kd => ?_)
    ·have hr := ite_t kd hr
     refine sr (mv k6 (mv (rv (vb k0)) ?_))
     rcases tf (k0) with ke | ke
     ·have hr := ite_t ke hr
      refine gt 48 (rv (vb k0)) ke (mv ka (pt (rv (vb k0)) ke (rv (vb jm)) (mv (rv (vb jm)) ?_)))
      rcases tf (jm) with kf | kf
      ·have hr := ite_t kf hr; refine gt 51 (rv (vb jm)) kf (fa fld74_3 Deed.of_Req k8 (j4.mono (je.trans (jr.trans k5))) (fun kg kh => gt 51 (rv (vb jm)) kf (li ty3 (rv kg) kh (gt 51 (rv (vb jm)) kf (el (rv (vi (a0.Req))) (rv (vi 0)) (pt (rv (vb jm)) kf (rv (vb (decide (a0.Req = 0)))) (asg (rv (vb (decide (a0.Req = 0)))) (nn (W_ret (block_r (then_r ?_))))))))))); obtain rfl := Option.some.inj hr; exact done1 (Or.inl rfl) Try.results72 rfl ⟨_, _, rfl, rfl, k4, Vbool⟩
      ·have hr := ite_f kf hr; refine gf 51 (rv (vb jm)) kf (gf 51 (rv (vb jm)) kf (gf 51 (rv (vb jm)) kf (pf (rv (vb jm)) kf (rv (vb false)) (asg (rv (vb false)) (nn (W_ret (block_r (then_r ?_)))))))); obtain rfl := Option.some.inj hr; exact done1 (Or.inl rfl) Try.results72 rfl ⟨_, _, rfl, rfl, k4, Vbool⟩
     ·have hr := ite_f ke hr; refine gf 48 (rv (vb k0)) ke (pf (rv (vb k0)) ke (rv (vb false)) (mv (rv (vb false)) (gf 51 (rv (vb false)) rfl (gf 51 (rv (vb false)) rfl (gf 51 (rv (vb false)) rfl (pf (rv (vb false)) rfl (rv (vb false)) (asg (rv (vb false)) (nn (W_ret (block_r (then_r ?_))))))))))); obtain rfl := Option.some.inj hr; exact done1 (Or.inl rfl) Try.results72 rfl ⟨_, _, rfl, rfl, k4, Vbool⟩
    ·have hr := ite_f kd hr
     refine sr (el (rv (vi (a0.Kind))) (rv (vi 3)) (asg (rv (vb (decide (a0.Kind = 3)))) (nn ?_)))
     refine W_cond _ (rv (vb (decide (a0.Kind = 3)))) (fun ke => ?_) (fun ke => ?_)
     ·have hr := ite_t ke hr
      refine sr (mv k6 (mv (rv (vb k0)) ?_))
      rcases tf (k0) with kf | kf
      ·have hr := ite_t kf hr
       refine gt 59 (rv (vb k0)) kf (mv ka (pt (rv (vb k0)) kf (rv (vb jm)) (mv (rv (vb jm)) ?_)))
       rcases tf (jm) with kg | kg
       ·have hr := ite_t kg hr
        refine gt 62 (rv (vb jm)) kg (fa fld74_3 Deed.of_Req k8 (j4.mono (je.trans (jr.trans k5))) (fun kh ki => gt 62 (rv (vb jm)) kg (li ty3 (rv kh) ki (gt 62 (rv (vb jm)) kg (mv k9 (gt 62 (rv (vb jm)) kg (el (rv (vi (a0.Req))) (rv (vi j9)) (pt (rv (vb jm)) kg (rv (vb (decide (a0.Req = j9)))) (mv (rv (vb (decide (a0.Req = j9)))) ?_)))))))))
        rcases tf (decide (a0.Req = j9)) with kj | kj
        ·have hr := ite_t kj hr; refine gt 68 (rv (vb (decide (a0.Req = j9)))) kj (fa fld74_4 Deed.of_Sync k8 (j4.mono (je.trans (jr.trans k5))) (fun kk kl => gt 68 (rv (vb (decide (a0.Req = j9)))) kj (L_load_bool ty4 (rv kk) kl (by decide) (gt 68 (rv (vb (decide (a0.Req = j9)))) kj (L_not (rv (vb (a0.Sync))) (by decide) (pt (rv (vb (decide (a0.Req = j9)))) kj (rv (vb (!a0.Sync))) (asg (rv (vb (!a0.Sync))) (nn (W_ret (block_r (then_r ?_))))))))))); obtain rfl := Option.some.inj hr; exact done1 (Or.inl rfl) Try.results72 rfl ⟨_, _, rfl, rfl, k4, Vbool⟩
        ·have hr := ite_f kj hr; refine gf 68 (rv (vb (decide (a0.Req = j9)))) kj (gf 68 (rv (vb (decide (a0.Req = j9)))) kj (gf 68 (rv (vb (decide (a0.Req = j9)))) kj (pf (rv (vb (decide (a0.Req = j9)))) kj (rv (vb false)) (asg (rv (vb false)) (nn (W_ret (block_r (then_r ?_)))))))); obtain rfl := Option.some.inj hr; exact done1 (Or.inl rfl) Try.results72 rfl ⟨_, _, rfl, rfl, k4, Vbool⟩
       ·have hr := ite_f kg hr; refine gf 62 (rv (vb jm)) kg (gf 62 (rv (vb jm)) kg (gf 62 (rv (vb jm)) kg (gf 62 (rv (vb jm)) kg (pf (rv (vb jm)) kg (rv (vb false)) (mv (rv (vb false)) (gf 68 (rv (vb false)) rfl (gf 68 (rv (vb false)) rfl (gf 68 (rv (vb false)) rfl (pf (rv (vb false)) rfl (rv (vb false)) (asg (rv (vb false)) (nn (W_ret (block_r ?_))))))))))))); refine then_r ?_; obtain rfl := Option.some.inj hr; exact done1 (Or.inl rfl) Try.results72 rfl ⟨_, _, rfl, rfl, k4, Vbool⟩
      ·have hr := ite_f kf hr; refine gf 59 (rv (vb k0)) kf (pf (rv (vb k0)) kf (rv (vb false)) (mv (rv (vb false)) (gf 62 (rv (vb false)) rfl (gf 62 (rv (vb false)) rfl (gf 62 (rv (vb false)) rfl (gf 62 (rv (vb false)) rfl (pf (rv (vb false)) rfl (rv (vb false)) (mv (rv (vb false)) (gf 68 (rv (vb false)) rfl (gf 68 (rv (vb false)) rfl (gf 68 (rv (vb false)) rfl (pf (rv (vb false)) rfl (rv (vb false)) (asg (rv (vb false)) ?_))))))))))))); refine nn (W_ret (block_r (then_r ?_))); obtain rfl := Option.some.inj hr; exact done1 (Or.inl rfl) Try.results72 rfl ⟨_, _, rfl, rfl, k4, Vbool⟩
     ·have hr := ite_f ke hr
      refine W_seq (sr (el (rv (vi (a0.Kind))) (rv (vi 2)) (asg (rv (vb (decide (a0.Kind = 2)))) (nn ?_))))
      refine W_cond _ (rv (vb (decide (a0.Kind = 2)))) (fun kf => ?_) (fun kf => ?_)
      ·have hr := ite_t kf hr
       refine W_skip (then_n ?_)
       refine W_cond _ (rv (vb (decide (a0.Kind = 2)))) (fun _ => ?_) (fun h => absurd (h.symm.trans kf) (by decide))
       refine sr (asg (rv (vi 0)) (nn (W_seq (sr (fa fld74_0 Deed.of_Kind k8 (j4.mono (je.trans (jr.trans k5))) (fun kg kh => li ty3 (rv kg) kh (el (rv (vi (a0.Kind))) (rv (vi 4)) (nn ?_))))))))
       refine W_cond _ (rv (vb (decide (a0.Kind = 4)))) (fun ki => ?_) (fun ki => ?_)
       ·have hr := ite_t ki hr
        refine W_region (mv k9 (asg (rv (vi j9)) (nn (sr (mv k6 (mv (rv (vb k0)) ?_))))))
        rcases tf (k0) with kj | kj
        ·have hr := ite_t kj hr
         refine gf 81 (rv (vb k0)) kj (gf 81 (rv (vb k0)) kj (gf 81 (rv (vb k0)) kj (pt (rv (vb k0)) kj (rv (vb true)) (mv (rv (vb true)) (gt 86 (rv (vb true)) rfl (mv ka (gt 86 (rv (vb true)) rfl (mv (rv (vb jm)) ?_))))))))
         rcases tf (jm) with kk | kk
         ·have hr := ite_t kk hr
          refine gf 88 (rv (vb jm)) kk (gf 88 (rv (vb jm)) kk (gf 88 (rv (vb jm)) kk (gt 86 (rv (vb true)) rfl (pt (rv (vb jm)) kk (rv (vb true)) (pt (rv (vb true)) rfl (rv (vb true)) (mv (rv (vb true)) (gt 94 (rv (vb true)) rfl (fa fld74_3 Deed.of_Req k8 (j4.mono (je.trans (jr.trans k5))) (fun kl km => gt 94 (rv (vb true)) rfl (li ty3 (rv kl) km (gt 94 (rv (vb true)) rfl (mv (rv (vi j9)) (gt 94 (rv (vb true)) rfl ?_)))))))))))))
          refine el (rv (vi (a0.Req))) (rv (vi j9)) (pt (rv (vb true)) rfl (rv (vb (decide (a0.Req = j9)))) (mv (rv (vb (decide (a0.Req = j9)))) ?_))
          rcases tf (decide (a0.Req = j9)) with kn | kn
          ·have hr := ite_t kn hr; refine gt 100 (rv (vb (decide (a0.Req = j9)))) kn (fa fld74_4 Deed.of_Sync k8 (j4.mono (je.trans (jr.trans k5))) (fun ko kp => gt 100 (rv (vb (decide (a0.Req = j9)))) kn (L_load_bool ty4 (rv ko) kp (by decide) (gt 100 (rv (vb (decide (a0.Req = j9)))) kn (L_not (rv (vb (a0.Sync))) (by decide) (pt (rv (vb (decide (a0.Req = j9)))) kn (rv (vb (!a0.Sync))) (asg (rv (vb (!a0.Sync))) (nn (W_ret (block_r (then_r ?_))))))))))); obtain rfl := Option.some.inj hr; exact done1 (Or.inl rfl) Try.results72 rfl ⟨_, _, rfl, rfl, k4, Vbool⟩
          ·have hr := ite_f kn hr; refine gf 100 (rv (vb (decide (a0.Req = j9)))) kn (gf 100 (rv (vb (decide (a0.Req = j9)))) kn (gf 100 (rv (vb (decide (a0.Req = j9)))) kn (pf (rv (vb (decide (a0.Req = j9)))) kn (rv (vb false)) (asg (rv (vb false)) (nn (W_ret (block_r (then_r ?_)))))))); obtain rfl := Option.some.inj hr; exact done1 (Or.inl rfl) Try.results72 rfl ⟨_, _, rfl, rfl, k4, Vbool⟩
         ·have hr := ite_f kk hr
          refine gt 88 (rv (vb jm)) kk (fa fld74_2 Deed.of_Tag k8 (j4.mono (je.trans (jr.trans k5))) (fun kl km => gt 88 (rv (vb jm)) kk (li ty3 (rv kl) km (gt 88 (rv (vb jm)) kk (el (rv (vi (a0.Tag))) (rv (vi (-1))) (gt 86 (rv (vb true)) rfl (pf (rv (vb jm)) kk (rv (vb (decide (a0.Tag = (-1))))) (pt (rv (vb true)) rfl (rv (vb (decide (a0.Tag = (-1))))) (mv (rv (vb (decide (a0.Tag = (-1))))) ?_)))))))))
          rcases tf (decide (a0.Tag = (-1))) with kn | kn
          ·have hr := ite_t kn hr
           refine gt 94 (rv (vb (decide (a0.Tag = (-1))))) kn (fa fld74_3 Deed.of_Req k8 (j4.mono (je.trans (jr.trans k5))) (fun ko kp => gt 94 (rv (vb (decide (a0.Tag = (-1))))) kn (li ty3 (rv ko) kp (gt 94 (rv (vb (decide (a0.Tag = (-1))))) kn (mv (rv (vi j9)) (gt 94 (rv (vb (decide (a0.Tag = (-1))))) kn (el (rv (vi (a0.Req))) (rv (vi j9)) (pt (rv (vb (decide (a0.Tag = (-1))))) kn (rv (vb (decide (a0.Req = j9)))) (mv (rv (vb (decide (a0.Req = j9)))) ?_)))))))))
           rcases tf (decide (a0.Req = j9)) with kq | kq
           ·have hr := ite_t kq hr; refine gt 100 (rv (vb (decide (a0.Req = j9)))) kq (fa fld74_4 Deed.of_Sync k8 (j4.mono (je.trans (jr.trans k5))) (fun kr ks => gt 100 (rv (vb (decide (a0.Req = j9)))) kq (L_load_bool ty4 (rv kr) ks (by decide) (gt 100 (rv (vb (decide (a0.Req = j9)))) kq (L_not (rv (vb (a0.Sync))) (by decide) (pt (rv (vb (decide (a0.Req = j9)))) kq (rv (vb (!a0.Sync))) (asg (rv (vb (!a0.Sync))) (nn (W_ret (block_r (then_r ?_))))))))))); obtain rfl := Option.some.inj hr; exact done1 (Or.inl rfl) Try.results72 rfl ⟨_, _, rfl, rfl, k4, Vbool⟩
           ·have hr := ite_f kq hr; refine gf 100 (rv (vb (decide (a0.Req = j9)))) kq (gf 100 (rv (vb (decide (a0.Req = j9)))) kq (gf 100 (rv (vb (decide (a0.Req = j9)))) kq (pf (rv (vb (decide (a0.Req = j9)))) kq (rv (vb false)) (asg (rv (vb false)) (nn (W_ret (block_r (then_r ?_)))))))); obtain rfl := Option.some.inj hr; exact done1 (Or.inl rfl) Try.results72 rfl ⟨_, _, rfl, rfl, k4, Vbool⟩
          ·have hr := ite_f kn hr; refine gf 94 (rv (vb (decide (a0.Tag = (-1))))) kn (gf 94 (rv (vb (decide (a0.Tag = (-1))))) kn (gf 94 (rv (vb (decide (a0.Tag = (-1))))) kn (gf 94 (rv (vb (decide (a0.Tag = (-1))))) kn (pf (rv (vb (decide (a0.Tag = (-1))))) kn (rv (vb false)) (mv (rv (vb false)) (gf 100 (rv (vb false)) rfl (gf 100 (rv (vb false)) rfl (gf 100 (rv (vb false)) rfl (pf (rv (vb false)) rfl (rv (vb false)) (asg (rv (vb false)) (nn (W_ret (block_r ?_))))))))))))); refine then_r ?_; obtain rfl := Option.some.inj hr; exact done1 (Or.inl rfl) Try.results72 rfl ⟨_, _, rfl, rfl, k4, Vbool⟩
        ·have hr := ite_f kj hr
         refine gt 81 (rv (vb k0)) kj (fa fld74_1 Deed.of_Peer k8 (j4.mono (je.trans (jr.trans k5))) (fun kk kl => gt 81 (rv (vb k0)) kj (li ty3 (rv kk) kl (gt 81 (rv (vb k0)) kj (el (rv (vi (a0.Peer))) (rv (vi (-1))) (pf (rv (vb k0)) kj (rv (vb (decide (a0.Peer = (-1))))) (mv (rv (vb (decide (a0.Peer = (-1))))) ?_)))))))
         rcases tf (decide (a0.Peer = (-1))) with km | km
         ·have hr := ite_t km hr
          refine gt 86 (rv (vb (decide (a0.Peer = (-1))))) km (mv ka (gt 86 (rv (vb (decide (a0.Peer = (-1))))) km (mv (rv (vb jm)) ?_)))
          rcases tf (jm) with kn | kn
          ·have hr := ite_t kn hr
           refine gf 88 (rv (vb jm)) kn (gf 88 (rv (vb jm)) kn (gf 88 (rv (vb jm)) kn (gt 86 (rv (vb (decide (a0.Peer = (-1))))) km (pt (rv (vb jm)) kn (rv (vb true)) (pt (rv (vb (decide (a0.Peer = (-1))))) km (rv (vb true)) (mv (rv (vb true)) (gt 94 (rv (vb true)) rfl (fa fld74_3 Deed.of_Req k8 (j4.mono (je.trans (jr.trans k5))) (fun ko kp => gt 94 (rv (vb true)) rfl (li ty3 (rv ko) kp (gt 94 (rv (vb true)) rfl (mv (rv (vi j9)) (gt 94 (rv (vb true)) rfl ?_)))))))))))))
           refine el (rv (vi (a0.Req))) (rv (vi j9)) (pt (rv (vb true)) rfl (rv (vb (decide (a0.Req = j9)))) (mv (rv (vb (decide (a0.Req = j9)))) ?_))
           rcases tf (decide (a0.Req = j9)) with kq | kq
           ·have hr := ite_t kq hr; refine gt 100 (rv (vb (decide (a0.Req = j9)))) kq (fa fld74_4 Deed.of_Sync k8 (j4.mono (je.trans (jr.trans k5))) (fun kr ks => gt 100 (rv (vb (decide (a0.Req = j9)))) kq (L_load_bool ty4 (rv kr) ks (by decide) (gt 100 (rv (vb (decide (a0.Req = j9)))) kq (L_not (rv (vb (a0.Sync))) (by decide) (pt (rv (vb (decide (a0.Req = j9)))) kq (rv (vb (!a0.Sync))) (asg (rv (vb (!a0.Sync))) (nn (W_ret (block_r (then_r ?_))))))))))); obtain rfl := Option.some.inj hr; exact done1 (Or.inl rfl) Try.results72 rfl ⟨_, _, rfl, rfl, k4, Vbool⟩
           ·have hr := ite_f kq hr; refine gf 100 (rv (vb (decide (a0.Req = j9)))) kq (gf 100 (rv (vb (decide (a0.Req = j9)))) kq (gf 100 (rv (vb (decide (a0.Req = j9)))) kq (pf (rv (vb (decide (a0.Req = j9)))) kq (rv (vb false)) (asg (rv (vb false)) (nn (W_ret (block_r (then_r ?_)))))))); obtain rfl := Option.some.inj hr; exact done1 (Or.inl rfl) Try.results72 rfl ⟨_, _, rfl, rfl, k4, Vbool⟩
          ·have hr := ite_f kn hr
           refine gt 88 (rv (vb jm)) kn (fa fld74_2 Deed.of_Tag k8 (j4.mono (je.trans (jr.trans k5))) (fun ko kp => gt 88 (rv (vb jm)) kn (li ty3 (rv ko) kp (gt 88 (rv (vb jm)) kn (el (rv (vi (a0.Tag))) (rv (vi (-1))) (gt 86 (rv (vb (decide (a0.Peer = (-1))))) km (pf (rv (vb jm)) kn (rv (vb (decide (a0.Tag = (-1))))) (pt (rv (vb (decide (a0.Peer = (-1))))) km (rv (vb (decide (a0.Tag = (-1))))) (mv (rv (vb (decide (a0.Tag = (-1))))) ?_)))))))))
           rcases tf (decide (a0.Tag = (-1))) with kq | kq
           ·have hr := ite_t kq hr
            refine gt 94 (rv (vb (decide (a0.Tag = (-1))))) kq (fa fld74_3 Deed.of_Req k8 (j4.mono (je.trans (jr.trans k5))) (fun kr ks => gt 94 (rv (vb (decide (a0.Tag = (-1))))) kq (li ty3 (rv kr) ks (gt 94 (rv (vb (decide (a0.Tag = (-1))))) kq (mv (rv (vi j9)) (gt 94 (rv (vb (decide (a0.Tag = (-1))))) kq (el (rv (vi (a0.Req))) (rv (vi j9)) (pt (rv (vb (decide (a0.Tag = (-1))))) kq (rv (vb (decide (a0.Req = j9)))) (mv (rv (vb (decide (a0.Req = j9)))) ?_)))))))))
            rcases tf (decide (a0.Req = j9)) with kt | kt
            ·have hr := ite_t kt hr; refine gt 100 (rv (vb (decide (a0.Req = j9)))) kt (fa fld74_4 Deed.of_Sync k8 (j4.mono (je.trans (jr.trans k5))) (fun ku kv => gt 100 (rv (vb (decide (a0.Req = j9)))) kt (L_load_bool ty4 (rv ku) kv (by decide) (gt 100 (rv (vb (decide (a0.Req = j9)))) kt (L_not (rv (vb (a0.Sync))) (by decide) (pt (rv (vb (decide (a0.Req = j9)))) kt (rv (vb (!a0.Sync))) (asg (rv (vb (!a0.Sync))) (nn (W_ret (block_r (then_r ?_))))))))))); obtain rfl := Option.some.inj hr; exact done1 (Or.inl rfl) Try.results72 rfl ⟨_, _, rfl, rfl, k4, Vbool⟩
            ·have hr := ite_f kt hr; refine gf 100 (rv (vb (decide (a0.Req = j9)))) kt (gf 100 (rv (vb (decide (a0.Req = j9)))) kt (gf 100 (rv (vb (decide (a0.Req = j9)))) kt (pf (rv (vb (decide (a0.Req = j9)))) kt (rv (vb false)) (asg (rv (vb false)) (nn (W_ret (block_r (then_r ?_)))))))); obtain rfl := Option.some.inj hr; exact done1 (Or.inl rfl) Try.results72 rfl ⟨_, _, rfl, rfl, k4, Vbool⟩
           ·have hr := ite_f kq hr; refine gf 94 (rv (vb (decide (a0.Tag = (-1))))) kq (gf 94 (rv (vb (decide (a0.Tag = (-1))))) kq (gf 94 (rv (vb (decide (a0.Tag = (-1))))) kq (gf 94 (rv (vb (decide (a0.Tag = (-1))))) kq (pf (rv (vb (decide (a0.Tag = (-1))))) kq (rv (vb false)) (mv (rv (vb false)) (gf 100 (rv (vb false)) rfl (gf 100 (rv (vb false)) rfl (gf 100 (rv (vb false)) rfl (pf (rv (vb false)) rfl (rv (vb false)) (asg (rv (vb false)) (nn (W_ret (block_r ?_))))))))))))); refine then_r ?_; obtain rfl := Option.some.inj hr; exact done1 (Or.inl rfl) Try.results72 rfl ⟨_, _, rfl, rfl, k4, Vbool⟩
         ·have hr := ite_f km hr; refine gf 86 (rv (vb (decide (a0.Peer = (-1))))) km (gf 86 (rv (vb (decide (a0.Peer = (-1))))) km (L_gu (e := 88) (by rfl) (rv (undef)) (by decide) (L_gu (e := 88) (by rfl) (rv (undef)) (by decide) (L_gu (e := 88) (by rfl) (rv (undef)) (by decide) (gf 86 (rv (vb (decide (a0.Peer = (-1))))) km (pf (rv (vb (decide (a0.Peer = (-1))))) km (rv (vb false)) (mv (rv (vb false)) (gf 94 (rv (vb false)) rfl (gf 94 (rv (vb false)) rfl (gf 94 (rv (vb false)) rfl (gf 94 (rv (vb false)) rfl (pf (rv (vb false)) rfl (rv (vb false)) (mv (rv (vb false)) ?_))))))))))))); refine gf 100 (rv (vb false)) rfl (gf 100 (rv (vb false)) rfl (gf 100 (rv (vb false)) rfl (pf (rv (vb false)) rfl (rv (vb false)) (asg (rv (vb false)) (nn (W_ret (block_r (then_r ?_)))))))); obtain rfl := Option.some.inj hr; exact done1 (Or.inl rfl) Try.results72 rfl ⟨_, _, rfl, rfl, k4, Vbool⟩
       ·have hr := ite_f ki hr
        refine W_skip (then_n (sr (mv k6 (mv (rv (vb k0)) ?_))))
        rcases tf (k0) with kj | kj
        ·have hr := ite_t kj hr
         refine gf 81 (rv (vb k0)) kj (gf 81 (rv (vb k0)) kj (gf 81 (rv (vb k0)) kj (pt (rv (vb k0)) kj (rv (vb true)) (mv (rv (vb true)) (gt 86 (rv (vb true)) rfl (mv ka (gt 86 (rv (vb true)) rfl (mv (rv (vb jm)) ?_))))))))
         rcases tf (jm) with kk | kk
         ·have hr := ite_t kk hr
          refine gf 88 (rv (vb jm)) kk (gf 88 (rv (vb jm)) kk (gf 88 (rv (vb jm)) kk (gt 86 (rv (vb true)) rfl (pt (rv (vb jm)) kk (rv (vb true)) (pt (rv (vb true)) rfl (rv (vb true)) (mv (rv (vb true)) (gt 94 (rv (vb true)) rfl (fa fld74_3 Deed.of_Req k8 (j4.mono (je.trans (jr.trans k5))) (fun kl km => gt 94 (rv (vb true)) rfl (li ty3 (rv kl) km (gt 94 (rv (vb true)) rfl (mv (rv (vi 0)) (gt 94 (rv (vb true)) rfl ?_)))))))))))))
          refine el (rv (vi (a0.Req))) (rv (vi 0)) (pt (rv (vb true)) rfl (rv (vb (decide (a0.Req = 0)))) (mv (rv (vb (decide (a0.Req = 0)))) ?_))
          rcases tf (decide (a0.Req = 0)) with kn | kn
          ·have hr := ite_t kn hr; refine gt 100 (rv (vb (decide (a0.Req = 0)))) kn (fa fld74_4 Deed.of_Sync k8 (j4.mono (je.trans (jr.trans k5))) (fun ko kp => gt 100 (rv (vb (decide (a0.Req = 0)))) kn (L_load_bool ty4 (rv ko) kp (by decide) (gt 100 (rv (vb (decide (a0.Req = 0)))) kn (L_not (rv (vb (a0.Sync))) (by decide) (pt (rv (vb (decide (a0.Req = 0)))) kn (rv (vb (!a0.Sync))) (asg (rv (vb (!a0.Sync))) (nn (W_ret (block_r (then_r ?_))))))))))); obtain rfl := Option.some.inj hr; exact done1 (Or.inl rfl) Try.results72 rfl ⟨_, _, rfl, rfl, k4, Vbool⟩
          ·have hr := ite_f kn hr; refine gf 100 (rv (vb (decide (a0.Req = 0)))) kn (gf 100 (rv (vb (decide (a0.Req = 0)))) kn (gf 100 (rv (vb (decide (a0.Req = 0)))) kn (pf (rv (vb (decide (a0.Req = 0)))) kn (rv (vb false)) (asg (rv (vb false)) (nn (W_ret (block_r (then_r ?_)))))))); obtain rfl := Option.some.inj hr; exact done1 (Or.inl rfl) Try.results72 rfl ⟨_, _, rfl, rfl, k4, Vbool⟩
         ·have hr := ite_f kk hr
          refine gt 88 (rv (vb jm)) kk (fa fld74_2 Deed.of_Tag k8 (j4.mono (je.trans (jr.trans k5))) (fun kl km => gt 88 (rv (vb jm)) kk (li ty3 (rv kl) km (gt 88 (rv (vb jm)) kk (el (rv (vi (a0.Tag))) (rv (vi (-1))) (gt 86 (rv (vb true)) rfl (pf (rv (vb jm)) kk (rv (vb (decide (a0.Tag = (-1))))) (pt (rv (vb true)) rfl (rv (vb (decide (a0.Tag = (-1))))) (mv (rv (vb (decide (a0.Tag = (-1))))) ?_)))))))))
          rcases tf (decide (a0.Tag = (-1))) with kn | kn
          ·have hr := ite_t kn hr
           refine gt 94 (rv (vb (decide (a0.Tag = (-1))))) kn (fa fld74_3 Deed.of_Req k8 (j4.mono (je.trans (jr.trans k5))) (fun ko kp => gt 94 (rv (vb (decide (a0.Tag = (-1))))) kn (li ty3 (rv ko) kp (gt 94 (rv (vb (decide (a0.Tag = (-1))))) kn (mv (rv (vi 0)) (gt 94 (rv (vb (decide (a0.Tag = (-1))))) kn (el (rv (vi (a0.Req))) (rv (vi 0)) (pt (rv (vb (decide (a0.Tag = (-1))))) kn (rv (vb (decide (a0.Req = 0)))) (mv (rv (vb (decide (a0.Req = 0)))) ?_)))))))))
           rcases tf (decide (a0.Req = 0)) with kq | kq
           ·have hr := ite_t kq hr; refine gt 100 (rv (vb (decide (a0.Req = 0)))) kq (fa fld74_4 Deed.of_Sync k8 (j4.mono (je.trans (jr.trans k5))) (fun kr ks => gt 100 (rv (vb (decide (a0.Req = 0)))) kq (L_load_bool ty4 (rv kr) ks (by decide) (gt 100 (rv (vb (decide (a0.Req = 0)))) kq (L_not (rv (vb (a0.Sync))) (by decide) (pt (rv (vb (decide (a0.Req = 0)))) kq (rv (vb (!a0.Sync))) (asg (rv (vb (!a0.Sync))) (nn (W_ret (block_r (then_r ?_))))))))))); obtain rfl := Option.some.inj hr; exact done1 (Or.inl rfl) Try.results72 rfl ⟨_, _, rfl, rfl, k4, Vbool⟩
           ·have hr := ite_f kq hr; refine gf 100 (rv (vb (decide (a0.Req = 0)))) kq (gf 100 (rv (vb (decide (a0.Req = 0)))) kq (gf 100 (rv (vb (decide (a0.Req = 0)))) kq (pf (rv (vb (decide (a0.Req = 0)))) kq (rv (vb false)) (asg (rv (vb false)) (nn (W_ret (block_r (then_r ?_)))))))); obtain rfl := Option.some.inj hr; exact done1 (Or.inl rfl) Try.results72 rfl ⟨_, _, rfl, rfl, k4, Vbool⟩
          ·have hr := ite_f kn hr; refine gf 94 (rv (vb (decide (a0.Tag = (-1))))) kn (gf 94 (rv (vb (decide (a0.Tag = (-1))))) kn (gf 94 (rv (vb (decide (a0.Tag = (-1))))) kn (gf 94 (rv (vb (decide (a0.Tag = (-1))))) kn (pf (rv (vb (decide (a0.Tag = (-1))))) kn (rv (vb false)) (mv (rv (vb false)) (gf 100 (rv (vb false)) rfl (gf 100 (rv (vb false)) rfl (gf 100 (rv (vb false)) rfl (pf (rv (vb false)) rfl (rv (vb false)) (asg (rv (vb false)) (nn (W_ret (block_r ?_))))))))))))); refine then_r ?_; obtain rfl := Option.some.inj hr; exact done1 (Or.inl rfl) Try.results72 rfl ⟨_, _, rfl, rfl, k4, Vbool⟩
        ·have hr := ite_f kj hr
         refine gt 81 (rv (vb k0)) kj (fa fld74_1 Deed.of_Peer k8 (j4.mono (je.trans (jr.trans k5))) (fun kk kl => gt 81 (rv (vb k0)) kj (li ty3 (rv kk) kl (gt 81 (rv (vb k0)) kj (el (rv (vi (a0.Peer))) (rv (vi (-1))) (pf (rv (vb k0)) kj (rv (vb (decide (a0.Peer = (-1))))) (mv (rv (vb (decide (a0.Peer = (-1))))) ?_)))))))
         rcases tf (decide (a0.Peer = (-1))) with km | km
         ·have hr := ite_t km hr
          refine gt 86 (rv (vb (decide (a0.Peer = (-1))))) km (mv ka (gt 86 (rv (vb (decide (a0.Peer = (-1))))) km (mv (rv (vb jm)) ?_)))
          rcases tf (jm) with kn | kn
          ·have hr := ite_t kn hr
           refine gf 88 (rv (vb jm)) kn (gf 88 (rv (vb jm)) kn (gf 88 (rv (vb jm)) kn (gt 86 (rv (vb (decide (a0.Peer = (-1))))) km (pt (rv (vb jm)) kn (rv (vb true)) (pt (rv (vb (decide (a0.Peer = (-1))))) km (rv (vb true)) (mv (rv (vb true)) (gt 94 (rv (vb true)) rfl (fa fld74_3 Deed.of_Req k8 (j4.mono (je.trans (jr.trans k5))) (fun ko kp => gt 94 (rv (vb true)) rfl (li ty3 (rv ko) kp (gt 94 (rv (vb true)) rfl (mv (rv (vi 0)) (gt 94 (rv (vb true)) rfl ?_)))))))))))))
           refine el (rv (vi (a0.Req))) (rv (vi 0)) (pt (rv (vb true)) rfl (rv (vb (decide (a0.Req = 0)))) (mv (rv (vb (decide (a0.Req = 0)))) ?_))
           rcases tf (decide (a0.Req = 0)) with kq | kq
           ·have hr := ite_t kq hr; refine gt 100 (rv (vb (decide (a0.Req = 0)))) kq (fa fld74_4 Deed.of_Sync k8 (j4.mono (je.trans (jr.trans k5))) (fun kr ks => gt 100 (rv (vb (decide (a0.Req = 0)))) kq (L_load_bool ty4 (rv kr) ks (by decide) (gt 100 (rv (vb (decide (a0.Req = 0)))) kq (L_not (rv (vb (a0.Sync))) (by decide) (pt (rv (vb (decide (a0.Req = 0)))) kq (rv (vb (!a0.Sync))) (asg (rv (vb (!a0.Sync))) (nn (W_ret (block_r (then_r ?_))))))))))); obtain rfl := Option.some.inj hr; exact done1 (Or.inl rfl) Try.results72 rfl ⟨_, _, rfl, rfl, k4, Vbool⟩
           ·have hr := ite_f kq hr; refine gf 100 (rv (vb (decide (a0.Req = 0)))) kq (gf 100 (rv (vb (decide (a0.Req = 0)))) kq (gf 100 (rv (vb (decide (a0.Req = 0)))) kq (pf (rv (vb (decide (a0.Req = 0)))) kq (rv (vb false)) (asg (rv (vb false)) (nn (W_ret (block_r (then_r ?_)))))))); obtain rfl := Option.some.inj hr; exact done1 (Or.inl rfl) Try.results72 rfl ⟨_, _, rfl, rfl, k4, Vbool⟩
          ·have hr := ite_f kn hr
           refine gt 88 (rv (vb jm)) kn (fa fld74_2 Deed.of_Tag k8 (j4.mono (je.trans (jr.trans k5))) (fun ko kp => gt 88 (rv (vb jm)) kn (li ty3 (rv ko) kp (gt 88 (rv (vb jm)) kn (el (rv (vi (a0.Tag))) (rv (vi (-1))) (gt 86 (rv (vb (decide (a0.Peer = (-1))))) km (pf (rv (vb jm)) kn (rv (vb (decide (a0.Tag = (-1))))) (pt (rv (vb (decide (a0.Peer = (-1))))) km (rv (vb (decide (a0.Tag = (-1))))) (mv (rv (vb (decide (a0.Tag = (-1))))) ?_)))))))))
           rcases tf (decide (a0.Tag = (-1))) with kq | kq
           ·have hr := ite_t kq hr
            refine gt 94 (rv (vb (decide (a0.Tag = (-1))))) kq (fa fld74_3 Deed.of_Req k8 (j4.mono (je.trans (jr.trans k5))) (fun kr ks => gt 94 (rv (vb (decide (a0.Tag = (-1))))) kq (li ty3 (rv kr) ks (gt 94 (rv (vb (decide (a0.Tag = (-1))))) kq (mv (rv (vi 0)) (gt 94 (rv (vb (decide (a0.Tag = (-1))))) kq (el (rv (vi (a0.Req))) (rv (vi 0)) (pt (rv (vb (decide (a0.Tag = (-1))))) kq (rv (vb (decide (a0.Req = 0)))) (mv (rv (vb (decide (a0.Req = 0)))) ?_)))))))))
            rcases tf (decide (a0.Req = 0)) with kt | kt
            ·have hr := ite_t kt hr; refine gt 100 (rv (vb (decide (a0.Req = 0)))) kt (fa fld74_4 Deed.of_Sync k8 (j4.mono (je.trans (jr.trans k5))) (fun ku kv => gt 100 (rv (vb (decide (a0.Req = 0)))) kt (L_load_bool ty4 (rv ku) kv (by decide) (gt 100 (rv (vb (decide (a0.Req = 0)))) kt (L_not (rv (vb (a0.Sync))) (by decide) (pt (rv (vb (decide (a0.Req = 0)))) kt (rv (vb (!a0.Sync))) (asg (rv (vb (!a0.Sync))) (nn (W_ret (block_r (then_r ?_))))))))))); obtain rfl := Option.some.inj hr; exact done1 (Or.inl rfl) Try.results72 rfl ⟨_, _, rfl, rfl, k4, Vbool⟩
            ·have hr := ite_f kt hr; refine gf 100 (rv (vb (decide (a0.Req = 0)))) kt (gf 100 (rv (vb (decide (a0.Req = 0)))) kt (gf 100 (rv (vb (decide (a0.Req = 0)))) kt (pf (rv (vb (decide (a0.Req = 0)))) kt (rv (vb false)) (asg (rv (vb false)) (nn (W_ret (block_r (then_r ?_)))))))); obtain rfl := Option.some.inj hr; exact done1 (Or.inl rfl) Try.results72 rfl ⟨_, _, rfl, rfl, k4, Vbool⟩
           ·have hr := ite_f kq hr; refine gf 94 (rv (vb (decide (a0.Tag = (-1))))) kq (gf 94 (rv (vb (decide (a0.Tag = (-1))))) kq (gf 94 (rv (vb (decide (a0.Tag = (-1))))) kq (gf 94 (rv (vb (decide (a0.Tag = (-1))))) kq (pf (rv (vb (decide (a0.Tag = (-1))))) kq (rv (vb false)) (mv (rv (vb false)) (gf 100 (rv (vb false)) rfl (gf 100 (rv (vb false)) rfl (gf 100 (rv (vb false)) rfl (pf (rv (vb false)) rfl (rv (vb false)) (asg (rv (vb false)) (nn (W_ret (block_r ?_))))))))))))); refine then_r ?_; obtain rfl := Option.some.inj hr; exact done1 (Or.inl rfl) Try.results72 rfl ⟨_, _, rfl, rfl, k4, Vbool⟩
         ·have hr := ite_f km hr; refine gf 86 (rv (vb (decide (a0.Peer = (-1))))) km (gf 86 (rv (vb (decide (a0.Peer = (-1))))) km (L_gu (e := 88) (by rfl) (rv (undef)) (by decide) (L_gu (e := 88) (by rfl) (rv (undef)) (by decide) (L_gu (e := 88) (by rfl) (rv (undef)) (by decide) (gf 86 (rv (vb (decide (a0.Peer = (-1))))) km (pf (rv (vb (decide (a0.Peer = (-1))))) km (rv (vb false)) (mv (rv (vb false)) (gf 94 (rv (vb false)) rfl (gf 94 (rv (vb false)) rfl (gf 94 (rv (vb false)) rfl (gf 94 (rv (vb false)) rfl (pf (rv (vb false)) rfl (rv (vb false)) (mv (rv (vb false)) ?_))))))))))))); refine gf 100 (rv (vb false)) rfl (gf 100 (rv (vb false)) rfl (gf 100 (rv (vb false)) rfl (pf (rv (vb false)) rfl (rv (vb false)) (asg (rv (vb false)) (nn (W_ret (block_r (then_r ?_)))))))); obtain rfl := Option.some.inj hr; exact done1 (Or.inl rfl) Try.results72 rfl ⟨_, _, rfl, rfl, k4, Vbool⟩
      ·have hr := ite_f kf hr
       refine W_region (el (rv (vi (a0.Kind))) (rv (vi 4)) (asg (rv (vb (decide (a0.Kind = 4)))) (nn ?_)))
       refine W_cond _ (rv (vb (decide (a0.Kind = 4)))) (fun kg => ?_) (fun kg => ?_)
       ·have hr := ite_t kg hr
        refine sr (asg (rv (vi 0)) (nn (W_seq (sr (fa fld74_0 Deed.of_Kind k8 (j4.mono (je.trans (jr.trans k5))) (fun kh ki => li ty3 (rv kh) ki (el (rv (vi (a0.Kind))) (rv (vi 4)) (nn ?_))))))))
        refine W_cond _ (rv (vb (decide (a0.Kind = 4)))) (fun _ => ?_) (fun h => absurd (h.symm.trans kg) (by decide))
        refine W_region (mv k9 (asg (rv (vi j9)) (nn (sr (mv k6 (mv (rv (vb k0)) ?_))))))
        rcases tf (k0) with kj | kj
        ·have hr := ite_t kj hr
         refine gf 81 (rv (vb k0)) kj (gf 81 (rv (vb k0)) kj (gf 81 (rv (vb k0)) kj (pt (rv (vb k0)) kj (rv (vb true)) (mv (rv (vb true)) (gt 86 (rv (vb true)) rfl (mv ka (gt 86 (rv (vb true)) rfl (mv (rv (vb jm)) ?_))))))))
         rcases tf (jm) with kk | kk
         ·have hr := ite_t kk hr
          refine gf 88 (rv (vb jm)) kk (gf 88 (rv (vb jm)) kk (gf 88 (rv (vb jm)) kk (gt 86 (rv (vb true)) rfl (pt (rv (vb jm)) kk (rv (vb true)) (pt (rv (vb true)) rfl (rv (vb true)) (mv (rv (vb true)) (gt 94 (rv (vb true)) rfl (fa fld74_3 Deed.of_Req k8 (j4.mono (je.trans (jr.trans k5))) (fun kl km => gt 94 (rv (vb true)) rfl (li ty3 (rv kl) km (gt 94 (rv (vb true)) rfl (mv (rv (vi j9)) (gt 94 (rv (vb true)) rfl ?_)))))))))))))
          refine el (rv (vi (a0.Req))) (rv (vi j9)) (pt (rv (vb true)) rfl (rv (vb (decide (a0.Req = j9)))) (mv (rv (vb (decide (a0.Req = j9)))) ?_))
          rcases tf (decide (a0.Req = j9)) with kn | kn
          ·have hr := ite_t kn hr; refine gt 100 (rv (vb (decide (a0.Req = j9)))) kn (fa fld74_4 Deed.of_Sync k8 (j4.mono (je.trans (jr.trans k5))) (fun ko kp => gt 100 (rv (vb (decide (a0.Req = j9)))) kn (L_load_bool ty4 (rv ko) kp (by decide) (gt 100 (rv (vb (decide (a0.Req = j9)))) kn (L_not (rv (vb (a0.Sync))) (by decide) (pt (rv (vb (decide (a0.Req = j9)))) kn (rv (vb (!a0.Sync))) (asg (rv (vb (!a0.Sync))) (nn (W_ret (block_r (then_r ?_))))))))))); obtain rfl := Option.some.inj hr; exact done1 (Or.inl rfl) Try.results72 rfl ⟨_, _, rfl, rfl, k4, Vbool⟩
          ·have hr := ite_f kn hr; refine gf 100 (rv (vb (decide (a0.Req = j9)))) kn (gf 100 (rv (vb (decide (a0.Req = j9)))) kn (gf 100 (rv (vb (decide (a0.Req = j9)))) kn (pf (rv (vb (decide (a0.Req = j9)))) kn (rv (vb false)) (asg (rv (vb false)) (nn (W_ret (block_r (then_r ?_)))))))); obtain rfl := Option.some.inj hr; exact done1 (Or.inl rfl) Try.results72 rfl ⟨_, _, rfl, rfl, k4, Vbool⟩
         ·have hr := ite_f kk hr
          refine gt 88 (rv (vb jm)) kk (fa fld74_2 Deed.of_Tag k8 (j4.mono (je.trans (jr.trans k5))) (fun kl km => gt 88 (rv (vb jm)) kk (li ty3 (rv kl) km (gt 88 (rv (vb jm)) kk (el (rv (vi (a0.Tag))) (rv (vi (-1))) (gt 86 (rv (vb true)) rfl (pf (rv (vb jm)) kk (rv (vb (decide (a0.Tag = (-1))))) (pt (rv (vb true)) rfl (rv (vb (decide (a0.Tag = (-1))))) (mv (rv (vb (decide (a0.Tag = (-1))))) ?_)))))))))
          rcases tf (decide (a0.Tag = (-1))) with kn | kn
          ·have hr := ite_t kn hr
           refine gt 94 (rv (vb (decide (a0.Tag = (-1))))) kn (fa fld74_3 Deed.of_Req k8 (j4.mono (je.trans (jr.trans k5))) (fun ko kp => gt 94 (rv (vb (decide (a0.Tag = (-1))))) kn (li ty3 (rv ko) kp (gt 94 (rv (vb (decide (a0.Tag = (-1))))) kn (mv (rv (vi j9)) (gt 94 (rv (vb (decide (a0.Tag = (-1))))) kn (el (rv (vi (a0.Req))) (rv (vi j9)) (pt (rv (vb (decide (a0.Tag = (-1))))) kn (rv (vb (decide (a0.Req = j9)))) (mv (rv (vb (decide (a0.Req = j9)))) ?_)))))))))
           rcases tf (decide (a0.Req = j9)) with kq | kq
           ·have hr := ite_t kq hr; refine gt 100 (rv (vb (decide (a0.Req = j9)))) kq (fa fld74_4 Deed.of_Sync k8 (j4.mono (je.trans (jr.trans k5))) (fun kr ks => gt 100 (rv (vb (decide (a0.Req = j9)))) kq (L_load_bool ty4 (rv kr) ks (by decide) (gt 100 (rv (vb (decide (a0.Req = j9)))) kq (L_not (rv (vb (a0.Sync))) (by decide) (pt (rv (vb (decide (a0.Req = j9)))) kq (rv (vb (!a0.Sync))) (asg (rv (vb (!a0.Sync))) (nn (W_ret (block_r (then_r ?_))))))))))); obtain rfl := Option.some.inj hr; exact done1 (Or.inl rfl) Try.results72 rfl ⟨_, _, rfl, rfl, k4, Vbool⟩
           ·have hr := ite_f kq hr; refine gf 100 (rv (vb (decide (a0.Req = j9)))) kq (gf 100 (rv (vb (decide (a0.Req = j9)))) kq (gf 100 (rv (vb (decide (a0.Req = j9)))) kq (pf (rv (vb (decide (a0.Req = j9)))) kq (rv (vb false)) (asg (rv (vb false)) (nn (W_ret (block_r (then_r ?_)))))))); obtain rfl := Option.some.inj hr; exact done1 (Or.inl rfl) Try.results72 rfl ⟨_, _, rfl, rfl, k4, Vbool⟩
          ·have hr := ite_f kn hr; refine gf 94 (rv (vb (decide (a0.Tag = (-1))))) kn (gf 94 (rv (vb (decide (a0.Tag = (-1))))) kn (gf 94 (rv (vb (decide (a0.Tag = (-1))))) kn (gf 94 (rv (vb (decide (a0.Tag = (-1))))) kn (pf (rv (vb (decide (a0.Tag = (-1))))) kn (rv (vb false)) (mv (rv (vb false)) (gf 100 (rv (vb false)) rfl (gf 100 (rv (vb false)) rfl (gf 100 (rv (vb false)) rfl (pf (rv (vb false)) rfl (rv (vb false)) (asg (rv (vb false)) (nn (W_ret (block_r ?_))))))))))))); refine then_r ?_; obtain rfl := Option.some.inj hr; exact done1 (Or.inl rfl) Try.results72 rfl ⟨_, _, rfl, rfl, k4, Vbool⟩
        ·have hr := ite_f kj hr
         refine gt 81 (rv (vb k0)) kj (fa fld74_1 Deed.of_Peer k8 (j4.mono (je.trans (jr.trans k5))) (fun kk kl => gt 81 (rv (vb k0)) kj (li ty3 (rv kk) kl (gt 81 (rv (vb k0)) kj (el (rv (vi (a0.Peer))) (rv (vi (-1))) (pf (rv (vb k0)) kj (rv (vb (decide (a0.Peer = (-1))))) (mv (rv (vb (decide (a0.Peer = (-1))))) ?_)))))))
         rcases tf (decide (a0.Peer = (-1))) with km | km
         ·have hr := ite_t km hr
          refine gt 86 (rv (vb (decide (a0.Peer = (-1))))) km (mv ka (gt 86 (rv (vb (decide (a0.Peer = (-1))))) km (mv (rv (vb jm)) ?_)))
          rcases tf (jm) with kn | kn
          ·have hr := ite_t kn hr
           refine gf 88 (rv (vb jm)) kn (gf 88 (rv (vb jm)) kn (gf 88 (rv (vb jm)) kn (gt 86 (rv (vb (decide (a0.Peer = (-1))))) km (pt (rv (vb jm)) kn (rv (vb true)) (pt (rv (vb (decide (a0.Peer = (-1))))) km (rv (vb true)) (mv (rv (vb true)) (gt 94 (rv (vb true)) rfl (fa fld74_3 Deed.of_Req k8 (j4.mono (je.trans (jr.trans k5))) (fun ko kp => gt 94 (rv (vb true)) rfl (li ty3 (rv ko) kp (gt 94 (rv (vb true)) rfl (mv (rv (vi j9)) (gt 94 (rv (vb true)) rfl ?_)))))))))))))
           refine el (rv (vi (a0.Req))) (rv (vi j9)) (pt (rv (vb true)) rfl (rv (vb (decide (a0.Req = j9)))) (mv (rv (vb (decide (a0.Req = j9)))) ?_))
           rcases tf (decide (a0.Req = j9)) with kq | kq
           ·have hr := ite_t kq hr; refine gt 100 (rv (vb (decide (a0.Req = j9)))) kq (fa fld74_4 Deed.of_Sync k8 (j4.mono (je.trans (jr.trans k5))) (fun kr ks => gt 100 (rv (vb (decide (a0.Req = j9)))) kq (L_load_bool ty4 (rv kr) ks (by decide) (gt 100 (rv (vb (decide (a0.Req = j9)))) kq (L_not (rv (vb (a0.Sync))) (by decide) (pt (rv (vb (decide (a0.Req = j9)))) kq (rv (vb (!a0.Sync))) (asg (rv (vb (!a0.Sync))) (nn (W_ret (block_r (then_r ?_))))))))))); obtain rfl := Option.some.inj hr; exact done1 (Or.inl rfl) Try.results72 rfl ⟨_, _, rfl, rfl, k4, Vbool⟩
           ·have hr := ite_f kq hr; refine gf 100 (rv (vb (decide (a0.Req = j9)))) kq (gf 100 (rv (vb (decide (a0.Req = j9)))) kq (gf 100 (rv (vb (decide (a0.Req = j9)))) kq (pf (rv (vb (decide (a0.Req = j9)))) kq (rv (vb false)) (asg (rv (vb false)) (nn (W_ret (block_r (then_r ?_)))))))); obtain rfl := Option.some.inj hr; exact done1 (Or.inl rfl) Try.results72 rfl ⟨_, _, rfl, rfl, k4, Vbool⟩
          ·have hr := ite_f kn hr
           refine gt 88 (rv (vb jm)) kn (fa fld74_2 Deed.of_Tag k8 (j4.mono (je.trans (jr.trans k5))) (fun ko kp => gt 88 (rv (vb jm)) kn (li ty3 (rv ko) kp (gt 88 (rv (vb jm)) kn (el (rv (vi (a0.Tag))) (rv (vi (-1))) (gt 86 (rv (vb (decide (a0.Peer = (-1))))) km (pf (rv (vb jm)) kn (rv (vb (decide (a0.Tag = (-1))))) (pt (rv (vb (decide (a0.Peer = (-1))))) km (rv (vb (decide (a0.Tag = (-1))))) (mv (rv (vb (decide (a0.Tag = (-1))))) ?_)))))))))
           rcases tf (decide (a0.Tag = (-1))) with kq | kq
           ·have hr := ite_t kq hr
            refine gt 94 (rv (vb (decide (a0.Tag = (-1))))) kq (fa fld74_3 Deed.of_Req k8 (j4.mono (je.trans (jr.trans k5))) (fun kr ks => gt 94 (rv (vb (decide (a0.Tag = (-1))))) kq (li ty3 (rv kr) ks (gt 94 (rv (vb (decide (a0.Tag = (-1))))) kq (mv (rv (vi j9)) (gt 94 (rv (vb (decide (a0.Tag = (-1))))) kq (el (rv (vi (a0.Req))) (rv (vi j9)) (pt (rv (vb (decide (a0.Tag = (-1))))) kq (rv (vb (decide (a0.Req = j9)))) (mv (rv (vb (decide (a0.Req = j9)))) ?_)))))))))
            rcases tf (decide (a0.Req = j9)) with kt | kt
            ·have hr := ite_t kt hr; refine gt 100 (rv (vb (decide (a0.Req = j9)))) kt (fa fld74_4 Deed.of_Sync k8 (j4.mono (je.trans (jr.trans k5))) (fun ku kv => gt 100 (rv (vb (decide (a0.Req = j9)))) kt (L_load_bool ty4 (rv ku) kv (by decide) (gt 100 (rv (vb (decide (a0.Req = j9)))) kt (L_not (rv (vb (a0.Sync))) (by decide) (pt (rv (vb (decide (a0.Req = j9)))) kt (rv (vb (!a0.Sync))) (asg (rv (vb (!a0.Sync))) (nn (W_ret (block_r (then_r ?_))))))))))); obtain rfl := Option.some.inj hr; exact done1 (Or.inl rfl) Try.results72 rfl ⟨_, _, rfl, rfl, k4, Vbool⟩
            ·have hr := ite_f kt hr; refine gf 100 (rv (vb (decide (a0.Req = j9)))) kt (gf 100 (rv (vb (decide (a0.Req = j9)))) kt (gf 100 (rv (vb (decide (a0.Req = j9)))) kt (pf (rv (vb (decide (a0.Req = j9)))) kt (rv (vb false)) (asg (rv (vb false)) (nn (W_ret (block_r (then_r ?_)))))))); obtain rfl := Option.some.inj hr; exact done1 (Or.inl rfl) Try.results72 rfl ⟨_, _, rfl, rfl, k4, Vbool⟩
           ·have hr := ite_f kq hr; refine gf 94 (rv (vb (decide (a0.Tag = (-1))))) kq (gf 94 (rv (vb (decide (a0.Tag = (-1))))) kq (gf 94 (rv (vb (decide (a0.Tag = (-1))))) kq (gf 94 (rv (vb (decide (a0.Tag = (-1))))) kq (pf (rv (vb (decide (a0.Tag = (-1))))) kq (rv (vb false)) (mv (rv (vb false)) (gf 100 (rv (vb false)) rfl (gf 100 (rv (vb false)) rfl (gf 100 (rv (vb false)) rfl (pf (rv (vb false)) rfl (rv (vb false)) (asg (rv (vb false)) (nn (W_ret (block_r ?_))))))))))))); refine then_r ?_; obtain rfl := Option.some.inj hr; exact done1 (Or.inl rfl) Try.results72 rfl ⟨_, _, rfl, rfl, k4, Vbool⟩
         ·have hr := ite_f km hr; refine gf 86 (rv (vb (decide (a0.Peer = (-1))))) km (gf 86 (rv (vb (decide (a0.Peer = (-1))))) km (L_gu (e := 88) (by rfl) (rv (undef)) (by decide) (L_gu (e := 88) (by rfl) (rv (undef)) (by decide) (L_gu (e := 88) (by rfl) (rv (undef)) (by decide) (gf 86 (rv (vb (decide (a0.Peer = (-1))))) km (pf (rv (vb (decide (a0.Peer = (-1))))) km (rv (vb false)) (mv (rv (vb false)) (gf 94 (rv (vb false)) rfl (gf 94 (rv (vb false)) rfl (gf 94 (rv (vb false)) rfl (gf 94 (rv (vb false)) rfl (pf (rv (vb false)) rfl (rv (vb false)) (mv (rv (vb false)) ?_))))))))))))); refine gf 100 (rv (vb false)) rfl (gf 100 (rv (vb false)) rfl (gf 100 (rv (vb false)) rfl (pf (rv (vb false)) rfl (rv (vb false)) (asg (rv (vb false)) (nn (W_ret (block_r (then_r ?_)))))))); obtain rfl := Option.some.inj hr; exact done1 (Or.inl rfl) Try.results72 rfl ⟨_, _, rfl, rfl, k4, Vbool⟩
       ·have hr := ite_f kg hr
        refine sr (el (rv (vi (a0.Kind))) (rv (vi 5)) (asg (rv (vb (decide (a0.Kind = 5)))) (nn ?_)))
        refine W_cond _ (rv (vb (decide (a0.Kind = 5)))) (fun kh => ?_) (fun kh => ?_)
        ·have hr := ite_t kh hr
         refine W_seq (sr (asg (rv (vi 0)) (nn ?_)))
         obtain ⟨ki, kj, kk⟩ := bind_some hr
         refine W_cut (fun f w => ∃ (s : St), s.w = w ∧ Ext s0 s ∧ Le k3 s ∧ Sum.inl () = ki ∧ f 3 = j2 ∧ f 7 = vi (j9)) ?_ ?_
         ·refine W_block (W_loop (fun m f w => ∃ (s : St) (kl : Int), s.w = w ∧ Ext s0 s ∧ Le k3 s ∧ ref08_formed_l2 N a0 a1 m kl = some ki ∧ f 12 = vi kl ∧ f 1 = w1 ∧ f 3 = j2 ∧ f 7 = vi (j9)) N ⟨k3, 0, rfl, k4, (Le.refl _), kj, rfl, k7, k8, k9⟩ ?_)
          rintro km kn ko ⟨kp, kl, rfl, kq, kr, hr, ks, kt, ku, kv⟩
          cases km with
          | zero => exact absurd hr (by simp [ref08_formed_l2])
          | succ km =>
           rw [ref08_formed_l2.eq_2] at hr
           refine W_seq (sr (mv ks (mv kt (ln Try.underlying65 (rv w1) (h1.mono (j3.le.trans (je.trans (jr.trans (k5.trans kr))))) (ls (rv (vi kl)) (rv (vi ((a1.length : Int)))) (nn ?_))))))
           refine W_cond _ (rv (vb (decide (kl < (a1.length : Int))))) (fun kw => ?_) (fun kw => ?_)
           ·have hr := ite_t kw hr
            refine W_skip (then_n (W_seq (W_block ?_)))
            obtain ⟨kx, ky, kz⟩ := bind_some hr
            refine W_seq_cut (fun f w => ∃ (s : St) (g0 : Bool), s.w = w ∧ Ext s0 s ∧ Le kp s ∧ g0 = kx ∧ f 128 = vb g0 ∧ f 1 = w1 ∧ f 3 = j2 ∧ f 7 = vi (j9) ∧ f 12 = vi (kl)) ?_ ?_
            ·have hr := ky
             obtain ⟨g1, g2, hr⟩ := bind_some hr
             rcases tf (decide (g1.Kind = 5)) with g3 | g3
             ·have hr := ite_t g3 hr
              obtain ⟨g4, g5, hr⟩ := bind_some hr
              refine W_draws mixed (by kernel_rfl) [PV.data (a1 : List Deed), PV.eq (vi kl), PV.ptr (g1 : Deed), PV.ptr (g1.Kind : Int), PV.eq (vi (g1.Kind)), PV.eq (vb (decide (g1.Kind = 5))), PV.eq (vb (decide (g1.Kind = 5))), PV.data (a1 : List Deed), PV.eq (vi kl), PV.ptr (g4 : Deed), PV.ptr (g4.Req : Int), PV.eq (vi (g4.Req)), PV.ptr (a0.Req : Int), PV.eq (vi (a0.Req)), PV.eq (vb (decide (g4.Req = a0.Req))), PV.eq (vb (decide (g4.Req = a0.Req)))] (Steps_cons ?_ (Steps_cons ?_ (Steps_cons ?_ (Steps_cons ?_ (Steps_cons ?_ (Steps_cons ?_ (Steps_cons ?_ (Steps_cons ?_ (Steps_cons ?_ (Steps_cons ?_ (Steps_cons ?_ (Steps_cons ?_ (Steps_cons ?_ (Steps_cons ?_ (Steps_cons ?_ (Steps_cons ?_ Steps_nil)))))))))))))))) ?_
              ·intro g6 g7 g8 g9 ga Q gb; have gc : g6 1 = w1 := (ga 1 (by kernel_rfl)).trans kt; exact mv gc (fin gb (h1.mono (j3.le.trans (je.trans (jr.trans (k5.trans (kr.trans g8.le)))))))
              ·intro g6 g7 g8 g9 ga Q gb; have gc : g6 12 = vi (kl) := (ga 12 (by kernel_rfl)).trans ks; exact mv gc (fin gb rfl)
              ·intro g6 g7 g8 g9 ga Q gb; have gc : V _ (g6 113) (a1 : List Deed) := g9 0 113 (by kernel_rfl) (by kernel_rfl); obtain ⟨gd, gg, gh⟩ : ∃ v, _ = v ∧ V _ v _ := ⟨_, rfl, gc⟩; have gi : g6 114 = vi (kl) := g9 1 114 (by kernel_rfl) (by kernel_rfl); exact ix Try.underlying65 ty74.inf gg gh gi g2 (fun gj gk => fin gb gk)
              ·intro g6 g7 g8 g9 ga Q gb; have gc : Ptr _ (g6 115) (g1 : Deed) := g9 2 115 (by kernel_rfl) (by kernel_rfl); obtain ⟨gd, gg, gh⟩ : ∃ v, _ = v ∧ Ptr _ v _ := ⟨_, rfl, gc⟩; exact fa fld74_0 Deed.of_Kind gg gh (fun gi gj => fin gb gj)
              ·intro g6 g7 g8 g9 ga Q gb; have gc : Ptr _ (g6 116) (g1.Kind : Int) := g9 3 116 (by kernel_rfl) (by kernel_rfl); obtain ⟨gd, gg, gh⟩ : ∃ v, _ = v ∧ Ptr _ v _ := ⟨_, rfl, gc⟩; exact li ty3 gg gh (fin gb rfl)
              ·intro g6 g7 g8 g9 ga Q gb; have gc : g6 117 = vi (g1.Kind) := g9 4 117 (by kernel_rfl) (by kernel_rfl); exact el gc (rv (vi 5)) (fin gb rfl)
              ·intro g6 g7 g8 g9 ga Q gb; have gc : g6 118 = vb (decide (g1.Kind = 5)) := g9 5 118 (by kernel_rfl) (by kernel_rfl); exact mv gc (fin gb rfl)
              ·intro g6 g7 g8 g9 ga Q gb; have gc : g6 1 = w1 := (ga 1 (by kernel_rfl)).trans kt; have gd : g6 119 = vb (decide (g1.Kind = 5)) := g9 6 119 (by kernel_rfl) (by kernel_rfl); exact gt 119 gd g3 (mv gc (fin gb (h1.mono (j3.le.trans (je.trans (jr.trans (k5.trans (kr.trans g8.le))))))))
              ·intro g6 g7 g8 g9 ga Q gb; have gc : g6 12 = vi (kl) := (ga 12 (by kernel_rfl)).trans ks; have gd : g6 119 = vb (decide (g1.Kind = 5)) := g9 6 119 (by kernel_rfl) (by kernel_rfl); exact gt 119 gd g3 (mv gc (fin gb rfl))
              ·intro g6 g7 g8 g9 ga Q gb; have gc : g6 119 = vb (decide (g1.Kind = 5)) := g9 6 119 (by kernel_rfl) (by kernel_rfl); have gd : V _ (g6 120) (a1 : List Deed) := g9 7 120 (by kernel_rfl) (by kernel_rfl); obtain ⟨gg, gh, gi⟩ : ∃ v, _ = v ∧ V _ v _ := ⟨_, rfl, gd⟩; have gj : g6 121 = vi (kl) := g9 8 121 (by kernel_rfl) (by kernel_rfl); exact gt 119 gc g3 (ix Try.underlying65 ty74.inf gh gi gj g5 (fun gk gl => fin gb gl))
              ·intro g6 g7 g8 g9 ga Q gb; have gc : g6 119 = vb (decide (g1.Kind = 5)) := g9 6 119 (by kernel_rfl) (by kernel_rfl); have gd : Ptr _ (g6 122) (g4 : Deed) := g9 9 122 (by kernel_rfl) (by kernel_rfl); obtain ⟨gg, gh, gi⟩ : ∃ v, _ = v ∧ Ptr _ v _ := ⟨_, rfl, gd⟩; exact gt 119 gc g3 (fa fld74_3 Deed.of_Req gh gi (fun gj gk => fin gb gk))
              ·intro g6 g7 g8 g9 ga Q gb; have gc : g6 119 = vb (decide (g1.Kind = 5)) := g9 6 119 (by kernel_rfl) (by kernel_rfl); have gd : Ptr _ (g6 123) (g4.Req : Int) := g9 10 123 (by kernel_rfl) (by kernel_rfl); obtain ⟨gg, gh, gi⟩ : ∃ v, _ = v ∧ Ptr _ v _ := ⟨_, rfl, gd⟩; exact gt 119 gc g3 (li ty3 gh gi (fin gb rfl))
              ·intro g6 g7 g8 g9 ga Q gb; have gc : g6 3 = j2 := (ga 3 (by kernel_rfl)).trans ku; have gd : g6 119 = vb (decide (g1.Kind = 5)) := g9 6 119 (by kernel_rfl) (by kernel_rfl); exact gt 119 gd g3 (fa fld74_3 Deed.of_Req gc (j4.mono (je.trans (jr.trans (k5.trans (kr.trans g8.le))))) (fun gg gh => fin gb gh))
              ·intro g6 g7 g8 g9 ga Q gb; have gc : g6 119 = vb (decide (g1.Kind = 5)) := g9 6 119 (by kernel_rfl) (by kernel_rfl); have gd : Ptr _ (g6 125) (a0.Req : Int) := g9 12 125 (by kernel_rfl) (by kernel_rfl); obtain ⟨gg, gh, gi⟩ : ∃ v, _ = v ∧ Ptr _ v _ := ⟨_, rfl, gd⟩; exact gt 119 gc g3 (li ty3 gh gi (fin gb rfl))
              ·intro g6 g7 g8 g9 ga Q gb; have gc : g6 119 = vb (decide (g1.Kind = 5)) := g9 6 119 (by kernel_rfl) (by kernel_rfl); have gd : g6 124 = vi (g4.Req) := g9 11 124 (by kernel_rfl) (by kernel_rfl); have gg : g6 126 = vi (a0.Req) := g9 13 126 (by kernel_rfl) (by kernel_rfl); exact gt 119 gc g3 (el gd gg (fin gb rfl))
              ·intro g6 g7 g8 g9 ga Q gb; have gc : g6 119 = vb (decide (g1.Kind = 5)) := g9 6 119 (by kernel_rfl) (by kernel_rfl); have gd : g6 127 = vb (decide (g4.Req = a0.Req)) := g9 14 127 (by kernel_rfl) (by kernel_rfl); exact pt gc g3 gd (fin gb rfl)
              ·intro g6 g7 g8 g9 ga; have gb := Tch.ext kq g8; have gc : g6 1 = w1 := (ga 1 (by kernel_rfl)).trans kt; have gd : g6 3 = j2 := (ga 3 (by kernel_rfl)).trans ku; have gg : g6 7 = vi (j9) := (ga 7 (by kernel_rfl)).trans kv; have gh : g6 12 = vi (kl) := (ga 12 (by kernel_rfl)).trans ks; have gi : g6 128 = vb (decide (g4.Req = a0.Req)) := g9 15 128 (by kernel_rfl); exact then_n ⟨g7, (decide (g4.Req = a0.Req)), rfl, gb, g8.le, Option.some.inj hr, gi, gc, gd, gg, gh⟩
             ·have hr := ite_f g3 hr
              refine W_draws mixed (by kernel_rfl) [PV.data (a1 : List Deed), PV.eq (vi kl), PV.ptr (g1 : Deed), PV.ptr (g1.Kind : Int), PV.eq (vi (g1.Kind)), PV.eq (vb (decide (g1.Kind = 5))), PV.eq (vb (decide (g1.Kind = 5))), PV.eq (undef), PV.eq (undef), PV.eq (undef), PV.eq (undef), PV.eq (undef), PV.eq (undef), PV.eq (undef), PV.eq (undef), PV.eq (vb false)] (Steps_cons ?_ (Steps_cons ?_ (Steps_cons ?_ (Steps_cons ?_ (Steps_cons ?_ (Steps_cons ?_ (Steps_cons ?_ (Steps_cons ?_ (Steps_cons ?_ (Steps_cons ?_ (Steps_cons ?_ (Steps_cons ?_ (Steps_cons ?_ (Steps_cons ?_ (Steps_cons ?_ (Steps_cons ?_ Steps_nil)))))))))))))))) ?_
              ·intro g4 g5 g6 g7 g8 Q g9; have ga : g4 1 = w1 := (g8 1 (by kernel_rfl)).trans kt; exact mv ga (fin g9 (h1.mono (j3.le.trans (je.trans (jr.trans (k5.trans (kr.trans g6.le)))))))
              ·intro g4 g5 g6 g7 g8 Q g9; have ga : g4 12 = vi (kl) := (g8 12 (by kernel_rfl)).trans ks; exact mv ga (fin g9 rfl)
              ·intro g4 g5 g6 g7 g8 Q g9; have ga : V _ (g4 113) (a1 : List Deed) := g7 0 113 (by kernel_rfl) (by kernel_rfl); obtain ⟨gb, gc, gd⟩ : ∃ v, _ = v ∧ V _ v _ := ⟨_, rfl, ga⟩; have gg : g4 114 = vi (kl) := g7 1 114 (by kernel_rfl) (by kernel_rfl); exact ix Try.underlying65 ty74.inf gc gd gg g2 (fun gh gi => fin g9 gi)
              ·intro g4 g5 g6 g7 g8 Q g9; have ga : Ptr _ (g4 115) (g1 : Deed) := g7 2 115 (by kernel_rfl) (by kernel_rfl); obtain ⟨gb, gc, gd⟩ : ∃ v, _ = v ∧ Ptr _ v _ := ⟨_, rfl, ga⟩; exact fa fld74_0 Deed.of_Kind gc gd (fun gg gh => fin g9 gh)
              ·intro g4 g5 g6 g7 g8 Q g9; have ga : Ptr _ (g4 116) (g1.Kind : Int) := g7 3 116 (by kernel_rfl) (by kernel_rfl); obtain ⟨gb, gc, gd⟩ : ∃ v, _ = v ∧ Ptr _ v _ := ⟨_, rfl, ga⟩; exact li ty3 gc gd (fin g9 rfl)
              ·intro g4 g5 g6 g7 g8 Q g9; have ga : g4 117 = vi (g1.Kind) := g7 4 117 (by kernel_rfl) (by kernel_rfl); exact el ga (rv (vi 5)) (fin g9 rfl)
              ·intro g4 g5 g6 g7 g8 Q g9; have ga : g4 118 = vb (decide (g1.Kind = 5)) := g7 5 118 (by kernel_rfl) (by kernel_rfl); exact mv ga (fin g9 rfl)
              ·intro g4 g5 g6 g7 g8 Q g9; have ga : g4 119 = vb (decide (g1.Kind = 5)) := g7 6 119 (by kernel_rfl) (by kernel_rfl); exact gf 119 ga g3 (fin g9 rfl)
              ·intro g4 g5 g6 g7 g8 Q g9; have ga : g4 119 = vb (decide (g1.Kind = 5)) := g7 6 119 (by kernel_rfl) (by kernel_rfl); exact gf 119 ga g3 (fin g9 rfl)
              ·intro g4 g5 g6 g7 g8 Q g9; have ga : g4 119 = vb (decide (g1.Kind = 5)) := g7 6 119 (by kernel_rfl) (by kernel_rfl); exact gf 119 ga g3 (fin g9 rfl)
              ·intro g4 g5 g6 g7 g8 Q g9; have ga : g4 119 = vb (decide (g1.Kind = 5)) := g7 6 119 (by kernel_rfl) (by kernel_rfl); exact gf 119 ga g3 (fin g9 rfl)
              ·intro g4 g5 g6 g7 g8 Q g9; have ga : g4 119 = vb (decide (g1.Kind = 5)) := g7 6 119 (by kernel_rfl) (by kernel_rfl); exact gf 119 ga g3 (fin g9 rfl)
              ·intro g4 g5 g6 g7 g8 Q g9; have ga : g4 119 = vb (decide (g1.Kind = 5)) := g7 6 119 (by kernel_rfl) (by kernel_rfl); exact gf 119 ga g3 (fin g9 rfl)
              ·intro g4 g5 g6 g7 g8 Q g9; have ga : g4 119 = vb (decide (g1.Kind = 5)) := g7 6 119 (by kernel_rfl) (by kernel_rfl); exact gf 119 ga g3 (fin g9 rfl)
              ·intro g4 g5 g6 g7 g8 Q g9; have ga : g4 119 = vb (decide (g1.Kind = 5)) := g7 6 119 (by kernel_rfl) (by kernel_rfl); exact gf 119 ga g3 (fin g9 rfl)
              ·intro g4 g5 g6 g7 g8 Q g9; have ga : g4 119 = vb (decide (g1.Kind = 5)) := g7 6 119 (by kernel_rfl) (by kernel_rfl); exact pf ga g3 (rv (vb false)) (fin g9 rfl)
              ·intro g4 g5 g6 g7 g8; have g9 := Tch.ext kq g6; have ga : g4 1 = w1 := (g8 1 (by kernel_rfl)).trans kt; have gb : g4 3 = j2 := (g8 3 (by kernel_rfl)).trans ku; have gc : g4 7 = vi (j9) := (g8 7 (by kernel_rfl)).trans kv; have gd : g4 12 = vi (kl) := (g8 12 (by kernel_rfl)).trans ks; have gg : g4 128 = vb (false) := g7 15 128 (by kernel_rfl); exact then_n ⟨g5, false, rfl, g9, g6.le, Option.some.inj hr, gg, ga, gb, gc, gd⟩
            ·rintro g1 g2 ⟨g3, g0, rfl, g4, g5, ky, g6, g7, g8, g9, ga⟩
             subst ky
             have hr := kz
             try dsimp only at hr
             refine W_cond _ g6 (fun gb => ?_) (fun gb => ?_)
             ·have hr := ite_t gb hr; refine sr (asg (rv (vb false)) (nn (W_ret (block_r (then_r (then_r (block_r ?_))))))); obtain rfl := Option.some.inj hr; have hr := kk; (try dsimp only at hr); refine then_r (then_r (block_r (then_r ?_))); obtain rfl := Option.some.inj hr; exact done1 (Or.inl rfl) Try.results72 rfl ⟨_, _, rfl, rfl, g4, Vbool⟩
             ·have hr := ite_f gb hr; refine W_skip (block_n (then_n (W_region (mv ga ?_)))); obtain ⟨gc, hr⟩ := chk_some hr; exact ad (rv (vi kl)) (rv (vi 1)) gc (asg (rv (vi (kl + 1))) (nn ⟨km, Nat.lt_succ_self _, ⟨g3, (kl + 1), rfl, g4, (kr.trans g5), hr, rfl, g7, g8, g9⟩⟩))
           ·have hr := ite_f kw hr; refine W_exit (then_x (then_x (block_here ?_))); exact then_n ⟨kp, rfl, kq, kr, Option.some.inj hr, ku, kv⟩
         ·rintro kl km ⟨kn, rfl, ko, kp, kj, kq, kr⟩
          subst kj
          have hr := kk
          try dsimp only at hr
          refine then_n (sr (fa fld74_3 Deed.of_Req kq (j4.mono (je.trans (jr.trans (k5.trans kp)))) (fun ks kt => li ty3 (rv ks) kt (L_geq (rv (vi (a0.Req))) (rv (vi 0)) (by decide) (mv (rv (vb (decide (0 ≤ a0.Req)))) ?_)))))
          rcases tf (decide (0 ≤ a0.Req)) with ku | ku
          ·have hr := ite_t ku hr
           refine gt 132 (rv (vb (decide (0 ≤ a0.Req)))) ku (fa fld74_3 Deed.of_Req kq (j4.mono (je.trans (jr.trans (k5.trans kp)))) (fun kv kw => gt 132 (rv (vb (decide (0 ≤ a0.Req)))) ku (li ty3 (rv kv) kw (gt 132 (rv (vb (decide (0 ≤ a0.Req)))) ku (mv kr (gt 132 (rv (vb (decide (0 ≤ a0.Req)))) ku (ls (rv (vi (a0.Req))) (rv (vi j9)) (pt (rv (vb (decide (0 ≤ a0.Req)))) ku (rv (vb (decide (a0.Req < j9)))) (mv (rv (vb (decide (a0.Req < j9)))) ?_)))))))))
           rcases tf (decide (a0.Req < j9)) with kx | kx
           ·have hr := ite_t kx hr
            refine gt 138 (rv (vb (decide (a0.Req < j9)))) kx (fa fld74_1 Deed.of_Peer kq (j4.mono (je.trans (jr.trans (k5.trans kp)))) (fun ky kz => gt 138 (rv (vb (decide (a0.Req < j9)))) kx (li ty3 (rv ky) kz (gt 138 (rv (vb (decide (a0.Req < j9)))) kx (el (rv (vi (a0.Peer))) (rv (vi 0)) (pt (rv (vb (decide (a0.Req < j9)))) kx (rv (vb (decide (a0.Peer = 0)))) (mv (rv (vb (decide (a0.Peer = 0)))) ?_)))))))
            rcases tf (decide (a0.Peer = 0)) with g0 | g0
            ·have hr := ite_t g0 hr
             refine gt 143 (rv (vb (decide (a0.Peer = 0)))) g0 (fa fld74_2 Deed.of_Tag kq (j4.mono (je.trans (jr.trans (k5.trans kp)))) (fun g1 g2 => gt 143 (rv (vb (decide (a0.Peer = 0)))) g0 (li ty3 (rv g1) g2 (gt 143 (rv (vb (decide (a0.Peer = 0)))) g0 (el (rv (vi (a0.Tag))) (rv (vi 0)) (pt (rv (vb (decide (a0.Peer = 0)))) g0 (rv (vb (decide (a0.Tag = 0)))) (mv (rv (vb (decide (a0.Tag = 0)))) ?_)))))))
             rcases tf (decide (a0.Tag = 0)) with g3 | g3
             ·have hr := ite_t g3 hr; refine gt 148 (rv (vb (decide (a0.Tag = 0)))) g3 (fa fld74_4 Deed.of_Sync kq (j4.mono (je.trans (jr.trans (k5.trans kp)))) (fun g4 g5 => gt 148 (rv (vb (decide (a0.Tag = 0)))) g3 (L_load_bool ty4 (rv g4) g5 (by decide) (gt 148 (rv (vb (decide (a0.Tag = 0)))) g3 (L_not (rv (vb (a0.Sync))) (by decide) (pt (rv (vb (decide (a0.Tag = 0)))) g3 (rv (vb (!a0.Sync))) (asg (rv (vb (!a0.Sync))) (nn (W_ret (block_r (then_r ?_))))))))))); obtain rfl := Option.some.inj hr; exact done1 (Or.inl rfl) Try.results72 rfl ⟨_, _, rfl, rfl, ko, Vbool⟩
             ·have hr := ite_f g3 hr; refine gf 148 (rv (vb (decide (a0.Tag = 0)))) g3 (gf 148 (rv (vb (decide (a0.Tag = 0)))) g3 (gf 148 (rv (vb (decide (a0.Tag = 0)))) g3 (pf (rv (vb (decide (a0.Tag = 0)))) g3 (rv (vb false)) (asg (rv (vb false)) (nn (W_ret (block_r (then_r ?_)))))))); obtain rfl := Option.some.inj hr; exact done1 (Or.inl rfl) Try.results72 rfl ⟨_, _, rfl, rfl, ko, Vbool⟩
            ·have hr := ite_f g0 hr; refine gf 143 (rv (vb (decide (a0.Peer = 0)))) g0 (gf 143 (rv (vb (decide (a0.Peer = 0)))) g0 (gf 143 (rv (vb (decide (a0.Peer = 0)))) g0 (pf (rv (vb (decide (a0.Peer = 0)))) g0 (rv (vb false)) (mv (rv (vb false)) (gf 148 (rv (vb false)) rfl (gf 148 (rv (vb false)) rfl (gf 148 (rv (vb false)) rfl (pf (rv (vb false)) rfl (rv (vb false)) (asg (rv (vb false)) (nn (W_ret (block_r (then_r ?_))))))))))))); obtain rfl := Option.some.inj hr; exact done1 (Or.inl rfl) Try.results72 rfl ⟨_, _, rfl, rfl, ko, Vbool⟩
           ·have hr := ite_f kx hr; refine gf 138 (rv (vb (decide (a0.Req < j9)))) kx (gf 138 (rv (vb (decide (a0.Req < j9)))) kx (gf 138 (rv (vb (decide (a0.Req < j9)))) kx (pf (rv (vb (decide (a0.Req < j9)))) kx (rv (vb false)) (mv (rv (vb false)) (gf 143 (rv (vb false)) rfl (gf 143 (rv (vb false)) rfl (gf 143 (rv (vb false)) rfl (pf (rv (vb false)) rfl (rv (vb false)) (mv (rv (vb false)) (gf 148 (rv (vb false)) rfl (gf 148 (rv (vb false)) rfl (gf 148 (rv (vb false)) rfl (pf (rv (vb false)) rfl (rv (vb false)) ?_))))))))))))); refine asg (rv (vb false)) (nn (W_ret (block_r (then_r ?_)))); obtain rfl := Option.some.inj hr; exact done1 (Or.inl rfl) Try.results72 rfl ⟨_, _, rfl, rfl, ko, Vbool⟩
          ·have hr := ite_f ku hr; refine gf 132 (rv (vb (decide (0 ≤ a0.Req)))) ku (gf 132 (rv (vb (decide (0 ≤ a0.Req)))) ku (gf 132 (rv (vb (decide (0 ≤ a0.Req)))) ku (gf 132 (rv (vb (decide (0 ≤ a0.Req)))) ku (pf (rv (vb (decide (0 ≤ a0.Req)))) ku (rv (vb false)) (mv (rv (vb false)) (gf 138 (rv (vb false)) rfl (gf 138 (rv (vb false)) rfl (gf 138 (rv (vb false)) rfl (pf (rv (vb false)) rfl (rv (vb false)) (mv (rv (vb false)) (gf 143 (rv (vb false)) rfl (gf 143 (rv (vb false)) rfl (gf 143 (rv (vb false)) rfl ?_))))))))))))); refine pf (rv (vb false)) rfl (rv (vb false)) (mv (rv (vb false)) (gf 148 (rv (vb false)) rfl (gf 148 (rv (vb false)) rfl (gf 148 (rv (vb false)) rfl (pf (rv (vb false)) rfl (rv (vb false)) (asg (rv (vb false)) (nn (W_ret (block_r (then_r ?_)))))))))); obtain rfl := Option.some.inj hr; exact done1 (Or.inl rfl) Try.results72 rfl ⟨_, _, rfl, rfl, ko, Vbool⟩
        ·have hr := ite_f kh hr
         refine sr (el (rv (vi (a0.Kind))) (rv (vi 6)) (asg (rv (vb (decide (a0.Kind = 6)))) (nn ?_)))
         refine W_cond _ (rv (vb (decide (a0.Kind = 6)))) (fun ki => ?_) (fun ki => ?_)
         ·have hr := ite_t ki hr
          refine sr (fa fld74_1 Deed.of_Peer k8 (j4.mono (je.trans (jr.trans k5))) (fun kj kk => li ty3 (rv kj) kk (el (rv (vi (a0.Peer))) (rv (vi 0)) (mv (rv (vb (decide (a0.Peer = 0)))) ?_))))
          rcases tf (decide (a0.Peer = 0)) with kl | kl
          ·have hr := ite_t kl hr
           refine gt 158 (rv (vb (decide (a0.Peer = 0)))) kl (fa fld74_2 Deed.of_Tag k8 (j4.mono (je.trans (jr.trans k5))) (fun km kn => gt 158 (rv (vb (decide (a0.Peer = 0)))) kl (li ty3 (rv km) kn (gt 158 (rv (vb (decide (a0.Peer = 0)))) kl (el (rv (vi (a0.Tag))) (rv (vi 0)) (pt (rv (vb (decide (a0.Peer = 0)))) kl (rv (vb (decide (a0.Tag = 0)))) (mv (rv (vb (decide (a0.Tag = 0)))) ?_)))))))
           rcases tf (decide (a0.Tag = 0)) with ko | ko
           ·have hr := ite_t ko hr
            refine gt 163 (rv (vb (decide (a0.Tag = 0)))) ko (fa fld74_3 Deed.of_Req k8 (j4.mono (je.trans (jr.trans k5))) (fun kp kq => gt 163 (rv (vb (decide (a0.Tag = 0)))) ko (li ty3 (rv kp) kq (gt 163 (rv (vb (decide (a0.Tag = 0)))) ko (el (rv (vi (a0.Req))) (rv (vi 0)) (pt (rv (vb (decide (a0.Tag = 0)))) ko (rv (vb (decide (a0.Req = 0)))) (mv (rv (vb (decide (a0.Req = 0)))) ?_)))))))
            rcases tf (decide (a0.Req = 0)) with kr | kr
            ·have hr := ite_t kr hr; refine gt 168 (rv (vb (decide (a0.Req = 0)))) kr (fa fld74_4 Deed.of_Sync k8 (j4.mono (je.trans (jr.trans k5))) (fun ks kt => gt 168 (rv (vb (decide (a0.Req = 0)))) kr (L_load_bool ty4 (rv ks) kt (by decide) (gt 168 (rv (vb (decide (a0.Req = 0)))) kr (L_not (rv (vb (a0.Sync))) (by decide) (pt (rv (vb (decide (a0.Req = 0)))) kr (rv (vb (!a0.Sync))) (asg (rv (vb (!a0.Sync))) (nn (W_ret (block_r (then_r ?_))))))))))); obtain rfl := Option.some.inj hr; exact done1 (Or.inl rfl) Try.results72 rfl ⟨_, _, rfl, rfl, k4, Vbool⟩
            ·have hr := ite_f kr hr; refine gf 168 (rv (vb (decide (a0.Req = 0)))) kr (gf 168 (rv (vb (decide (a0.Req = 0)))) kr (gf 168 (rv (vb (decide (a0.Req = 0)))) kr (pf (rv (vb (decide (a0.Req = 0)))) kr (rv (vb false)) (asg (rv (vb false)) (nn (W_ret (block_r (then_r ?_)))))))); obtain rfl := Option.some.inj hr; exact done1 (Or.inl rfl) Try.results72 rfl ⟨_, _, rfl, rfl, k4, Vbool⟩
           ·have hr := ite_f ko hr; refine gf 163 (rv (vb (decide (a0.Tag = 0)))) ko (gf 163 (rv (vb (decide (a0.Tag = 0)))) ko (gf 163 (rv (vb (decide (a0.Tag = 0)))) ko (pf (rv (vb (decide (a0.Tag = 0)))) ko (rv (vb false)) (mv (rv (vb false)) (gf 168 (rv (vb false)) rfl (gf 168 (rv (vb false)) rfl (gf 168 (rv (vb false)) rfl (pf (rv (vb false)) rfl (rv (vb false)) (asg (rv (vb false)) (nn (W_ret (block_r (then_r ?_))))))))))))); obtain rfl := Option.some.inj hr; exact done1 (Or.inl rfl) Try.results72 rfl ⟨_, _, rfl, rfl, k4, Vbool⟩
          ·have hr := ite_f kl hr; refine gf 158 (rv (vb (decide (a0.Peer = 0)))) kl (gf 158 (rv (vb (decide (a0.Peer = 0)))) kl (gf 158 (rv (vb (decide (a0.Peer = 0)))) kl (pf (rv (vb (decide (a0.Peer = 0)))) kl (rv (vb false)) (mv (rv (vb false)) (gf 163 (rv (vb false)) rfl (gf 163 (rv (vb false)) rfl (gf 163 (rv (vb false)) rfl (pf (rv (vb false)) rfl (rv (vb false)) (mv (rv (vb false)) (gf 168 (rv (vb false)) rfl (gf 168 (rv (vb false)) rfl (gf 168 (rv (vb false)) rfl (pf (rv (vb false)) rfl (rv (vb false)) ?_))))))))))))); refine asg (rv (vb false)) (nn (W_ret (block_r (then_r ?_)))); obtain rfl := Option.some.inj hr; exact done1 (Or.inl rfl) Try.results72 rfl ⟨_, _, rfl, rfl, k4, Vbool⟩
         ·have hr := ite_f ki hr; refine W_skip (block_n (then_n (sr (asg (rv (vb false)) (nn (W_ret ?_)))))); obtain rfl := Option.some.inj hr; exact done1 (Or.inl rfl) Try.results72 rfl ⟨_, _, rfl, rfl, k4, Vbool⟩

theorem ref08_Check_ok (N : Nat) (s0 : St) (w0 : Value) (a0 : List (List Deed)) (h0 : V s0 w0 a0) (r : Int) (hr : ref08_Check N a0 = some r) :
    Calls Try.prog 42 #[w0] s0.w (Ret s0 fun v s => V s v r) := by
 unfold ref08_Check at hr
 have j0 := Ext.refl s0
 refine Calls_of (n := 58) (args := [w0]) Try.func42 rfl rfl (by simp) (sr (asg (rv (vi 0)) (nn (W_seq ?_))))
 obtain ⟨j1, j2, j3⟩ := bind_some hr
 refine W_seq_cut (fun f w => ∃ (s : St) (j4 : Bool), s.w = w ∧ Ext s0 s ∧ Le s0 s ∧ j4 = j1 ∧ f 13 = vb j4 ∧ f 0 = w0) ?_ ?_
 ·have hr := j2
  refine W_region (mv (rv w0) (ln Try.underlying22 (rv w0) h0 (ls (rv (vi ((a0.length : Int)))) (rv (vi 1)) (mv (rv (vb (decide ((a0.length : Int) < 1)))) ?_))))
  rcases tf (decide ((a0.length : Int) < 1)) with j5 | j5
  ·have hr := ite_t j5 hr; exact gf 9 (rv (vb (decide ((a0.length : Int) < 1)))) j5 (gf 9 (rv (vb (decide ((a0.length : Int) < 1)))) j5 (gf 9 (rv (vb (decide ((a0.length : Int) < 1)))) j5 (pt (rv (vb (decide ((a0.length : Int) < 1)))) j5 (rv (vb true)) (nn ⟨s0, true, rfl, j0, (Le.refl _), Option.some.inj hr, rfl, rfl⟩))))
  ·have hr := ite_f j5 hr; exact gt 9 (rv (vb (decide ((a0.length : Int) < 1)))) j5 (mv (rv w0) (gt 9 (rv (vb (decide ((a0.length : Int) < 1)))) j5 (ln Try.underlying22 (rv w0) h0 (gt 9 (rv (vb (decide ((a0.length : Int) < 1)))) j5 (L_gtr (rv (vi ((a0.length : Int)))) (rv (vi 64)) (by decide) (pf (rv (vb (decide ((a0.length : Int) < 1)))) j5 (rv (vb (decide (64 < (a0.length : Int))))) (nn ⟨s0, (decide (64 < (a0.length : Int))), rfl, j0, (Le.refl _), Option.some.inj hr, rfl, rfl⟩)))))))
 ·rintro j5 j6 ⟨j7, j4, rfl, j8, j9, j2, ja, jb⟩
  subst j2
  have hr := j3
  try dsimp only at hr
  refine W_cond _ ja (fun jc => ?_) (fun jc => ?_)
  ·have hr := ite_t jc hr; refine sr (asg (rv (vi 3)) (nn (W_ret (then_r ?_)))); obtain rfl := Option.some.inj hr; exact done1 (Or.inl rfl) Try.results42 rfl ⟨_, _, rfl, rfl, j8, Vint⟩
  ·have hr := ite_f jc hr
   refine W_skip (then_n (W_seq (sr (asg (rv (vi 0)) (nn ?_)))))
   obtain ⟨jd, je, jf⟩ := bind_some hr
   refine W_cut (fun f w => ∃ (s : St), s.w = w ∧ Ext s0 s ∧ Le j7 s ∧ Sum.inl () = jd ∧ f 0 = w0) ?_ ?_
   ·refine W_block (W_loop (fun m f w => ∃ (s : St) (jg : Int), s.w = w ∧ Ext s0 s ∧ Le j7 s ∧ ref08_Check_l1 N a0 m jg = some jd ∧ f 3 = vi jg ∧ f 0 = w0) N ⟨j7, 0, rfl, j8, (Le.refl _), je, rfl, jb⟩ ?_)
    rintro jh ji jj ⟨jk, jg, rfl, jl, jm, hr, jn, jo⟩
    cases jh with
    | zero => exact absurd hr (by simp [ref08_Check_l1])
    | succ jh =>
     rw [ref08_Check_l1.eq_2] at hr
     refine W_seq (sr (mv jn (mv jo (ln Try.underlying22 (rv w0) (h0.mono (j9.trans jm)) (ls (rv (vi jg)) (rv (vi ((a0.length : Int)))) (nn ?_))))))
     refine W_cond _ (rv (vb (decide (jg < (a0.length : Int))))) (fun jp => ?_) (fun jp => ?_)
     ·have hr := ite_t jp hr
      refine W_skip (then_n (W_seq (W_block (sr (mv jo (mv jn ?_))))))
      obtain ⟨jq, jr, hr⟩ := bind_some hr
      refine ix Try.underlying22 ty65.inf (rv w0) (h0.mono (j9.trans jm)) (rv (vi jg)) jr (fun js jt => ld ty65 (rv js) jt (fun ju jv => ln Try.underlying65 (rv ju) jv (L_gtr (rv (vi ((jq.length : Int)))) (rv (vi 200)) (by decide) (nn ?_))))
      refine W_cond _ (rv (vb (decide (200 < (jq.length : Int))))) (fun jw => ?_) (fun jw => ?_)
      ·have hr := ite_t jw hr; refine sr (asg (rv (vi 9)) (nn (W_ret (block_r (then_r (then_r (block_r ?_))))))); obtain rfl := Option.some.inj hr; have hr := jf; (try dsimp only at hr); refine then_r (then_r ?_); obtain rfl := Option.some.inj hr; exact done1 (Or.inl rfl) Try.results42 rfl ⟨_, _, rfl, rfl, jl, Vint⟩
      ·have hr := ite_f jw hr; refine W_skip (block_n (then_n (W_region (mv jn ?_)))); obtain ⟨jx, hr⟩ := chk_some hr; exact ad (rv (vi jg)) (rv (vi 1)) jx (asg (rv (vi (jg + 1))) (nn ⟨jh, Nat.lt_succ_self _, ⟨jk, (jg + 1), rfl, jl, jm, hr, rfl, jo⟩⟩))
     ·have hr := ite_f jp hr; refine W_exit (then_x (then_x (block_here ?_))); exact then_n ⟨jk, rfl, jl, jm, Option.some.inj hr, jo⟩
   ·rintro jg jh ⟨ji, rfl, jj, jk, je, jl⟩
    subst je
    have hr := jf
    try dsimp only at hr
    refine then_n (W_seq (sr (asg (rv (vi 0)) (nn ?_))))
    obtain ⟨jm, jn, jo⟩ := bind_some hr
    refine W_cut (fun f w => ∃ (s : St), s.w = w ∧ Ext s0 s ∧ Le ji s ∧ Sum.inl () = jm) ?_ ?_
    ·refine W_block (W_loop (fun m f w => ∃ (s : St) (jp : Int), s.w = w ∧ Ext s0 s ∧ Le ji s ∧ ref08_Check_l2 N a0 m jp = some jm ∧ f 4 = vi jp ∧ f 0 = w0) N ⟨ji, 0, rfl, jj, (Le.refl _), jn, rfl, jl⟩ ?_)
     rintro jq jr js ⟨jt, jp, rfl, ju, jv, hr, jw, jx⟩
     cases jq with
     | zero => exact absurd hr (by simp [ref08_Check_l2])
     | succ jq =>
      rw [ref08_Check_l2.eq_2] at hr
      refine W_seq (sr (mv jw (mv jx (ln Try.underlying22 (rv w0) (h0.mono (j9.trans (jk.trans jv))) (ls (rv (vi jp)) (rv (vi ((a0.length : Int)))) (nn ?_))))))
      refine W_cond _ (rv (vb (decide (jp < (a0.length : Int))))) (fun jy => ?_) (fun jy => ?_)
      ·have hr := ite_t jy hr
       refine W_skip (then_n (W_seq (W_block (sr (asg (rv (vi 0)) (nn ?_))))))
       obtain ⟨jz, k0, k1⟩ := bind_some hr
       refine W_cut (fun f w => ∃ (s : St), s.w = w ∧ Ext s0 s ∧ Le jt s ∧ Sum.inl () = jz ∧ f 0 = w0 ∧ f 4 = vi (jp)) ?_ ?_
       ·refine W_block (W_loop (fun m f w => ∃ (s : St) (k2 : Int), s.w = w ∧ Ext s0 s ∧ Le jt s ∧ ref08_Check_l3 N a0 jp m k2 = some jz ∧ f 5 = vi k2 ∧ f 0 = w0 ∧ f 4 = vi (jp)) N ⟨jt, 0, rfl, ju, (Le.refl _), k0, rfl, jx, jw⟩ ?_)
        rintro k3 k4 k5 ⟨k6, k2, rfl, k7, k8, hr, k9, ka, kb⟩
        cases k3 with
        | zero => exact absurd hr (by simp [ref08_Check_l3])
        | succ k3 =>
         rw [ref08_Check_l3.eq_2] at hr
         refine W_seq (sr (mv k9 (mv ka (mv kb ?_))))
         obtain ⟨kc, kd, hr⟩ := bind_some hr
         refine ix Try.underlying22 ty65.inf (rv w0) (h0.mono (j9.trans (jk.trans (jv.trans k8)))) (rv (vi jp)) kd (fun ke kf => ld ty65 (rv ke) kf (fun kg kh => ln Try.underlying65 (rv kg) kh (ls (rv (vi k2)) (rv (vi ((kc.length : Int)))) (nn ?_))))
         refine W_cond _ (rv (vb (decide (k2 < (kc.length : Int))))) (fun ki => ?_) (fun ki => ?_)
         ·have hr := ite_t ki hr
          refine W_skip (then_n (W_seq (W_block (W_seq ?_))))
          obtain ⟨kj, kk, hr⟩ := bind_some hr
          obtain ⟨kl, km, hr⟩ := bind_some hr
          obtain ⟨kn, ko, hr⟩ := bind_some hr
          obtain ⟨kp, kq, hr⟩ := bind_some hr
          obtain ⟨kr, ks, hr⟩ := bind_some hr
          refine W_draws mixed (by kernel_rfl) [PV.data (a0 : List (List Deed)), PV.eq (vi jp), PV.ptr (kj : List Deed), PV.data (kj : List Deed), PV.eq (vi k2), PV.ptr (kl : Deed), PV.data (kl : Deed), PV.data (a0 : List (List Deed)), PV.eq (vi jp), PV.ptr (kn : List Deed), PV.data (kn : List Deed), PV.eq (vi k2), PV.data (kp : List Deed), PV.data (a0 : List (List Deed)), PV.eq (vi ((a0.length : Int))), PV.eq (vb kr), PV.eq (vb (!kr))] (Steps_cons ?_ (Steps_cons ?_ (Steps_cons ?_ (Steps_cons ?_ (Steps_cons ?_ (Steps_cons ?_ (Steps_cons ?_ (Steps_cons ?_ (Steps_cons ?_ (Steps_cons ?_ (Steps_cons ?_ (Steps_cons ?_ (Steps_cons ?_ (Steps_cons ?_ (Steps_cons ?_ (Steps_cons ?_ (Steps_cons ?_ Steps_nil))))))))))))))))) ?_
          ·intro kt ku kv kw kx Q ky; have kz : kt 0 = w0 := (kx 0 (by kernel_rfl)).trans ka; exact mv kz (fin ky (h0.mono (j9.trans (jk.trans (jv.trans (k8.trans kv.le))))))
          ·intro kt ku kv kw kx Q ky; have kz : kt 4 = vi (jp) := (kx 4 (by kernel_rfl)).trans kb; exact mv kz (fin ky rfl)
          ·intro kt ku kv kw kx Q ky; have kz : V _ (kt 41) (a0 : List (List Deed)) := kw 0 41 (by kernel_rfl) (by kernel_rfl); obtain ⟨g0, g1, g2⟩ : ∃ v, _ = v ∧ V _ v _ := ⟨_, rfl, kz⟩; have g3 : kt 42 = vi (jp) := kw 1 42 (by kernel_rfl) (by kernel_rfl); exact ix Try.underlying22 ty65.inf g1 g2 g3 kk (fun g4 g5 => fin ky g5)
          ·intro kt ku kv kw kx Q ky; have kz : Ptr _ (kt 43) (kj : List Deed) := kw 2 43 (by kernel_rfl) (by kernel_rfl); obtain ⟨g0, g1, g2⟩ : ∃ v, _ = v ∧ Ptr _ v _ := ⟨_, rfl, kz⟩; exact ld ty65 g1 g2 (fun g3 g4 => fin ky g4)
          ·intro kt ku kv kw kx Q ky; have kz : kt 5 = vi (k2) := (kx 5 (by kernel_rfl)).trans k9; exact mv kz (fin ky rfl)
          ·intro kt ku kv kw kx Q ky; have kz : V _ (kt 44) (kj : List Deed) := kw 3 44 (by kernel_rfl) (by kernel_rfl); obtain ⟨g0, g1, g2⟩ : ∃ v, _ = v ∧ V _ v _ := ⟨_, rfl, kz⟩; have g3 : kt 45 = vi (k2) := kw 4 45 (by kernel_rfl) (by kernel_rfl); exact ix Try.underlying65 ty74.inf g1 g2 g3 km (fun g4 g5 => fin ky g5)
          ·intro kt ku kv kw kx Q ky; have kz : Ptr _ (kt 46) (kl : Deed) := kw 5 46 (by kernel_rfl) (by kernel_rfl); obtain ⟨g0, g1, g2⟩ : ∃ v, _ = v ∧ Ptr _ v _ := ⟨_, rfl, kz⟩; exact ld ty74 g1 g2 (fun g3 g4 => fin ky g4)
          ·intro kt ku kv kw kx Q ky; have kz : kt 0 = w0 := (kx 0 (by kernel_rfl)).trans ka; exact mv kz (fin ky (h0.mono (j9.trans (jk.trans (jv.trans (k8.trans kv.le))))))
          ·intro kt ku kv kw kx Q ky; have kz : kt 4 = vi (jp) := (kx 4 (by kernel_rfl)).trans kb; exact mv kz (fin ky rfl)
          ·intro kt ku kv kw kx Q ky; have kz : V _ (kt 48) (a0 : List (List Deed)) := kw 7 48 (by kernel_rfl) (by kernel_rfl); obtain ⟨g0, g1, g2⟩ : ∃ v, _ = v ∧ V _ v _ := ⟨_, rfl, kz⟩; have g3 : kt 49 = vi (jp) := kw 8 49 (by kernel_rfl) (by kernel_rfl); exact ix Try.underlying22 ty65.inf g1 g2 g3 ko (fun g4 g5 => fin ky g5)
          ·intro kt ku kv kw kx Q ky; have kz : Ptr _ (kt 50) (kn : List Deed) := kw 9 50 (by kernel_rfl) (by kernel_rfl); obtain ⟨g0, g1, g2⟩ : ∃ v, _ = v ∧ Ptr _ v _ := ⟨_, rfl, kz⟩; exact ld ty65 g1 g2 (fun g3 g4 => fin ky g4)
          ·intro kt ku kv kw kx Q ky; have kz : kt 5 = vi (k2) := (kx 5 (by kernel_rfl)).trans k9; exact mv kz (fin ky rfl)
          ·intro kt ku kv kw kx Q ky; have kz : V _ (kt 51) (kn : List Deed) := kw 10 51 (by kernel_rfl) (by kernel_rfl); obtain ⟨g0, g1, g2⟩ : ∃ v, _ = v ∧ V _ v _ := ⟨_, rfl, kz⟩; have g3 : kt 52 = vi (k2) := kw 11 52 (by kernel_rfl) (by kernel_rfl); exact L_slice_h Try.underlying65 ty74.inf g1 g2 g3 kq (by decide) (fun g4 g5 => fin ky g5)
          ·intro kt ku kv kw kx Q ky; have kz : kt 0 = w0 := (kx 0 (by kernel_rfl)).trans ka; exact mv kz (fin ky (h0.mono (j9.trans (jk.trans (jv.trans (k8.trans kv.le))))))
          ·intro kt ku kv kw kx Q ky; have kz : V _ (kt 54) (a0 : List (List Deed)) := kw 13 54 (by kernel_rfl) (by kernel_rfl); obtain ⟨g0, g1, g2⟩ : ∃ v, _ = v ∧ V _ v _ := ⟨_, rfl, kz⟩; exact ln Try.underlying22 g1 g2 (fin ky rfl)
          ·intro kt ku kv kw kx Q ky; have kz : V _ (kt 47) (kl : Deed) := kw 6 47 (by kernel_rfl) (by kernel_rfl); obtain ⟨g0, g1, g2⟩ : ∃ v, _ = v ∧ V _ v _ := ⟨_, rfl, kz⟩; have g3 : V _ (kt 53) (kp : List Deed) := kw 12 53 (by kernel_rfl) (by kernel_rfl); obtain ⟨g4, g5, g6⟩ : ∃ v, _ = v ∧ V _ v _ := ⟨_, rfl, g3⟩; have g7 : kt 55 = vi ((a0.length : Int)) := kw 14 55 (by kernel_rfl) (by kernel_rfl); refine L_calls cal72 (args3 g1 g5 g7) (ref08_formed_ok N _ _ _ g2 _ _ g6 (a0.length : Int) kr ks) (by decide) (fun g8 g9 ga gb => ?_); have gc := Tch.ext (Ext.refl ku) ga; obtain rfl := gb.bool; exact L_nil (ky _ _ gc rfl)
          ·intro kt ku kv kw kx Q ky; have kz : kt 56 = vb (kr) := kw 15 56 (by kernel_rfl) (by kernel_rfl); exact L_not kz (by decide) (fin ky rfl)
          ·intro kt ku kv kw kx
           have ky := Tch.ext k7 kv
           have kz : kt 0 = w0 := (kx 0 (by kernel_rfl)).trans ka
           have g0 : kt 4 = vi (jp) := (kx 4 (by kernel_rfl)).trans kb
           have g1 : kt 5 = vi (k2) := (kx 5 (by kernel_rfl)).trans k9
           have g2 : kt 57 = vb (!kr) := kw 16 57 (by kernel_rfl)
           refine then_n ?_
           refine W_cond _ g2 (fun g3 => ?_) (fun g3 => ?_)
           ·have hr := ite_t g3 hr; refine sr (asg (rv (vi 2)) (nn (W_ret (block_r (then_r (then_r (block_r ?_))))))); obtain rfl := Option.some.inj hr; have hr := k1; (try dsimp only at hr); refine then_r (block_r (then_r (then_r (block_r ?_)))); obtain rfl := Option.some.inj hr; have hr := jo; (try dsimp only at hr); refine then_r (then_r ?_); obtain rfl := Option.some.inj hr; exact done1 (Or.inl rfl) Try.results42 rfl ⟨_, _, rfl, rfl, ky, Vint⟩
           ·have hr := ite_f g3 hr; refine W_skip (block_n (then_n (W_region (mv g1 ?_)))); obtain ⟨g4, hr⟩ := chk_some hr; exact ad (rv (vi k2)) (rv (vi 1)) g4 (asg (rv (vi (k2 + 1))) (nn ⟨k3, Nat.lt_succ_self _, ⟨ku, (k2 + 1), rfl, ky, (k8.trans kv.le), hr, rfl, kz, g0⟩⟩))
         ·have hr := ite_f ki hr; refine W_exit (then_x (then_x (block_here ?_))); exact then_n ⟨k6, rfl, k7, k8, Option.some.inj hr, ka, kb⟩
       ·rintro k2 k3 ⟨k4, rfl, k5, k6, k0, k7, k8⟩; subst k0; have hr := k1; (try dsimp only at hr); refine block_n (then_n (W_region (mv k8 ?_))); obtain ⟨k9, hr⟩ := chk_some hr; exact ad (rv (vi jp)) (rv (vi 1)) k9 (asg (rv (vi (jp + 1))) (nn ⟨jq, Nat.lt_succ_self _, ⟨k4, (jp + 1), rfl, k5, (jv.trans k6), hr, rfl, k7⟩⟩))
      ·have hr := ite_f jy hr; refine W_exit (then_x (then_x (block_here ?_))); exact then_n ⟨jt, rfl, ju, jv, Option.some.inj hr⟩
    ·rintro jp jq ⟨jr, rfl, js, jt, jn⟩; subst jn; have hr := jo; (try dsimp only at hr); refine then_n (sr (asg (rv (vi 0)) (nn (W_ret ?_)))); obtain rfl := Option.some.inj hr; exact done1 (Or.inl rfl) Try.results42 rfl ⟨_, _, rfl, rfl, js, Vint⟩

theorem ref08_receives_ok (N : Nat) (s0 : St) (w0 : Value) (a0 : Deed) (h0 : V s0 w0 a0) (r : Bool) (hr : ref08_receives N a0 = some r) :
    Calls Try.prog 43 #[w0] s0.w (Ret s0 fun v s => V s v r) := by
 unfold ref08_receives at hr
 have j0 := Ext.refl s0
 refine Calls_of (n := 11) (args := [w0]) Try.func43 rfl rfl (by simp) (sr (L_box (rv w0) h0 (by decide) (fun j1 j2 j3 j4 => ?_)))
 have j5 := Tch.ext j0 j3
 refine asg (rv (vb false)) (nn (sr (fa fld74_0 Deed.of_Kind (rv j2) j4 (fun j6 j7 => li ty3 (rv j6) j7 (el (rv (vi (a0.Kind))) (rv (vi 2)) (mv (rv (vb (decide (a0.Kind = 2)))) ?_))))))
 rcases tf (decide (a0.Kind = 2)) with j8 | j8
 ·have hr := ite_t j8 hr; refine gf 6 (rv (vb (decide (a0.Kind = 2)))) j8 (gf 6 (rv (vb (decide (a0.Kind = 2)))) j8 (gf 6 (rv (vb (decide (a0.Kind = 2)))) j8 (pt (rv (vb (decide (a0.Kind = 2)))) j8 (rv (vb true)) (asg (rv (vb true)) (nn (W_ret ?_)))))); obtain rfl := Option.some.inj hr; exact done1 (Or.inl rfl) Try.results43 rfl ⟨_, _, rfl, rfl, j5, Vbool⟩
 ·have hr := ite_f j8 hr; refine gt 6 (rv (vb (decide (a0.Kind = 2)))) j8 (fa fld74_0 Deed.of_Kind (rv j2) j4 (fun j9 ja => gt 6 (rv (vb (decide (a0.Kind = 2)))) j8 (li ty3 (rv j9) ja (gt 6 (rv (vb (decide (a0.Kind = 2)))) j8 (el (rv (vi (a0.Kind))) (rv (vi 4)) (pf (rv (vb (decide (a0.Kind = 2)))) j8 (rv (vb (decide (a0.Kind = 4)))) (asg (rv (vb (decide (a0.Kind = 4)))) (nn (W_ret ?_))))))))); obtain rfl := Option.some.inj hr; exact done1 (Or.inl rfl) Try.results43 rfl ⟨_, _, rfl, rfl, j5, Vbool⟩

theorem ref08_open_ok (N : Nat) (s0 : St) (w0 : Value) (a0 : List (List Deed)) (h0 : V s0 w0 a0) (r : Bool) (hr : ref08_open N a0 = some r) :
    Calls Try.prog 65 #[w0] s0.w (Ret s0 fun v s => V s v r) := by
 unfold ref08_open at hr
 have j0 := Ext.refl s0
 refine Calls_of (n := 39) (args := [w0]) Try.func65 rfl rfl (by simp) (sr (asg (rv (vb false)) (nn (W_seq (sr (asg (rv (vi 0)) (nn ?_)))))))
 obtain ⟨j1, j2, j3⟩ := bind_some hr
 refine W_cut (fun f w => ∃ (s : St), s.w = w ∧ Ext s0 s ∧ Le s0 s ∧ Sum.inl () = j1) ?_ ?_
 ·refine W_block (W_loop (fun m f w => ∃ (s : St) (j4 : Int), s.w = w ∧ Ext s0 s ∧ Le s0 s ∧ ref08_open_l1 N a0 m j4 = some j1 ∧ f 3 = vi j4 ∧ f 0 = w0) N ⟨s0, 0, rfl, j0, (Le.refl _), j2, rfl, rfl⟩ ?_)
  rintro j5 j6 j7 ⟨j8, j4, rfl, j9, ja, hr, jb, jc⟩
  cases j5 with
  | zero => exact absurd hr (by simp [ref08_open_l1])
  | succ j5 =>
   rw [ref08_open_l1.eq_2] at hr
   refine W_seq (sr (mv jb (mv jc (ln Try.underlying22 (rv w0) (h0.mono ja) (ls (rv (vi j4)) (rv (vi ((a0.length : Int)))) (nn ?_))))))
   refine W_cond _ (rv (vb (decide (j4 < (a0.length : Int))))) (fun jd => ?_) (fun jd => ?_)
   ·have hr := ite_t jd hr
    refine W_skip (then_n (W_seq (W_block (sr (asg (rv (vi 0)) (nn ?_))))))
    obtain ⟨je, jf, jg⟩ := bind_some hr
    refine W_cut (fun f w => ∃ (s : St), s.w = w ∧ Ext s0 s ∧ Le j8 s ∧ Sum.inl () = je ∧ f 0 = w0 ∧ f 3 = vi (j4)) ?_ ?_
    ·refine W_block (W_loop (fun m f w => ∃ (s : St) (jh : Int), s.w = w ∧ Ext s0 s ∧ Le j8 s ∧ ref08_open_l2 N a0 j4 m jh = some je ∧ f 4 = vi jh ∧ f 0 = w0 ∧ f 3 = vi (j4)) N ⟨j8, 0, rfl, j9, (Le.refl _), jf, rfl, jc, jb⟩ ?_)
     rintro ji jj jk ⟨jl, jh, rfl, jm, jn, hr, jo, jp, jq⟩
     cases ji with
     | zero => exact absurd hr (by simp [ref08_open_l2])
     | succ ji =>
      rw [ref08_open_l2.eq_2] at hr
      refine W_seq (sr (mv jo (mv jp (mv jq ?_))))
      obtain ⟨jr, js, hr⟩ := bind_some hr
      refine ix Try.underlying22 ty65.inf (rv w0) (h0.mono (ja.trans jn)) (rv (vi j4)) js (fun jt ju => ld ty65 (rv jt) ju (fun jv jw => ln Try.underlying65 (rv jv) jw (ls (rv (vi jh)) (rv (vi ((jr.length : Int)))) (nn ?_))))
      refine W_cond _ (rv (vb (decide (jh < (jr.length : Int))))) (fun jx => ?_) (fun jx => ?_)
      ·have hr := ite_t jx hr
       refine W_skip (then_n (W_seq (W_block ?_)))
       obtain ⟨jy, jz, k0⟩ := bind_some hr
       refine W_seq_cut (fun f w => ∃ (s : St) (k1 : Bool), s.w = w ∧ Ext s0 s ∧ Le jl s ∧ k1 = jy ∧ f 38 = vb k1 ∧ f 0 = w0 ∧ f 3 = vi (j4) ∧ f 4 = vi (jh)) ?_ ?_
       ·have hr := jz
        refine W_region (mv jp (mv jq ?_))
        obtain ⟨k2, k3, hr⟩ := bind_some hr
        refine ix Try.underlying22 ty65.inf (rv w0) (h0.mono (ja.trans jn)) (rv (vi j4)) k3 (fun k4 k5 => ld ty65 (rv k4) k5 (fun k6 k7 => mv jo ?_))
        obtain ⟨k8, k9, hr⟩ := bind_some hr
        refine ix Try.underlying65 ty74.inf (rv k6) k7 (rv (vi jh)) k9 (fun ka kb => ld ty74 (rv ka) kb (fun kc kd => ?_))
        obtain ⟨ke, kf, hr⟩ := bind_some hr
        refine L_calls cal43 (args1 (rv kc)) (ref08_receives_ok N _ _ _ kd ke kf) (by decide) (fun kg kh ki kj => ?_)
        have kk := Tch.ext jm ki
        obtain rfl := kj.bool
        refine mv (rv (vb ke)) ?_
        rcases tf (ke) with kl | kl
        ·have hr := ite_t kl hr; refine gt 28 (rv (vb ke)) kl (mv jp (gt 28 (rv (vb ke)) kl (mv jq (gt 28 (rv (vb ke)) kl ?_)))); obtain ⟨km, kn, hr⟩ := bind_some hr; refine ix Try.underlying22 ty65.inf (rv w0) (h0.mono (ja.trans (jn.trans ki.le))) (rv (vi j4)) kn (fun ko kp => gt 28 (rv (vb ke)) kl (ld ty65 (rv ko) kp (fun kq kr => gt 28 (rv (vb ke)) kl (mv jo (gt 28 (rv (vb ke)) kl ?_))))); obtain ⟨ks, kt, hr⟩ := bind_some hr; exact ix Try.underlying65 ty74.inf (rv kq) kr (rv (vi jh)) kt (fun ku kv => gt 28 (rv (vb ke)) kl (fa fld74_1 Deed.of_Peer (rv ku) kv (fun kw kx => gt 28 (rv (vb ke)) kl (li ty3 (rv kw) kx (gt 28 (rv (vb ke)) kl (el (rv (vi (ks.Peer))) (rv (vi (-1))) (pt (rv (vb ke)) kl (rv (vb (decide (ks.Peer = (-1))))) (nn ⟨kh, (decide (ks.Peer = (-1))), rfl, kk, ki.le, Option.some.inj hr, rfl, jp, jq, jo⟩))))))))
        ·have hr := ite_f kl hr; exact gf 28 (rv (vb ke)) kl (gf 28 (rv (vb ke)) kl (gf 28 (rv (vb ke)) kl (gf 28 (rv (vb ke)) kl (gf 28 (rv (vb ke)) kl (gf 28 (rv (vb ke)) kl (gf 28 (rv (vb ke)) kl (gf 28 (rv (vb ke)) kl (gf 28 (rv (vb ke)) kl (pf (rv (vb ke)) kl (rv (vb false)) (nn ⟨kh, false, rfl, kk, ki.le, Option.some.inj hr, rfl, jp, jq, jo⟩))))))))))
       ·rintro k2 k3 ⟨k4, k1, rfl, k5, k6, jz, k7, k8, k9, ka⟩
        subst jz
        have hr := k0
        try dsimp only at hr
        refine W_cond _ k7 (fun kb => ?_) (fun kb => ?_)
        ·have hr := ite_t kb hr; refine sr (asg (rv (vb true)) (nn (W_ret (block_r (then_r (then_r (block_r ?_))))))); obtain rfl := Option.some.inj hr; have hr := jg; (try dsimp only at hr); refine then_r (block_r (then_r (then_r (block_r ?_)))); obtain rfl := Option.some.inj hr; have hr := j3; (try dsimp only at hr); refine then_r (then_r ?_); obtain rfl := Option.some.inj hr; exact done1 (Or.inl rfl) Try.results65 rfl ⟨_, _, rfl, rfl, k5, Vbool⟩
        ·have hr := ite_f kb hr; refine W_skip (block_n (then_n (W_region (mv ka ?_)))); obtain ⟨kc, hr⟩ := chk_some hr; exact ad (rv (vi jh)) (rv (vi 1)) kc (asg (rv (vi (jh + 1))) (nn ⟨ji, Nat.lt_succ_self _, ⟨k4, (jh + 1), rfl, k5, (jn.trans k6), hr, rfl, k8, k9⟩⟩))
      ·have hr := ite_f jx hr; refine W_exit (then_x (then_x (block_here ?_))); exact then_n ⟨jl, rfl, jm, jn, Option.some.inj hr, jp, jq⟩
    ·rintro jh ji ⟨jj, rfl, jk, jl, jf, jm, jn⟩; subst jf; have hr := jg; (try dsimp only at hr); refine block_n (then_n (W_region (mv jn ?_))); obtain ⟨jo, hr⟩ := chk_some hr; exact ad (rv (vi j4)) (rv (vi 1)) jo (asg (rv (vi (j4 + 1))) (nn ⟨j5, Nat.lt_succ_self _, ⟨jj, (j4 + 1), rfl, jk, (ja.trans jl), hr, rfl, jm⟩⟩))
   ·have hr := ite_f jd hr; refine W_exit (then_x (then_x (block_here ?_))); exact then_n ⟨j8, rfl, j9, ja, Option.some.inj hr⟩
 ·rintro j4 j5 ⟨j6, rfl, j7, j8, j2⟩; subst j2; have hr := j3; (try dsimp only at hr); refine then_n (sr (asg (rv (vb false)) (nn (W_ret ?_)))); obtain rfl := Option.some.inj hr; exact done1 (Or.inl rfl) Try.results65 rfl ⟨_, _, rfl, rfl, j7, Vbool⟩

theorem ref08_started_ok (N : Nat) (s0 : St) (w0 : Value) (a0 : List (List Deed)) (h0 : V s0 w0 a0) (a1 : Int) (r : (Option Case) × Int) (hr : ref08_started N a0 a1 = some r) :
    Calls Try.prog 34 #[w0, .int .i64 a1] s0.w (Ret s0 fun v s => ∃ a b, v = .tuple #[a, b] ∧ ObjO Case.with_At 2 Case.At 3 s0.w.heap.size s a r.1 ∧ V s b r.2) := by
 unfold ref08_started at hr
 have j0 := Ext.refl s0
 refine Calls_of (n := 23) (args := [w0, .int .i64 a1]) Try.func34 rfl rfl (by simp) (sr (asg (rv (Value.pointer none)) (asg (rv (vi 0)) (nn (sr (mv (rv w0) ?_))))))
 obtain ⟨j1, j2, hr⟩ := bind_some hr
 refine L_calls cal42 (args1 (rv w0)) (ref08_Check_ok N _ _ _ h0 j1 j2) (by decide) (fun j3 j4 j5 j6 => ?_)
 have j7 := Tch.ext j0 j5
 obtain rfl := j6.int
 refine asg (rv (vi j1)) (nn (W_seq (sr (mv (rv (vi j1)) (ne (rv (vi j1)) (rv (vi 0)) (nn ?_))))))
 refine W_cond _ (rv (vb (!decide (j1 = 0)))) (fun j8 => ?_) (fun j8 => ?_)
 ·have hr := ite_t j8 hr; refine sr (mv (rv (vi j1)) (asg (rv (Value.pointer none)) (asg (rv (vi j1)) (nn (W_ret (then_r ?_)))))); obtain rfl := Option.some.inj hr; exact done2 (Or.inl rfl) Try.results34 rfl rfl ⟨_, _, rfl, rfl, j7, _, _, rfl, Or.inl ⟨rfl, rfl⟩, Vint⟩
 ·have hr := ite_f j8 hr
  refine W_skip (then_n (W_seq (sr (mv (rv w0) ?_))))
  obtain ⟨j9, ja, hr⟩ := bind_some hr
  refine L_calls cal65 (args1 (rv w0)) (ref08_open_ok N _ _ _ (h0.mono j5.le) j9 ja) (by decide) (fun jb jc jd je => ?_)
  have jf := Tch.ext j7 jd
  obtain rfl := je.bool
  refine nn ?_
  refine W_cond _ (rv (vb j9)) (fun jg => ?_) (fun jg => ?_)
  ·have hr := ite_t jg hr; refine sr (asg (rv (Value.pointer none)) (asg (rv (vi 6)) (nn (W_ret (then_r ?_))))); obtain rfl := Option.some.inj hr; exact done2 (Or.inl rfl) Try.results34 rfl rfl ⟨_, _, rfl, rfl, jf, _, _, rfl, Or.inl ⟨rfl, rfl⟩, Vint⟩
  ·have hr := ite_f jg hr
   refine W_skip (then_n (W_seq (sr (mv (rv (vi a1)) (ls (rv (vi a1)) (rv (vi 0)) (nn ?_))))))
   refine W_cond _ (rv (vb (decide (a1 < 0)))) (fun jh => ?_) (fun jh => ?_)
   ·have hr := ite_t jh hr; refine sr (asg (rv (Value.pointer none)) (asg (rv (vi 3)) (nn (W_ret (then_r ?_))))); obtain rfl := Option.some.inj hr; exact done2 (Or.inl rfl) Try.results34 rfl rfl ⟨_, _, rfl, rfl, jf, _, _, rfl, Or.inl ⟨rfl, rfl⟩, Vint⟩
   ·have hr := ite_f jh hr; refine W_skip (then_n (sr (mv (rv w0) (mv (rv (vi a1)) (mv (rv w0) (ln Try.underlying22 (rv w0) (h0.mono (j5.le.trans jd.le)) ?_)))))); obtain ⟨ji, hr⟩ := chk_some hr; refine L_makeArr (x0 := (0 : Int)) Try.underlying23 tyz3 (rv (vi ((a0.length : Int)))) ji.1 ji.2.1 ji.2.2 (fun _ => rfl) (by decide) (fun jj jk jl jm jn => ?_); have jo := Tch.ext jf jl; refine L_raw79 (rv w0) (rv (vi a1)) (rv (Value.slice (some ⟨jk, 0, none⟩) ((a0.length : Int)).toNat ((a0.length : Int)).toNat)) ((h0.mono (j5.le.trans (jd.le.trans jl.le))) : V jj _ (a0 : List (List Deed))) (Vint : V jj _ (a1 : Int)) (by decide) (L_box_raw (cs := [w0, vi (a1), Value.slice (some ⟨jk, 0, none⟩) ((a0.length : Int)).toNat ((a0.length : Int)).toNat]) (rv (Value.agg #[w0, vi (a1), Value.slice (some ⟨jk, 0, none⟩) ((a0.length : Int)).toNat ((a0.length : Int)).toNat])) (by decide) (fun jp jq jr js => ?_)); have jt := Tch.ext jo jr; have ju := Case.shell (x := (⟨a0, a1, (List.replicate ((a0.length : Int)).toNat (0 : Int))⟩ : Case)) js (((h0.mono (j5.le.trans (jd.le.trans jl.le))) : V jj _ (a0 : List (List Deed))).mono jr.le) ((Vint : V jj _ (a1 : Int)).mono jr.le); refine asg (rv ((Value.pointer (some ⟨jq, 0, none⟩)))) (asg (rv (vi 0)) (nn (W_ret ?_))); obtain rfl := Option.some.inj hr; exact done2 (Or.inl rfl) Try.results34 rfl rfl ⟨_, _, rfl, rfl, jt, _, _, rfl, Or.inr ⟨_, _, rfl, (Nat.le_trans jf.size jm), ju.at (fun _ => rfl) ((jn).ext jr), ((jn).ext jr).self⟩, Vint⟩

theorem ref08_sends_ok (N : Nat) (s0 : St) (w0 : Value) (a0 : Deed) (h0 : V s0 w0 a0) (r : Bool) (hr : ref08_sends N a0 = some r) :
    Calls Try.prog 44 #[w0] s0.w (Ret s0 fun v s => V s v r) := by
 unfold ref08_sends at hr
 have j0 := Ext.refl s0
 refine Calls_of (n := 11) (args := [w0]) Try.func44 rfl rfl (by simp) (sr (L_box (rv w0) h0 (by decide) (fun j1 j2 j3 j4 => ?_)))
 have j5 := Tch.ext j0 j3
 refine asg (rv (vb false)) (nn (sr (fa fld74_0 Deed.of_Kind (rv j2) j4 (fun j6 j7 => li ty3 (rv j6) j7 (el (rv (vi (a0.Kind))) (rv (vi 1)) (mv (rv (vb (decide (a0.Kind = 1)))) ?_))))))
 rcases tf (decide (a0.Kind = 1)) with j8 | j8
 ·have hr := ite_t j8 hr; refine gf 6 (rv (vb (decide (a0.Kind = 1)))) j8 (gf 6 (rv (vb (decide (a0.Kind = 1)))) j8 (gf 6 (rv (vb (decide (a0.Kind = 1)))) j8 (pt (rv (vb (decide (a0.Kind = 1)))) j8 (rv (vb true)) (asg (rv (vb true)) (nn (W_ret ?_)))))); obtain rfl := Option.some.inj hr; exact done1 (Or.inl rfl) Try.results44 rfl ⟨_, _, rfl, rfl, j5, Vbool⟩
 ·have hr := ite_f j8 hr; refine gt 6 (rv (vb (decide (a0.Kind = 1)))) j8 (fa fld74_0 Deed.of_Kind (rv j2) j4 (fun j9 ja => gt 6 (rv (vb (decide (a0.Kind = 1)))) j8 (li ty3 (rv j9) ja (gt 6 (rv (vb (decide (a0.Kind = 1)))) j8 (el (rv (vi (a0.Kind))) (rv (vi 3)) (pf (rv (vb (decide (a0.Kind = 1)))) j8 (rv (vb (decide (a0.Kind = 3)))) (asg (rv (vb (decide (a0.Kind = 3)))) (nn (W_ret ?_))))))))); obtain rfl := Option.some.inj hr; exact done1 (Or.inl rfl) Try.results44 rfl ⟨_, _, rfl, rfl, j5, Vbool⟩

theorem ref08_request_ok (N : Nat) (s0 : St) (w0 : Value) (a0 : List Deed) (h0 : V s0 w0 a0) (a1 : Int) (r : Int) (hr : ref08_request N a0 a1 = some r) :
    Calls Try.prog 66 #[w0, .int .i64 a1] s0.w (Ret s0 fun v s => V s v r) := by
 unfold ref08_request at hr
 have j0 := Ext.refl s0
 refine Calls_of (n := 22) (args := [w0, .int .i64 a1]) Try.func66 rfl rfl (by simp) (sr (asg (rv (vi 0)) (nn (W_seq (sr (asg (rv (vi 0)) (nn ?_)))))))
 obtain ⟨j1, j2, j3⟩ := bind_some hr
 refine W_cut (fun f w => ∃ (s : St), s.w = w ∧ Ext s0 s ∧ Le s0 s ∧ Sum.inl () = j1) ?_ ?_
 ·refine W_block (W_loop (fun m f w => ∃ (s : St) (j4 : Int) (j5 : Int), s.w = w ∧ Ext s0 s ∧ Le s0 s ∧ ref08_request_l1 N a0 m j4 j5 = some j1 ∧ f 1 = vi j4 ∧ f 5 = vi j5 ∧ f 0 = w0) N ⟨s0, a1, 0, rfl, j0, (Le.refl _), j2, rfl, rfl, rfl⟩ ?_)
  rintro j6 j7 j8 ⟨j9, j4, j5, rfl, ja, jb, hr, jc, jd, je⟩
  cases j6 with
  | zero => exact absurd hr (by simp [ref08_request_l1])
  | succ j6 =>
   rw [ref08_request_l1.eq_2] at hr
   refine W_seq (sr (mv jd (mv je (ln Try.underlying65 (rv w0) (h0.mono jb) (ls (rv (vi j5)) (rv (vi ((a0.length : Int)))) (nn ?_))))))
   refine W_cond _ (rv (vb (decide (j5 < (a0.length : Int))))) (fun jf => ?_) (fun jf => ?_)
   ·have hr := ite_t jf hr
    refine W_skip (then_n (W_seq (W_block (sr (mv je (mv jd ?_))))))
    obtain ⟨jg, jh, hr⟩ := bind_some hr
    refine ix Try.underlying65 ty74.inf (rv w0) (h0.mono jb) (rv (vi j5)) jh (fun ji jj => ld ty74 (rv ji) jj (fun jk jl => ?_))
    obtain ⟨jm, jn, hr⟩ := bind_some hr
    refine L_calls cal82 (args1 (rv jk)) (ref08_named_ok N _ _ _ jl jm jn) (by decide) (fun jo jp jq jr => ?_)
    have js := Tch.ext ja jq
    obtain rfl := jr.bool
    refine nn ?_
    refine W_cond _ (rv (vb jm)) (fun jt => ?_) (fun jt => ?_)
    ·have hr := ite_t jt hr
     refine W_seq (sr (mv jc (el (rv (vi j4)) (rv (vi 0)) (nn ?_))))
     refine W_cond _ (rv (vb (decide (j4 = 0)))) (fun ju => ?_) (fun ju => ?_)
     ·have hr := ite_t ju hr; refine sr (mv jd (asg (rv (vi j5)) (nn (W_ret (then_r (block_r (then_r (then_r (block_r ?_))))))))); obtain rfl := Option.some.inj hr; have hr := j3; (try dsimp only at hr); refine then_r (then_r ?_); obtain rfl := Option.some.inj hr; exact done1 (Or.inl rfl) Try.results66 rfl ⟨_, _, rfl, rfl, js, Vint⟩
     ·have hr := ite_f ju hr; refine W_skip (then_n (W_region (mv jc ?_))); obtain ⟨jv, hr⟩ := chk_some hr; refine L_sub (rv (vi j4)) (rv (vi 1)) jv (by decide) (asg (rv (vi (j4 - 1))) (L_nil (block_n (then_n (W_region (mv jd ?_)))))); obtain ⟨jw, hr⟩ := chk_some hr; exact ad (rv (vi j5)) (rv (vi 1)) jw (asg (rv (vi (j5 + 1))) (nn ⟨j6, Nat.lt_succ_self _, ⟨jp, (j4 - 1), (j5 + 1), rfl, js, (jb.trans jq.le), hr, rfl, rfl, je⟩⟩))
    ·have hr := ite_f jt hr; refine W_skip (block_n (then_n (W_region (mv jd ?_)))); obtain ⟨ju, hr⟩ := chk_some hr; exact ad (rv (vi j5)) (rv (vi 1)) ju (asg (rv (vi (j5 + 1))) (nn ⟨j6, Nat.lt_succ_self _, ⟨jp, j4, (j5 + 1), rfl, js, (jb.trans jq.le), hr, jc, rfl, je⟩⟩))
   ·have hr := ite_f jf hr; refine W_exit (then_x (then_x (block_here ?_))); exact then_n ⟨j9, rfl, ja, jb, Option.some.inj hr⟩
 ·rintro j4 j5 ⟨j6, rfl, j7, j8, j2⟩; subst j2; have hr := j3; (try dsimp only at hr); refine then_n (sr (asg (rv (vi (-1))) (nn (W_ret ?_)))); obtain rfl := Option.some.inj hr; exact done1 (Or.inl rfl) Try.results66 rfl ⟨_, _, rfl, rfl, j7, Vint⟩

theorem ref08_fits_ok (N : Nat) (s0 : St) (w0 : Value) (a0 : Deed) (h0 : V s0 w0 a0) (w1 : Value) (a1 : Deed) (h1 : V s0 w1 a1) (r : Bool) (hr : ref08_fits N a0 a1 = some r) :
    Calls Try.prog 45 #[w0, w1] s0.w (Ret s0 fun v s => V s v r) := by
 unfold ref08_fits at hr
 have j0 := Ext.refl s0
 refine Calls_of (n := 15) (args := [w0, w1]) Try.func45 rfl rfl (by simp) (sr (L_box (rv w0) h0 (by decide) (fun j1 j2 j3 j4 => ?_)))
 have j5 := Tch.ext j0 j3
 refine L_box (rv w1) (h1.mono j3.le) (by decide) (fun j6 j7 j8 j9 => ?_)
 have ja := Tch.ext j5 j8
 refine asg (rv (vb false)) (nn (sr (fa fld74_2 Deed.of_Tag (rv j7) j9 (fun jb jc => li ty3 (rv jb) jc (el (rv (vi (a1.Tag))) (rv (vi (-1))) (mv (rv (vb (decide (a1.Tag = (-1))))) ?_))))))
 rcases tf (decide (a1.Tag = (-1))) with jd | jd
 ·have hr := ite_t jd hr; refine gf 8 (rv (vb (decide (a1.Tag = (-1))))) jd (gf 8 (rv (vb (decide (a1.Tag = (-1))))) jd (gf 8 (rv (vb (decide (a1.Tag = (-1))))) jd (gf 8 (rv (vb (decide (a1.Tag = (-1))))) jd (gf 8 (rv (vb (decide (a1.Tag = (-1))))) jd (pt (rv (vb (decide (a1.Tag = (-1))))) jd (rv (vb true)) (asg (rv (vb true)) (nn (W_ret ?_)))))))); obtain rfl := Option.some.inj hr; exact done1 (Or.inl rfl) Try.results45 rfl ⟨_, _, rfl, rfl, ja, Vbool⟩
 ·have hr := ite_f jd hr; refine gt 8 (rv (vb (decide (a1.Tag = (-1))))) jd (fa fld74_2 Deed.of_Tag (rv j7) j9 (fun je jf => gt 8 (rv (vb (decide (a1.Tag = (-1))))) jd (li ty3 (rv je) jf (gt 8 (rv (vb (decide (a1.Tag = (-1))))) jd (fa fld74_2 Deed.of_Tag (rv j2) (j4.mono j8.le) (fun jg jh => gt 8 (rv (vb (decide (a1.Tag = (-1))))) jd (li ty3 (rv jg) jh (gt 8 (rv (vb (decide (a1.Tag = (-1))))) jd (el (rv (vi (a1.Tag))) (rv (vi (a0.Tag))) (pf (rv (vb (decide (a1.Tag = (-1))))) jd (rv (vb (decide (a1.Tag = a0.Tag)))) (asg (rv (vb (decide (a1.Tag = a0.Tag)))) (nn (W_ret ?_))))))))))))); obtain rfl := Option.some.inj hr; exact done1 (Or.inl rfl) Try.results45 rfl ⟨_, _, rfl, rfl, ja, Vbool⟩

theorem ref02_Index_ok (N : Nat) (s0 : St) (w0 : Value) (a0 : List Int) (h0 : V s0 w0 a0) (a1 : Int) (r : Int) (hr : ref02_Index N a0 a1 = some r) :
    Calls Try.prog 46 #[w0, .int .i64 a1] s0.w (Ret s0 fun v s => V s v r) := by
 unfold ref02_Index at hr
 have j0 := Ext.refl s0
 refine Calls_of (n := 19) (args := [w0, .int .i64 a1]) Try.func46 rfl rfl (by simp) (sr (asg (rv (vi 0)) (nn (W_seq (sr (asg (rv (vi 0)) (nn ?_)))))))
 obtain ⟨j1, j2, j3⟩ := bind_some hr
 refine W_cut (fun f w => ∃ (s : St), s.w = w ∧ Ext s0 s ∧ Le s0 s ∧ Sum.inl () = j1) ?_ ?_
 ·refine W_block (W_loop (fun m f w => ∃ (s : St) (j4 : Int), s.w = w ∧ Ext s0 s ∧ Le s0 s ∧ ref02_Index_l1 N a0 a1 m j4 = some j1 ∧ f 5 = vi j4 ∧ f 0 = w0 ∧ f 1 = vi (a1)) N ⟨s0, 0, rfl, j0, (Le.refl _), j2, rfl, rfl, rfl⟩ ?_)
  rintro j5 j6 j7 ⟨j8, j4, rfl, j9, ja, hr, jb, jc, jd⟩
  cases j5 with
  | zero => exact absurd hr (by simp [ref02_Index_l1])
  | succ j5 =>
   rw [ref02_Index_l1.eq_2] at hr
   refine W_seq (sr (mv jb (mv jc (ln Try.underlying23 (rv w0) (h0.mono ja) (ls (rv (vi j4)) (rv (vi ((a0.length : Int)))) (nn ?_))))))
   refine W_cond _ (rv (vb (decide (j4 < (a0.length : Int))))) (fun je => ?_) (fun je => ?_)
   ·have hr := ite_t je hr
    refine W_skip (then_n (W_seq (W_block (sr (mv jc (mv jb ?_))))))
    obtain ⟨jf, jg, hr⟩ := bind_some hr
    refine ix Try.underlying23 ty3.inf (rv w0) (h0.mono ja) (rv (vi j4)) jg (fun jh ji => li ty3 (rv jh) ji (mv jd (el (rv (vi jf)) (rv (vi a1)) (nn ?_))))
    refine W_cond _ (rv (vb (decide (jf = a1)))) (fun jj => ?_) (fun jj => ?_)
    ·have hr := ite_t jj hr; refine sr (mv jb (asg (rv (vi j4)) (nn (W_ret (block_r (then_r (then_r (block_r ?_)))))))); obtain rfl := Option.some.inj hr; have hr := j3; (try dsimp only at hr); refine then_r (then_r ?_); obtain rfl := Option.some.inj hr; exact done1 (Or.inl rfl) Try.results46 rfl ⟨_, _, rfl, rfl, j9, Vint⟩
    ·have hr := ite_f jj hr; refine W_skip (block_n (then_n (W_region (mv jb ?_)))); obtain ⟨jk, hr⟩ := chk_some hr; exact ad (rv (vi j4)) (rv (vi 1)) jk (asg (rv (vi (j4 + 1))) (nn ⟨j5, Nat.lt_succ_self _, ⟨j8, (j4 + 1), rfl, j9, ja, hr, rfl, jc, jd⟩⟩))
   ·have hr := ite_f je hr; refine W_exit (then_x (then_x (block_here ?_))); exact then_n ⟨j8, rfl, j9, ja, Option.some.inj hr⟩
 ·rintro j4 j5 ⟨j6, rfl, j7, j8, j2⟩; subst j2; have hr := j3; (try dsimp only at hr); refine then_n (sr (asg (rv (vi (-1))) (nn (W_ret ?_)))); obtain rfl := Option.some.inj hr; exact done1 (Or.inl rfl) Try.results46 rfl ⟨_, _, rfl, rfl, j7, Vint⟩

theorem ref08_Case_begun_ok (N : Nat) (s0 : St) (w0 : Value) (a0 : Case) (h0 : Ptr s0 w0 a0) (a1 : Int) (r : (List Deed)) (hr : ref08_Case_begun N a0 a1 = some r) :
    Calls Try.prog 84 #[w0, .int .i64 a1] s0.w (Ret s0 fun v s => V s v r) := by
 unfold ref08_Case_begun at hr
 have j0 := Ext.refl s0
 refine Calls_of (n := 30) (args := [w0, .int .i64 a1]) Try.func84 rfl rfl (by simp) (sr (asg (rv (Value.slice none 0 0)) (nn (W_seq ?_))))
 obtain ⟨j1, j2, hr⟩ := bind_some hr
 obtain ⟨j3, j4, hr⟩ := bind_some hr
 obtain ⟨j5, j6, hr⟩ := bind_some hr
 obtain ⟨j7, hr⟩ := chk_some hr
 obtain ⟨j8, j9, hr⟩ := bind_some hr
 refine W_draws mixed (by kernel_rfl) [PV.ptr (a0 : Case), PV.ptr (a0 : Case), PV.ptr (a0.C : List (List Deed)), PV.data (a0.C : List (List Deed)), PV.eq (vi a1), PV.ptr (j1 : List Deed), PV.data (j1 : List Deed), PV.ptr (a0 : Case), PV.ptr (a0 : Case), PV.ptr (a0.C : List (List Deed)), PV.data (a0.C : List (List Deed)), PV.eq (vi a1), PV.ptr (j3 : List Deed), PV.data (j3 : List Deed), PV.eq (vi ((j3.length : Int))), PV.ptr (a0 : Case), PV.ptr (a0 : Case), PV.ptr (a0.At : List Int), PV.data (a0.At : List Int), PV.eq (vi a1), PV.ptr (j5 : Int), PV.eq (vi j5), PV.eq (vi (j5 + 1)), PV.eq (vi (min (j3.length : Int) (j5 + 1))), PV.data (j8 : List Deed), PV.data (j8 : List Deed)] (Steps_cons ?_ (Steps_cons ?_ (Steps_cons ?_ (Steps_cons ?_ (Steps_cons ?_ (Steps_cons ?_ (Steps_cons ?_ (Steps_cons ?_ (Steps_cons ?_ (Steps_cons ?_ (Steps_cons ?_ (Steps_cons ?_ (Steps_cons ?_ (Steps_cons ?_ (Steps_cons ?_ (Steps_cons ?_ (Steps_cons ?_ (Steps_cons ?_ (Steps_cons ?_ (Steps_cons ?_ (Steps_cons ?_ (Steps_cons ?_ (Steps_cons ?_ (Steps_cons ?_ (Steps_cons ?_ (Steps_cons ?_ Steps_nil)))))))))))))))))))))))))) ?_
 ·intro ja jb jc jd je Q jf; have jg : ja 0 = w0 := (je 0 (by kernel_rfl)).trans rfl; exact mv jg (fin jf (h0.mono jc.le))
 ·intro ja jb jc jd je Q jf; have jg : Ptr _ (ja 5) (a0 : Case) := jd 0 5 (by kernel_rfl) (by kernel_rfl); obtain ⟨jh, ji, jj⟩ : ∃ v, _ = v ∧ Ptr _ v _ := ⟨_, rfl, jg⟩; exact L_nilCheck_ptr ji jj (by decide) (fin jf jj)
 ·intro ja jb jc jd je Q jf; have jg : Ptr _ (ja 6) (a0 : Case) := jd 1 6 (by kernel_rfl) (by kernel_rfl); obtain ⟨jh, ji, jj⟩ : ∃ v, _ = v ∧ Ptr _ v _ := ⟨_, rfl, jg⟩; exact fa fld79_0 Case.of_C ji jj (fun jk jl => fin jf jl)
 ·intro ja jb jc jd je Q jf; have jg : Ptr _ (ja 7) (a0.C : List (List Deed)) := jd 2 7 (by kernel_rfl) (by kernel_rfl); obtain ⟨jh, ji, jj⟩ : ∃ v, _ = v ∧ Ptr _ v _ := ⟨_, rfl, jg⟩; exact ld ty22 ji jj (fun jk jl => fin jf jl)
 ·intro ja jb jc jd je Q jf; have jg : ja 1 = vi (a1) := (je 1 (by kernel_rfl)).trans rfl; exact mv jg (fin jf rfl)
 ·intro ja jb jc jd je Q jf; have jg : V _ (ja 8) (a0.C : List (List Deed)) := jd 3 8 (by kernel_rfl) (by kernel_rfl); obtain ⟨jh, ji, jj⟩ : ∃ v, _ = v ∧ V _ v _ := ⟨_, rfl, jg⟩; have jk : ja 9 = vi (a1) := jd 4 9 (by kernel_rfl) (by kernel_rfl); exact ix Try.underlying22 ty65.inf ji jj jk j2 (fun jl jm => fin jf jm)
 ·intro ja jb jc jd je Q jf; have jg : Ptr _ (ja 10) (j1 : List Deed) := jd 5 10 (by kernel_rfl) (by kernel_rfl); obtain ⟨jh, ji, jj⟩ : ∃ v, _ = v ∧ Ptr _ v _ := ⟨_, rfl, jg⟩; exact ld ty65 ji jj (fun jk jl => fin jf jl)
 ·intro ja jb jc jd je Q jf; have jg : ja 0 = w0 := (je 0 (by kernel_rfl)).trans rfl; exact mv jg (fin jf (h0.mono jc.le))
 ·intro ja jb jc jd je Q jf; have jg : Ptr _ (ja 12) (a0 : Case) := jd 7 12 (by kernel_rfl) (by kernel_rfl); obtain ⟨jh, ji, jj⟩ : ∃ v, _ = v ∧ Ptr _ v _ := ⟨_, rfl, jg⟩; exact L_nilCheck_ptr ji jj (by decide) (fin jf jj)
 ·intro ja jb jc jd je Q jf; have jg : Ptr _ (ja 13) (a0 : Case) := jd 8 13 (by kernel_rfl) (by kernel_rfl); obtain ⟨jh, ji, jj⟩ : ∃ v, _ = v ∧ Ptr _ v _ := ⟨_, rfl, jg⟩; exact fa fld79_0 Case.of_C ji jj (fun jk jl => fin jf jl)
 ·intro ja jb jc jd je Q jf; have jg : Ptr _ (ja 14) (a0.C : List (List Deed)) := jd 9 14 (by kernel_rfl) (by kernel_rfl); obtain ⟨jh, ji, jj⟩ : ∃ v, _ = v ∧ Ptr _ v _ := ⟨_, rfl, jg⟩; exact ld ty22 ji jj (fun jk jl => fin jf jl)
 ·intro ja jb jc jd je Q jf; have jg : ja 1 = vi (a1) := (je 1 (by kernel_rfl)).trans rfl; exact mv jg (fin jf rfl)
 ·intro ja jb jc jd je Q jf; have jg : V _ (ja 15) (a0.C : List (List Deed)) := jd 10 15 (by kernel_rfl) (by kernel_rfl); obtain ⟨jh, ji, jj⟩ : ∃ v, _ = v ∧ V _ v _ := ⟨_, rfl, jg⟩; have jk : ja 16 = vi (a1) := jd 11 16 (by kernel_rfl) (by kernel_rfl); exact ix Try.underlying22 ty65.inf ji jj jk j4 (fun jl jm => fin jf jm)
 ·intro ja jb jc jd je Q jf; have jg : Ptr _ (ja 17) (j3 : List Deed) := jd 12 17 (by kernel_rfl) (by kernel_rfl); obtain ⟨jh, ji, jj⟩ : ∃ v, _ = v ∧ Ptr _ v _ := ⟨_, rfl, jg⟩; exact ld ty65 ji jj (fun jk jl => fin jf jl)
 ·intro ja jb jc jd je Q jf; have jg : V _ (ja 18) (j3 : List Deed) := jd 13 18 (by kernel_rfl) (by kernel_rfl); obtain ⟨jh, ji, jj⟩ : ∃ v, _ = v ∧ V _ v _ := ⟨_, rfl, jg⟩; exact ln Try.underlying65 ji jj (fin jf rfl)
 ·intro ja jb jc jd je Q jf; have jg : ja 0 = w0 := (je 0 (by kernel_rfl)).trans rfl; exact mv jg (fin jf (h0.mono jc.le))
 ·intro ja jb jc jd je Q jf; have jg : Ptr _ (ja 20) (a0 : Case) := jd 15 20 (by kernel_rfl) (by kernel_rfl); obtain ⟨jh, ji, jj⟩ : ∃ v, _ = v ∧ Ptr _ v _ := ⟨_, rfl, jg⟩; exact L_nilCheck_ptr ji jj (by decide) (fin jf jj)
 ·intro ja jb jc jd je Q jf; have jg : Ptr _ (ja 21) (a0 : Case) := jd 16 21 (by kernel_rfl) (by kernel_rfl); obtain ⟨jh, ji, jj⟩ : ∃ v, _ = v ∧ Ptr _ v _ := ⟨_, rfl, jg⟩; exact fa fld79_2 Case.of_At ji jj (fun jk jl => fin jf jl)
 ·intro ja jb jc jd je Q jf; have jg : Ptr _ (ja 22) (a0.At : List Int) := jd 17 22 (by kernel_rfl) (by kernel_rfl); obtain ⟨jh, ji, jj⟩ : ∃ v, _ = v ∧ Ptr _ v _ := ⟨_, rfl, jg⟩; exact ld ty23 ji jj (fun jk jl => fin jf jl)
 ·intro ja jb jc jd je Q jf; have jg : ja 1 = vi (a1) := (je 1 (by kernel_rfl)).trans rfl; exact mv jg (fin jf rfl)
 ·intro ja jb jc jd je Q jf; have jg : V _ (ja 23) (a0.At : List Int) := jd 18 23 (by kernel_rfl) (by kernel_rfl); obtain ⟨jh, ji, jj⟩ : ∃ v, _ = v ∧ V _ v _ := ⟨_, rfl, jg⟩; have jk : ja 24 = vi (a1) := jd 19 24 (by kernel_rfl) (by kernel_rfl); exact ix Try.underlying23 ty3.inf ji jj jk j6 (fun jl jm => fin jf jm)
 ·intro ja jb jc jd je Q jf; have jg : Ptr _ (ja 25) (j5 : Int) := jd 20 25 (by kernel_rfl) (by kernel_rfl); obtain ⟨jh, ji, jj⟩ : ∃ v, _ = v ∧ Ptr _ v _ := ⟨_, rfl, jg⟩; exact li ty3 ji jj (fin jf rfl)
 ·intro ja jb jc jd je Q jf; have jg : ja 26 = vi (j5) := jd 21 26 (by kernel_rfl) (by kernel_rfl); exact ad jg (rv (vi 1)) j7 (fin jf rfl)
 ·intro ja jb jc jd je Q jf; have jg : ja 19 = vi ((j3.length : Int)) := jd 14 19 (by kernel_rfl) (by kernel_rfl); have jh : ja 27 = vi (j5 + 1) := jd 22 27 (by kernel_rfl) (by kernel_rfl); exact L_min jg jh (by decide) (fin jf rfl)
 ·intro ja jb jc jd je Q jf; have jg : V _ (ja 11) (j1 : List Deed) := jd 6 11 (by kernel_rfl) (by kernel_rfl); obtain ⟨jh, ji, jj⟩ : ∃ v, _ = v ∧ V _ v _ := ⟨_, rfl, jg⟩; have jk : ja 28 = vi (min (j3.length : Int) (j5 + 1)) := jd 23 28 (by kernel_rfl) (by kernel_rfl); exact L_slice_h Try.underlying65 ty74.inf ji jj jk j9 (by decide) (fun jl jm => fin jf jm)
 ·intro ja jb jc jd je Q jf; have jg : V _ (ja 29) (j8 : List Deed) := jd 24 29 (by kernel_rfl) (by kernel_rfl); obtain ⟨jh, ji, jj⟩ : ∃ v, _ = v ∧ V _ v _ := ⟨_, rfl, jg⟩; exact asg ji (fin jf jj)
 ·intro ja jb jc jd je; have jf := Tch.ext j0 jc; have jg : V _ (ja 4) (j8 : List Deed) := jd 25 4 (by kernel_rfl); obtain ⟨jh, ji, jj⟩ : ∃ v, _ = v ∧ V _ v _ := ⟨_, rfl, jg⟩; refine then_n (W_ret ?_); obtain rfl := Option.some.inj hr; exact done1 (Or.inl rfl) Try.results84 ji ⟨_, _, rfl, rfl, jf, jj⟩

set_option maxHeartbeats 1140000 in
theorem ref08_Case_partners_ok (N : Nat) (s0 : St) (w0 : Value) (a0 : Case) (h0 : Ptr s0 w0 a0) (a1 : Int) (a2 : Int) (r : (List Int)) (hr : ref08_Case_partners N a0 a1 a2 = some r) :
    Calls Try.prog 83 #[w0, .int .i64 a1, .int .i64 a2] s0.w (Ret s0 fun v s => V s v r) := by
 unfold ref08_Case_partners at hr
 have j0 := Ext.refl s0
 refine Calls_of (n := 96) (args := [w0, .int .i64 a1, .int .i64 a2]) Try.func83 rfl rfl (by simp) (sr (asg (rv (Value.slice none 0 0)) (nn (sr (mv (rv w0) (mv (rv (vi a1)) ?_))))))
 obtain ⟨j1, j2, hr⟩ := bind_some hr
 refine L_calls cal84 (args2 (rv w0) (rv (vi a1))) (ref08_Case_begun_ok N _ _ _ h0 a1 j1 j2) (by decide) (fun j3 j4 j5 j6 => ?_)
 have j7 := Tch.ext j0 j5
 refine mv (rv w0) (mv (rv (vi a2)) ?_)
 obtain ⟨j8, j9, hr⟩ := bind_some hr
 refine L_calls cal84 (args2 (rv w0) (rv (vi a2))) (ref08_Case_begun_ok N _ _ _ (h0.mono j5.le) a2 j8 j9) (by decide) (fun ja jb jc jd => ?_)
 have je := Tch.ext j7 jc
 refine asg (rv j3) (asg (rv ja) (nn (sr (mv (rv j3) (ln Try.underlying65 (rv j3) (j6.mono jc.le) ?_)))))
 obtain ⟨jf, hr⟩ := chk_some hr
 refine L_makeArr (x0 := (0 : Int)) Try.underlying23 tyz3 (rv (vi ((j1.length : Int)))) jf.1 jf.2.1 jf.2.2 (fun _ => rfl) (by decide) (fun jg jh ji jj jk => ?_)
 have jl := Tch.ext je ji
 refine asg (rv (Value.slice (some ⟨jh, 0, none⟩) ((j1.length : Int)).toNat ((j1.length : Int)).toNat)) (nn (W_seq (sr (asg (rv (vi 0)) (nn ?_)))))
 obtain ⟨jm, jn, jo⟩ := bind_some hr
 refine W_cut (fun f w => ∃ (s : St) (jp : List Int), s.w = w ∧ Ext s0 s ∧ Le jg s ∧ jp = jm ∧ f 9 = Value.slice (some ⟨jh, 0, none⟩) ((j1.length : Int)).toNat ((j1.length : Int)).toNat ∧ Arr s jh 3 ((j1.length : Int)).toNat jp) ?_ ?_
 ·refine W_block (W_loop (fun m f w => ∃ (s : St) (jq : Int) (jr : List Int), s.w = w ∧ Ext s0 s ∧ Le jg s ∧ ref08_Case_partners_l1 N a1 a2 j1 j8 m jq jr = some jm ∧ f 10 = vi jq ∧ f 1 = vi (a1) ∧ f 2 = vi (a2) ∧ f 7 = j3 ∧ f 8 = ja ∧ f 9 = Value.slice (some ⟨jh, 0, none⟩) ((j1.length : Int)).toNat ((j1.length : Int)).toNat ∧ Arr s jh 3 ((j1.length : Int)).toNat jr) N ⟨jg, 0, (List.replicate ((j1.length : Int)).toNat (0 : Int)), rfl, jl, (Le.refl _), jn, rfl, rfl, rfl, rfl, rfl, rfl, jk⟩ ?_)
  rintro js jt ju ⟨jv, jq, jr, rfl, jw, jx, hr, jy, jz, k0, k1, k2, k3, k4⟩
  cases js with
  | zero => exact absurd hr (by simp [ref08_Case_partners_l1])
  | succ js =>
   rw [ref08_Case_partners_l1.eq_2] at hr
   refine W_seq (sr (mv jy (mv k1 (ln Try.underlying65 (rv j3) (j6.mono (jc.le.trans (ji.le.trans jx))) (ls (rv (vi jq)) (rv (vi ((j1.length : Int)))) (nn ?_))))))
   refine W_cond _ (rv (vb (decide (jq < (j1.length : Int))))) (fun k5 => ?_) (fun k5 => ?_)
   ·have hr := ite_t k5 hr
    refine W_skip (then_n (W_seq (W_block (sr (mv k3 (mv jy ?_))))))
    obtain ⟨k6, k7, hr⟩ := bind_some hr
    refine L_indexA (sz := 1) Try.underlying23 ty3.inf (rv (Value.slice (some ⟨jh, 0, none⟩) ((j1.length : Int)).toNat ((j1.length : Int)).toNat)) (rv (vi jq)) (idx_some k7).1 (by have := (idx_some k7).2.1; have := (k4).1; omega) (by decide) (L_storeA (xs := jr) ty3 (rv (Value.pointer (some ⟨jh, (jq).toNat * 1, none⟩))) (rv (vi (-1))) Vint (k4) k7 (fun k8 k9 ka => ?_))
    have kb := Tch.trans jw k9 (fun k hk => Or.inr (by subst hk; exact (Nat.le_trans je.size jj)))
    refine nn (W_seq ?_)
    obtain ⟨kc, kd, ke⟩ := bind_some hr
    refine W_seq_cut (fun f w => ∃ (s : St) (kf : Bool), s.w = w ∧ Ext s0 s ∧ Le k8 s ∧ kf = kc ∧ f 44 = vb kf ∧ f 1 = vi (a1) ∧ f 2 = vi (a2) ∧ f 7 = j3 ∧ f 8 = ja ∧ f 9 = Value.slice (some ⟨jh, 0, none⟩) ((j1.length : Int)).toNat ((j1.length : Int)).toNat ∧ f 10 = vi (jq) ∧ Arr s jh 3 ((j1.length : Int)).toNat (jr.set (jq).toNat (-1))) ?_ ?_
    ·have hr := kd
     refine W_region (mv k1 (mv jy ?_))
     obtain ⟨kg, kh, hr⟩ := bind_some hr
     refine ix Try.underlying65 ty74.inf (rv j3) (j6.mono (jc.le.trans (ji.le.trans (jx.trans k9.le)))) (rv (vi jq)) kh (fun ki kj => ld ty74 (rv ki) kj (fun kk kl => ?_))
     obtain ⟨km, kn, hr⟩ := bind_some hr
     refine L_calls cal44 (args1 (rv kk)) (ref08_sends_ok N _ _ _ kl km kn) (by decide) (fun ko kp kq kr => ?_)
     have ks := Tch.ext kb kq
     obtain rfl := kr.bool
     refine L_not (rv (vb km)) (by decide) (mv (rv (vb (!km))) ?_)
     rcases tf (!km) with kt | kt
     ·have hr := ite_t kt hr; exact gf 36 (rv (vb (!km))) kt (gf 36 (rv (vb (!km))) kt (gf 36 (rv (vb (!km))) kt (gf 36 (rv (vb (!km))) kt (gf 36 (rv (vb (!km))) kt (gf 36 (rv (vb (!km))) kt (gf 36 (rv (vb (!km))) kt (pt (rv (vb (!km))) kt (rv (vb true)) (nn ⟨kp, true, rfl, ks, kq.le, Option.some.inj hr, rfl, jz, k0, k1, k2, k3, jy, (ka).ext kq⟩))))))))
     ·have hr := ite_f kt hr; refine gt 36 (rv (vb (!km))) kt (mv k1 (gt 36 (rv (vb (!km))) kt (mv jy (gt 36 (rv (vb (!km))) kt ?_)))); obtain ⟨ku, kv, hr⟩ := bind_some hr; exact ix Try.underlying65 ty74.inf (rv j3) (j6.mono (jc.le.trans (ji.le.trans (jx.trans (k9.le.trans kq.le))))) (rv (vi jq)) kv (fun kw kx => gt 36 (rv (vb (!km))) kt (fa fld74_1 Deed.of_Peer (rv kw) kx (fun ky kz => gt 36 (rv (vb (!km))) kt (li ty3 (rv ky) kz (gt 36 (rv (vb (!km))) kt (mv k0 (gt 36 (rv (vb (!km))) kt (ne (rv (vi (ku.Peer))) (rv (vi a2)) (pf (rv (vb (!km))) kt (rv (vb (!decide (ku.Peer = a2)))) (nn ⟨kp, (!decide (ku.Peer = a2)), rfl, ks, kq.le, Option.some.inj hr, rfl, jz, k0, k1, k2, k3, jy, (ka).ext kq⟩))))))))))
    ·rintro kg kh ⟨ki, kf, rfl, kj, kk, kd, kl, km, kn, ko, kp, kq, kr, ks⟩
     subst kd
     have hr := ke
     try dsimp only at hr
     refine W_cond _ kl (fun kt => ?_) (fun kt => ?_)
     ·have hr := ite_t kt hr; refine W_exit (then_x (block_here (then_n (W_region (mv kr ?_))))); obtain ⟨ku, hr⟩ := chk_some hr; exact ad (rv (vi jq)) (rv (vi 1)) ku (asg (rv (vi (jq + 1))) (nn ⟨js, Nat.lt_succ_self _, ⟨ki, (jq + 1), (jr.set (jq).toNat (-1)), rfl, kj, (jx.trans (k9.le.trans kk)), hr, rfl, km, kn, ko, kp, kq, ks⟩⟩))
     ·have hr := ite_f kt hr
      refine W_skip (then_n (sr (asg (rv (vi 0)) (nn ?_))))
      obtain ⟨ku, kv, kw⟩ := bind_some hr
      refine W_cut (fun f w => ∃ (s : St) (kx : List Int), s.w = w ∧ Ext s0 s ∧ Le ki s ∧ kx = ku ∧ f 1 = vi (a1) ∧ f 2 = vi (a2) ∧ f 7 = j3 ∧ f 8 = ja ∧ f 9 = Value.slice (some ⟨jh, 0, none⟩) ((j1.length : Int)).toNat ((j1.length : Int)).toNat ∧ f 10 = vi (jq) ∧ Arr s jh 3 ((j1.length : Int)).toNat kx) ?_ ?_
      ·refine W_block (W_loop (fun m f w => ∃ (s : St) (ky : Int) (kz : List Int), s.w = w ∧ Ext s0 s ∧ Le ki s ∧ ref08_Case_partners_l2 N a1 j1 j8 jq m ky kz = some ku ∧ f 11 = vi ky ∧ f 1 = vi (a1) ∧ f 2 = vi (a2) ∧ f 7 = j3 ∧ f 8 = ja ∧ f 9 = Value.slice (some ⟨jh, 0, none⟩) ((j1.length : Int)).toNat ((j1.length : Int)).toNat ∧ f 10 = vi (jq) ∧ Arr s jh 3 ((j1.length : Int)).toNat kz) N ⟨ki, 0, (jr.set (jq).toNat (-1)), rfl, kj, (Le.refl _), kv, rfl, km, kn, ko, kp, kq, kr, ks⟩ ?_)
       rintro g0 g1 g2 ⟨g3, ky, kz, rfl, g4, g5, hr, g6, g7, g8, g9, ga, gb, gc, gd⟩
       cases g0 with
       | zero => exact absurd hr (by simp [ref08_Case_partners_l2])
       | succ g0 =>
        rw [ref08_Case_partners_l2.eq_2] at hr
        refine W_seq ?_
        obtain ⟨gg, gh, gi⟩ := bind_some hr
        refine W_seq_cut (fun f w => ∃ (s : St) (gj : Bool), s.w = w ∧ Ext s0 s ∧ Le g3 s ∧ gj = gg ∧ f 55 = vb gj ∧ f 1 = vi (a1) ∧ f 2 = vi (a2) ∧ f 7 = j3 ∧ f 8 = ja ∧ f 9 = Value.slice (some ⟨jh, 0, none⟩) ((j1.length : Int)).toNat ((j1.length : Int)).toNat ∧ f 10 = vi (jq) ∧ f 11 = vi (ky) ∧ Arr s jh 3 ((j1.length : Int)).toNat kz) ?_ ?_
        ·have hr := gh
         refine W_region (mv g6 (mv ga (ln Try.underlying65 (rv ja) (jd.mono (ji.le.trans (jx.trans (k9.le.trans (kk.trans g5))))) (ls (rv (vi ky)) (rv (vi ((j8.length : Int)))) (mv (rv (vb (decide (ky < (j8.length : Int))))) ?_)))))
         rcases tf (decide (ky < (j8.length : Int))) with gk | gk
         ·have hr := ite_t gk hr; refine gt 49 (rv (vb (decide (ky < (j8.length : Int))))) gk (mv gb (gt 49 (rv (vb (decide (ky < (j8.length : Int))))) gk (mv gc (gt 49 (rv (vb (decide (ky < (j8.length : Int))))) gk ?_)))); obtain ⟨gl, gm, hr⟩ := bind_some hr; refine L_indexA (sz := 1) Try.underlying23 ty3.inf (rv (Value.slice (some ⟨jh, 0, none⟩) ((j1.length : Int)).toNat ((j1.length : Int)).toNat)) (rv (vi jq)) (idx_some gm).1 (by have := (idx_some gm).2.1; have := (gd).1; omega) (by decide) (gt 49 (rv (vb (decide (ky < (j8.length : Int))))) gk (L_loadA (xs := kz) ty3 (rv (Value.pointer (some ⟨jh, (jq).toNat * 1, none⟩))) (gd) gm (by decide) (fun gn go => ?_))); obtain rfl := go.int; exact gt 49 (rv (vb (decide (ky < (j8.length : Int))))) gk (ls (rv (vi gl)) (rv (vi 0)) (pt (rv (vb (decide (ky < (j8.length : Int))))) gk (rv (vb (decide (gl < 0)))) (nn ⟨g3, (decide (gl < 0)), rfl, g4, (Le.refl _), Option.some.inj hr, rfl, g7, g8, g9, ga, gb, gc, g6, gd⟩)))
         ·have hr := ite_f gk hr; exact gf 49 (rv (vb (decide (ky < (j8.length : Int))))) gk (gf 49 (rv (vb (decide (ky < (j8.length : Int))))) gk (gf 49 (rv (vb (decide (ky < (j8.length : Int))))) gk (gf 49 (rv (vb (decide (ky < (j8.length : Int))))) gk (gf 49 (rv (vb (decide (ky < (j8.length : Int))))) gk (pf (rv (vb (decide (ky < (j8.length : Int))))) gk (rv (vb false)) (nn ⟨g3, false, rfl, g4, (Le.refl _), Option.some.inj hr, rfl, g7, g8, g9, ga, gb, gc, g6, gd⟩))))))
        ·rintro gk gl ⟨gm, gj, rfl, gn, go, gh, gp, gq, gr, gs, gu, gv, gw, gx, gy⟩
         subst gh
         have hr := gi
         try dsimp only at hr
         refine W_cond _ gp (fun gz => ?_) (fun gz => ?_)
         ·have hr := ite_t gz hr
          refine W_skip (then_n (W_seq (W_block ?_)))
          obtain ⟨u0, u1, u2⟩ := bind_some hr
          refine W_seq_cut (fun f w => ∃ (s : St) (u3 : Bool), s.w = w ∧ Ext s0 s ∧ Le gm s ∧ u3 = u0 ∧ f 90 = vb u3 ∧ f 1 = vi (a1) ∧ f 2 = vi (a2) ∧ f 7 = j3 ∧ f 8 = ja ∧ f 9 = Value.slice (some ⟨jh, 0, none⟩) ((j1.length : Int)).toNat ((j1.length : Int)).toNat ∧ f 10 = vi (jq) ∧ f 11 = vi (ky) ∧ Arr s jh 3 ((j1.length : Int)).toNat kz) ?_ ?_
          ·have hr := u1
           obtain ⟨u4, u5, hr⟩ := bind_some hr
           obtain ⟨u6, u7, hr⟩ := bind_some hr
           rcases tf (u6) with u9 | u9
           ·have hr := ite_t u9 hr
            obtain ⟨ua, ub, hr⟩ := bind_some hr
            rcases tf (decide (ua.Peer = a1)) with uc | uc
            ·have hr := ite_t uc hr
             obtain ⟨ud, ue, hr⟩ := bind_some hr
             obtain ⟨uf, ug, hr⟩ := bind_some hr
             obtain ⟨uh, ui, hr⟩ := bind_some hr
             rcases tf (uh) with uj | uj
             ·have hr := ite_t uj hr
              obtain ⟨uk, ul, hr⟩ := bind_some hr
              obtain ⟨um, un, hr⟩ := bind_some hr
              refine W_draws mixed (by kernel_rfl) [PV.data (j8 : List Deed), PV.eq (vi ky), PV.ptr (u4 : Deed), PV.data (u4 : Deed), PV.eq (vb u6), PV.eq (vb u6), PV.data (j8 : List Deed), PV.eq (vi ky), PV.ptr (ua : Deed), PV.ptr (ua.Peer : Int), PV.eq (vi (ua.Peer)), PV.eq (vi a1), PV.eq (vb (decide (ua.Peer = a1))), PV.eq (vb (decide (ua.Peer = a1))), PV.eq (vb (decide (ua.Peer = a1))), PV.data (j1 : List Deed), PV.eq (vi jq), PV.ptr (ud : Deed), PV.data (ud : Deed), PV.data (j8 : List Deed), PV.eq (vi ky), PV.ptr (uf : Deed), PV.data (uf : Deed), PV.eq (vb uh), PV.eq (vb uh), PV.eq (vb uh), PV.eq (Value.slice (some ⟨jh, 0, none⟩) ((j1.length : Int)).toNat ((j1.length : Int)).toNat), PV.eq (vi jq), PV.eq ((cutV jh ((j1.length : Int)).toNat 1 (jq))), PV.eq (vi ky), PV.eq (vi um), PV.eq (vb (decide (um < 0))), PV.eq (vb (decide (um < 0)))] (Steps_cons ?_ (Steps_cons ?_ (Steps_cons ?_ (Steps_cons ?_ (Steps_cons ?_ (Steps_cons ?_ (Steps_cons ?_ (Steps_cons ?_ (Steps_cons ?_ (Steps_cons ?_ (Steps_cons ?_ (Steps_cons ?_ (Steps_cons ?_ (Steps_cons ?_ (Steps_cons ?_ (Steps_cons ?_ (Steps_cons ?_ (Steps_cons ?_ (Steps_cons ?_ (Steps_cons ?_ (Steps_cons ?_ (Steps_cons ?_ (Steps_cons ?_ (Steps_cons ?_ (Steps_cons ?_ (Steps_cons ?_ (Steps_cons ?_ (Steps_cons ?_ (Steps_cons ?_ (Steps_cons ?_ (Steps_cons ?_ (Steps_cons ?_ (Steps_cons ?_ Steps_nil))))))))))))))))))))))))))))))))) ?_
              ·intro uo up uq ur us Q ut; have uu : uo 8 = ja := (us 8 (by kernel_rfl)).trans gu; exact mv uu (fin ut (jd.mono (ji.le.trans (jx.trans (k9.le.trans (kk.trans (g5.trans (go.trans uq.le))))))))
              ·intro uo up uq ur us Q ut; have uu : uo 11 = vi (ky) := (us 11 (by kernel_rfl)).trans gx; exact mv uu (fin ut rfl)
              ·intro uo up uq ur us Q ut; have uu : V _ (uo 58) (j8 : List Deed) := ur 0 58 (by kernel_rfl) (by kernel_rfl); obtain ⟨uv, uw, ux⟩ : ∃ v, _ = v ∧ V _ v _ := ⟨_, rfl, uu⟩; have uy : uo 59 = vi (ky) := ur 1 59 (by kernel_rfl) (by kernel_rfl); exact ix Try.underlying65 ty74.inf uw ux uy u5 (fun uz t0 => fin ut t0)
              ·intro uo up uq ur us Q ut; have uu : Ptr _ (uo 60) (u4 : Deed) := ur 2 60 (by kernel_rfl) (by kernel_rfl); obtain ⟨uv, uw, ux⟩ : ∃ v, _ = v ∧ Ptr _ v _ := ⟨_, rfl, uu⟩; exact ld ty74 uw ux (fun uy uz => fin ut uz)
              ·intro uo up uq ur us Q ut; have uu : V _ (uo 61) (u4 : Deed) := ur 3 61 (by kernel_rfl) (by kernel_rfl); obtain ⟨uv, uw, ux⟩ : ∃ v, _ = v ∧ V _ v _ := ⟨_, rfl, uu⟩; refine L_calls cal43 (args1 uw) (ref08_receives_ok N _ _ _ ux u6 u7) (by decide) (fun uy uz t0 t1 => ?_); have t2 := Tch.ext (Ext.refl up) t0; obtain rfl := t1.bool; exact L_nil (ut _ _ t2 rfl)
              ·intro uo up uq ur us Q ut; have uu : uo 62 = vb (u6) := ur 4 62 (by kernel_rfl) (by kernel_rfl); exact mv uu (fin ut rfl)
              ·intro uo up uq ur us Q ut; have uu : uo 8 = ja := (us 8 (by kernel_rfl)).trans gu; have uv : uo 63 = vb (u6) := ur 5 63 (by kernel_rfl) (by kernel_rfl); exact gt 63 uv u9 (mv uu (fin ut (jd.mono (ji.le.trans (jx.trans (k9.le.trans (kk.trans (g5.trans (go.trans uq.le)))))))))
              ·intro uo up uq ur us Q ut; have uu : uo 11 = vi (ky) := (us 11 (by kernel_rfl)).trans gx; have uv : uo 63 = vb (u6) := ur 5 63 (by kernel_rfl) (by kernel_rfl); exact gt 63 uv u9 (mv uu (fin ut rfl))
              ·intro uo up uq ur us Q ut; have uu : uo 63 = vb (u6) := ur 5 63 (by kernel_rfl) (by kernel_rfl); have uv : V _ (uo 64) (j8 : List Deed) := ur 6 64 (by kernel_rfl) (by kernel_rfl); obtain ⟨uw, ux, uy⟩ : ∃ v, _ = v ∧ V _ v _ := ⟨_, rfl, uv⟩; have uz : uo 65 = vi (ky) := ur 7 65 (by kernel_rfl) (by kernel_rfl); exact gt 63 uu u9 (ix Try.underlying65 ty74.inf ux uy uz ub (fun t0 t1 => fin ut t1))
              ·intro uo up uq ur us Q ut; have uu : uo 63 = vb (u6) := ur 5 63 (by kernel_rfl) (by kernel_rfl); have uv : Ptr _ (uo 66) (ua : Deed) := ur 8 66 (by kernel_rfl) (by kernel_rfl); obtain ⟨uw, ux, uy⟩ : ∃ v, _ = v ∧ Ptr _ v _ := ⟨_, rfl, uv⟩; exact gt 63 uu u9 (fa fld74_1 Deed.of_Peer ux uy (fun uz t0 => fin ut t0))
              ·intro uo up uq ur us Q ut; have uu : uo 63 = vb (u6) := ur 5 63 (by kernel_rfl) (by kernel_rfl); have uv : Ptr _ (uo 67) (ua.Peer : Int) := ur 9 67 (by kernel_rfl) (by kernel_rfl); obtain ⟨uw, ux, uy⟩ : ∃ v, _ = v ∧ Ptr _ v _ := ⟨_, rfl, uv⟩; exact gt 63 uu u9 (li ty3 ux uy (fin ut rfl))
              ·intro uo up uq ur us Q ut; have uu : uo 1 = vi (a1) := (us 1 (by kernel_rfl)).trans gq; have uv : uo 63 = vb (u6) := ur 5 63 (by kernel_rfl) (by kernel_rfl); exact gt 63 uv u9 (mv uu (fin ut rfl))
              ·intro uo up uq ur us Q ut; have uu : uo 63 = vb (u6) := ur 5 63 (by kernel_rfl) (by kernel_rfl); have uv : uo 68 = vi (ua.Peer) := ur 10 68 (by kernel_rfl) (by kernel_rfl); have uw : uo 69 = vi (a1) := ur 11 69 (by kernel_rfl) (by kernel_rfl); exact gt 63 uu u9 (el uv uw (fin ut rfl))
              ·intro uo up uq ur us Q ut; have uu : uo 63 = vb (u6) := ur 5 63 (by kernel_rfl) (by kernel_rfl); have uv : uo 70 = vb (decide (ua.Peer = a1)) := ur 12 70 (by kernel_rfl) (by kernel_rfl); exact pt uu u9 uv (fin ut rfl)
              ·intro uo up uq ur us Q ut; have uu : uo 71 = vb (decide (ua.Peer = a1)) := ur 13 71 (by kernel_rfl) (by kernel_rfl); exact mv uu (fin ut rfl)
              ·intro uo up uq ur us Q ut; have uu : uo 7 = j3 := (us 7 (by kernel_rfl)).trans gs; have uv : uo 72 = vb (decide (ua.Peer = a1)) := ur 14 72 (by kernel_rfl) (by kernel_rfl); exact gt 72 uv uc (mv uu (fin ut (j6.mono (jc.le.trans (ji.le.trans (jx.trans (k9.le.trans (kk.trans (g5.trans (go.trans uq.le))))))))))
              ·intro uo up uq ur us Q ut; have uu : uo 10 = vi (jq) := (us 10 (by kernel_rfl)).trans gw; have uv : uo 72 = vb (decide (ua.Peer = a1)) := ur 14 72 (by kernel_rfl) (by kernel_rfl); exact gt 72 uv uc (mv uu (fin ut rfl))
              ·intro uo up uq ur us Q ut; have uu : uo 72 = vb (decide (ua.Peer = a1)) := ur 14 72 (by kernel_rfl) (by kernel_rfl); have uv : V _ (uo 73) (j1 : List Deed) := ur 15 73 (by kernel_rfl) (by kernel_rfl); obtain ⟨uw, ux, uy⟩ : ∃ v, _ = v ∧ V _ v _ := ⟨_, rfl, uv⟩; have uz : uo 74 = vi (jq) := ur 16 74 (by kernel_rfl) (by kernel_rfl); exact gt 72 uu uc (ix Try.underlying65 ty74.inf ux uy uz ue (fun t0 t1 => fin ut t1))
              ·intro uo up uq ur us Q ut; have uu : uo 72 = vb (decide (ua.Peer = a1)) := ur 14 72 (by kernel_rfl) (by kernel_rfl); have uv : Ptr _ (uo 75) (ud : Deed) := ur 17 75 (by kernel_rfl) (by kernel_rfl); obtain ⟨uw, ux, uy⟩ : ∃ v, _ = v ∧ Ptr _ v _ := ⟨_, rfl, uv⟩; exact gt 72 uu uc (ld ty74 ux uy (fun uz t0 => fin ut t0))
              ·intro uo up uq ur us Q ut; have uu : uo 8 = ja := (us 8 (by kernel_rfl)).trans gu; have uv : uo 72 = vb (decide (ua.Peer = a1)) := ur 14 72 (by kernel_rfl) (by kernel_rfl); exact gt 72 uv uc (mv uu (fin ut (jd.mono (ji.le.trans (jx.trans (k9.le.trans (kk.trans (g5.trans (go.trans uq.le)))))))))
              ·intro uo up uq ur us Q ut; have uu : uo 11 = vi (ky) := (us 11 (by kernel_rfl)).trans gx; have uv : uo 72 = vb (decide (ua.Peer = a1)) := ur 14 72 (by kernel_rfl) (by kernel_rfl); exact gt 72 uv uc (mv uu (fin ut rfl))
              ·intro uo up uq ur us Q ut; have uu : uo 72 = vb (decide (ua.Peer = a1)) := ur 14 72 (by kernel_rfl) (by kernel_rfl); have uv : V _ (uo 77) (j8 : List Deed) := ur 19 77 (by kernel_rfl) (by kernel_rfl); obtain ⟨uw, ux, uy⟩ : ∃ v, _ = v ∧ V _ v _ := ⟨_, rfl, uv⟩; have uz : uo 78 = vi (ky) := ur 20 78 (by kernel_rfl) (by kernel_rfl); exact gt 72 uu uc (ix Try.underlying65 ty74.inf ux uy uz ug (fun t0 t1 => fin ut t1))
              ·intro uo up uq ur us Q ut; have uu : uo 72 = vb (decide (ua.Peer = a1)) := ur 14 72 (by kernel_rfl) (by kernel_rfl); have uv : Ptr _ (uo 79) (uf : Deed) := ur 21 79 (by kernel_rfl) (by kernel_rfl); obtain ⟨uw, ux, uy⟩ : ∃ v, _ = v ∧ Ptr _ v _ := ⟨_, rfl, uv⟩; exact gt 72 uu uc (ld ty74 ux uy (fun uz t0 => fin ut t0))
              ·intro uo up uq ur us Q ut; have uu : uo 72 = vb (decide (ua.Peer = a1)) := ur 14 72 (by kernel_rfl) (by kernel_rfl); have uv : V _ (uo 76) (ud : Deed) := ur 18 76 (by kernel_rfl) (by kernel_rfl); obtain ⟨uw, ux, uy⟩ : ∃ v, _ = v ∧ V _ v _ := ⟨_, rfl, uv⟩; have uz : V _ (uo 80) (uf : Deed) := ur 22 80 (by kernel_rfl) (by kernel_rfl); obtain ⟨t0, t1, t2⟩ : ∃ v, _ = v ∧ V _ v _ := ⟨_, rfl, uz⟩; refine gt 72 uu uc (L_calls cal45 (args2 ux t1) (ref08_fits_ok N _ _ _ uy _ _ t2 uh ui) (by decide) (fun t3 t4 t5 t6 => ?_)); have t7 := Tch.ext (Ext.refl up) t5; obtain rfl := t6.bool; exact L_nil (ut _ _ t7 rfl)
              ·intro uo up uq ur us Q ut; have uu : uo 72 = vb (decide (ua.Peer = a1)) := ur 14 72 (by kernel_rfl) (by kernel_rfl); have uv : uo 81 = vb (uh) := ur 23 81 (by kernel_rfl) (by kernel_rfl); exact pt uu uc uv (fin ut rfl)
              ·intro uo up uq ur us Q ut; have uu : uo 82 = vb (uh) := ur 24 82 (by kernel_rfl) (by kernel_rfl); exact mv uu (fin ut rfl)
              ·intro uo up uq ur us Q ut; have uu : uo 9 = Value.slice (some ⟨jh, 0, none⟩) ((j1.length : Int)).toNat ((j1.length : Int)).toNat := (us 9 (by kernel_rfl)).trans gv; have uv : uo 83 = vb (uh) := ur 25 83 (by kernel_rfl) (by kernel_rfl); exact gt 83 uv uj (mv uu (fin ut rfl))
              ·intro uo up uq ur us Q ut; have uu : uo 10 = vi (jq) := (us 10 (by kernel_rfl)).trans gw; have uv : uo 83 = vb (uh) := ur 25 83 (by kernel_rfl) (by kernel_rfl); exact gt 83 uv uj (mv uu (fin ut rfl))
              ·intro uo up uq ur us Q ut; have uu : uo 83 = vb (uh) := ur 25 83 (by kernel_rfl) (by kernel_rfl); have uv : uo 84 = Value.slice (some ⟨jh, 0, none⟩) ((j1.length : Int)).toNat ((j1.length : Int)).toNat := ur 26 84 (by kernel_rfl) (by kernel_rfl); have uw : uo 85 = vi (jq) := ur 27 85 (by kernel_rfl) (by kernel_rfl); exact gt 83 uu uj (L_sliceA_h (sz := 1) Try.underlying23 ty3.inf uv uw (cut_in ul).1 (by have := (cut_in ul).2; have := ((gy).ext uq).1; omega) (by decide) (fin ut rfl))
              ·intro uo up uq ur us Q ut; have uu : uo 11 = vi (ky) := (us 11 (by kernel_rfl)).trans gx; have uv : uo 83 = vb (uh) := ur 25 83 (by kernel_rfl) (by kernel_rfl); exact gt 83 uv uj (mv uu (fin ut rfl))
              ·intro uo up uq ur us Q ut; have uu : uo 83 = vb (uh) := ur 25 83 (by kernel_rfl) (by kernel_rfl); have uv : uo 86 = (cutV jh ((j1.length : Int)).toNat 1 (jq)) := ur 28 86 (by kernel_rfl) (by kernel_rfl); have uw : uo 87 = vi (ky) := ur 29 87 (by kernel_rfl) (by kernel_rfl); refine gt 83 uu uj ?_; obtain ⟨ux, uy, uz, t0⟩ := ((gy).ext uq).freeze; refine L_calls_fz cal46 (args2 uv uw) uy uz (fun k hk => by have t1 : k = jh := hk; rw [t1]; exact ((gy).ext uq).g) (ref02_Index_ok N _ _ _ (V_cutA t0 ul) ky um un) (by decide) (fun t2 t3 t4 t5 t6 t7 => ?_); have t8 := Tch.ext (Ext.refl up) t6; obtain rfl := t7.int; exact L_nil (ut _ _ t8 rfl)
              ·intro uo up uq ur us Q ut; have uu : uo 83 = vb (uh) := ur 25 83 (by kernel_rfl) (by kernel_rfl); have uv : uo 88 = vi (um) := ur 30 88 (by kernel_rfl) (by kernel_rfl); exact gt 83 uu uj (ls uv (rv (vi 0)) (fin ut rfl))
              ·intro uo up uq ur us Q ut; have uu : uo 83 = vb (uh) := ur 25 83 (by kernel_rfl) (by kernel_rfl); have uv : uo 89 = vb (decide (um < 0)) := ur 31 89 (by kernel_rfl) (by kernel_rfl); exact pt uu uj uv (fin ut rfl)
              ·intro uo up uq ur us; have ut := Tch.ext gn uq; have uu : uo 1 = vi (a1) := (us 1 (by kernel_rfl)).trans gq; have uv : uo 2 = vi (a2) := (us 2 (by kernel_rfl)).trans gr; have uw : uo 7 = j3 := (us 7 (by kernel_rfl)).trans gs; have ux : uo 8 = ja := (us 8 (by kernel_rfl)).trans gu; have uy : uo 9 = Value.slice (some ⟨jh, 0, none⟩) ((j1.length : Int)).toNat ((j1.length : Int)).toNat := (us 9 (by kernel_rfl)).trans gv; have uz : uo 10 = vi (jq) := (us 10 (by kernel_rfl)).trans gw; have t0 : uo 11 = vi (ky) := (us 11 (by kernel_rfl)).trans gx; have t1 : uo 90 = vb (decide (um < 0)) := ur 32 90 (by kernel_rfl); exact then_n ⟨up, (decide (um < 0)), rfl, ut, uq.le, Option.some.inj hr, t1, uu, uv, uw, ux, uy, uz, t0, (gy).ext uq⟩
             ·have hr := ite_f uj hr
              refine W_draws mixed (by kernel_rfl) [PV.data (j8 : List Deed), PV.eq (vi ky), PV.ptr (u4 : Deed), PV.data (u4 : Deed), PV.eq (vb u6), PV.eq (vb u6), PV.data (j8 : List Deed), PV.eq (vi ky), PV.ptr (ua : Deed), PV.ptr (ua.Peer : Int), PV.eq (vi (ua.Peer)), PV.eq (vi a1), PV.eq (vb (decide (ua.Peer = a1))), PV.eq (vb (decide (ua.Peer = a1))), PV.eq (vb (decide (ua.Peer = a1))), PV.data (j1 : List Deed), PV.eq (vi jq), PV.ptr (ud : Deed), PV.data (ud : Deed), PV.data (j8 : List Deed), PV.eq (vi ky), PV.ptr (uf : Deed), PV.data (uf : Deed), PV.eq (vb uh), PV.eq (vb uh), PV.eq (vb uh), PV.eq (undef), PV.eq (undef), PV.eq (undef), PV.eq (undef), PV.eq (undef), PV.eq (undef), PV.eq (vb false)] (Steps_cons ?_ (Steps_cons ?_ (Steps_cons ?_ (Steps_cons ?_ (Steps_cons ?_ (Steps_cons ?_ (Steps_cons ?_ (Steps_cons ?_ (Steps_cons ?_ (Steps_cons ?_ (Steps_cons ?_ (Steps_cons ?_ (Steps_cons ?_ (Steps_cons ?_ (Steps_cons ?_ (Steps_cons ?_ (Steps_cons ?_ (Steps_cons ?_ (Steps_cons ?_ (Steps_cons ?_ (Steps_cons ?_ (Steps_cons ?_ (Steps_cons ?_ (Steps_cons ?_ (Steps_cons ?_ (Steps_cons ?_ (Steps_cons ?_ (Steps_cons ?_ (Steps_cons ?_ (Steps_cons ?_ (Steps_cons ?_ (Steps_cons ?_ (Steps_cons ?_ Steps_nil))))))))))))))))))))))))))))))))) ?_
              ·intro uk ul um un uo Q up; have uq : uk 8 = ja := (uo 8 (by kernel_rfl)).trans gu; exact mv uq (fin up (jd.mono (ji.le.trans (jx.trans (k9.le.trans (kk.trans (g5.trans (go.trans um.le))))))))
              ·intro uk ul um un uo Q up; have uq : uk 11 = vi (ky) := (uo 11 (by kernel_rfl)).trans gx; exact mv uq (fin up rfl)
              ·intro uk ul um un uo Q up; have uq : V _ (uk 58) (j8 : List Deed) := un 0 58 (by kernel_rfl) (by kernel_rfl); obtain ⟨ur, us, ut⟩ : ∃ v, _ = v ∧ V _ v _ := ⟨_, rfl, uq⟩; have uu : uk 59 = vi (ky) := un 1 59 (by kernel_rfl) (by kernel_rfl); exact ix Try.underlying65 ty74.inf us ut uu u5 (fun uv uw => fin up uw)
              ·intro uk ul um un uo Q up; have uq : Ptr _ (uk 60) (u4 : Deed) := un 2 60 (by kernel_rfl) (by kernel_rfl); obtain ⟨ur, us, ut⟩ : ∃ v, _ = v ∧ Ptr _ v _ := ⟨_, rfl, uq⟩; exact ld ty74 us ut (fun uu uv => fin up uv)
              ·intro uk ul um un uo Q up; have uq : V _ (uk 61) (u4 : Deed) := un 3 61 (by kernel_rfl) (by kernel_rfl); obtain ⟨ur, us, ut⟩ : ∃ v, _ = v ∧ V _ v _ := ⟨_, rfl, uq⟩; refine L_calls cal43 (args1 us) (ref08_receives_ok N _ _ _ ut u6 u7) (by decide) (fun uu uv uw ux => ?_); have uy := Tch.ext (Ext.refl ul) uw; obtain rfl := ux.bool; exact L_nil (up _ _ uy rfl)
              ·intro uk ul um un uo Q up; have uq : uk 62 = vb (u6) := un 4 62 (by kernel_rfl) (by kernel_rfl); exact mv uq (fin up rfl)
              ·intro uk ul um un uo Q up; have uq : uk 8 = ja := (uo 8 (by kernel_rfl)).trans gu; have ur : uk 63 = vb (u6) := un 5 63 (by kernel_rfl) (by kernel_rfl); exact gt 63 ur u9 (mv uq (fin up (jd.mono (ji.le.trans (jx.trans (k9.le.trans (kk.trans (g5.trans (go.trans um.le)))))))))
              ·intro uk ul um un uo Q up; have uq : uk 11 = vi (ky) := (uo 11 (by kernel_rfl)).trans gx; have ur : uk 63 = vb (u6) := un 5 63 (by kernel_rfl) (by kernel_rfl); exact gt 63 ur u9 (mv uq (fin up rfl))
              ·intro uk ul um un uo Q up; have uq : uk 63 = vb (u6) := un 5 63 (by kernel_rfl) (by kernel_rfl); have ur : V _ (uk 64) (j8 : List Deed) := un 6 64 (by kernel_rfl) (by kernel_rfl); obtain ⟨us, ut, uu⟩ : ∃ v, _ = v ∧ V _ v _ := ⟨_, rfl, ur⟩; have uv : uk 65 = vi (ky) := un 7 65 (by kernel_rfl) (by kernel_rfl); exact gt 63 uq u9 (ix Try.underlying65 ty74.inf ut uu uv ub (fun uw ux => fin up ux))
              ·intro uk ul um un uo Q up; have uq : uk 63 = vb (u6) := un 5 63 (by kernel_rfl) (by kernel_rfl); have ur : Ptr _ (uk 66) (ua : Deed) := un 8 66 (by kernel_rfl) (by kernel_rfl); obtain ⟨us, ut, uu⟩ : ∃ v, _ = v ∧ Ptr _ v _ := ⟨_, rfl, ur⟩; exact gt 63 uq u9 (fa fld74_1 Deed.of_Peer ut uu (fun uv uw => fin up uw))
              ·intro uk ul um un uo Q up; have uq : uk 63 = vb (u6) := un 5 63 (by kernel_rfl) (by kernel_rfl); have ur : Ptr _ (uk 67) (ua.Peer : Int) := un 9 67 (by kernel_rfl) (by kernel_rfl); obtain ⟨us, ut, uu⟩ : ∃ v, _ = v ∧ Ptr _ v _ := ⟨_, rfl, ur⟩; exact gt 63 uq u9 (li ty3 ut uu (fin up rfl))
              ·intro uk ul um un uo Q up; have uq : uk 1 = vi (a1) := (uo 1 (by kernel_rfl)).trans gq; have ur : uk 63 = vb (u6) := un 5 63 (by kernel_rfl) (by kernel_rfl); exact gt 63 ur u9 (mv uq (fin up rfl))
              ·intro uk ul um un uo Q up; have uq : uk 63 = vb (u6) := un 5 63 (by kernel_rfl) (by kernel_rfl); have ur : uk 68 = vi (ua.Peer) := un 10 68 (by kernel_rfl) (by kernel_rfl); have us : uk 69 = vi (a1) := un 11 69 (by kernel_rfl) (by kernel_rfl); exact gt 63 uq u9 (el ur us (fin up rfl))
              ·intro uk ul um un uo Q up; have uq : uk 63 = vb (u6) := un 5 63 (by kernel_rfl) (by kernel_rfl); have ur : uk 70 = vb (decide (ua.Peer = a1)) := un 12 70 (by kernel_rfl) (by kernel_rfl); exact pt uq u9 ur (fin up rfl)
              ·intro uk ul um un uo Q up; have uq : uk 71 = vb (decide (ua.Peer = a1)) := un 13 71 (by kernel_rfl) (by kernel_rfl); exact mv uq (fin up rfl)
              ·intro uk ul um un uo Q up; have uq : uk 7 = j3 := (uo 7 (by kernel_rfl)).trans gs; have ur : uk 72 = vb (decide (ua.Peer = a1)) := un 14 72 (by kernel_rfl) (by kernel_rfl); exact gt 72 ur uc (mv uq (fin up (j6.mono (jc.le.trans (ji.le.trans (jx.trans (k9.le.trans (kk.trans (g5.trans (go.trans um.le))))))))))
              ·intro uk ul um un uo Q up; have uq : uk 10 = vi (jq) := (uo 10 (by kernel_rfl)).trans gw; have ur : uk 72 = vb (decide (ua.Peer = a1)) := un 14 72 (by kernel_rfl) (by kernel_rfl); exact gt 72 ur uc (mv uq (fin up rfl))
              ·intro uk ul um un uo Q up; have uq : uk 72 = vb (decide (ua.Peer = a1)) := un 14 72 (by kernel_rfl) (by kernel_rfl); have ur : V _ (uk 73) (j1 : List Deed) := un 15 73 (by kernel_rfl) (by kernel_rfl); obtain ⟨us, ut, uu⟩ : ∃ v, _ = v ∧ V _ v _ := ⟨_, rfl, ur⟩; have uv : uk 74 = vi (jq) := un 16 74 (by kernel_rfl) (by kernel_rfl); exact gt 72 uq uc (ix Try.underlying65 ty74.inf ut uu uv ue (fun uw ux => fin up ux))
              ·intro uk ul um un uo Q up; have uq : uk 72 = vb (decide (ua.Peer = a1)) := un 14 72 (by kernel_rfl) (by kernel_rfl); have ur : Ptr _ (uk 75) (ud : Deed) := un 17 75 (by kernel_rfl) (by kernel_rfl); obtain ⟨us, ut, uu⟩ : ∃ v, _ = v ∧ Ptr _ v _ := ⟨_, rfl, ur⟩; exact gt 72 uq uc (ld ty74 ut uu (fun uv uw => fin up uw))
              ·intro uk ul um un uo Q up; have uq : uk 8 = ja := (uo 8 (by kernel_rfl)).trans gu; have ur : uk 72 = vb (decide (ua.Peer = a1)) := un 14 72 (by kernel_rfl) (by kernel_rfl); exact gt 72 ur uc (mv uq (fin up (jd.mono (ji.le.trans (jx.trans (k9.le.trans (kk.trans (g5.trans (go.trans um.le)))))))))
              ·intro uk ul um un uo Q up; have uq : uk 11 = vi (ky) := (uo 11 (by kernel_rfl)).trans gx; have ur : uk 72 = vb (decide (ua.Peer = a1)) := un 14 72 (by kernel_rfl) (by kernel_rfl); exact gt 72 ur uc (mv uq (fin up rfl))
              ·intro uk ul um un uo Q up; have uq : uk 72 = vb (decide (ua.Peer = a1)) := un 14 72 (by kernel_rfl) (by kernel_rfl); have ur : V _ (uk 77) (j8 : List Deed) := un 19 77 (by kernel_rfl) (by kernel_rfl); obtain ⟨us, ut, uu⟩ : ∃ v, _ = v ∧ V _ v _ := ⟨_, rfl, ur⟩; have uv : uk 78 = vi (ky) := un 20 78 (by kernel_rfl) (by kernel_rfl); exact gt 72 uq uc (ix Try.underlying65 ty74.inf ut uu uv ug (fun uw ux => fin up ux))
              ·intro uk ul um un uo Q up; have uq : uk 72 = vb (decide (ua.Peer = a1)) := un 14 72 (by kernel_rfl) (by kernel_rfl); have ur : Ptr _ (uk 79) (uf : Deed) := un 21 79 (by kernel_rfl) (by kernel_rfl); obtain ⟨us, ut, uu⟩ : ∃ v, _ = v ∧ Ptr _ v _ := ⟨_, rfl, ur⟩; exact gt 72 uq uc (ld ty74 ut uu (fun uv uw => fin up uw))
              ·intro uk ul um un uo Q up; have uq : uk 72 = vb (decide (ua.Peer = a1)) := un 14 72 (by kernel_rfl) (by kernel_rfl); have ur : V _ (uk 76) (ud : Deed) := un 18 76 (by kernel_rfl) (by kernel_rfl); obtain ⟨us, ut, uu⟩ : ∃ v, _ = v ∧ V _ v _ := ⟨_, rfl, ur⟩; have uv : V _ (uk 80) (uf : Deed) := un 22 80 (by kernel_rfl) (by kernel_rfl); obtain ⟨uw, ux, uy⟩ : ∃ v, _ = v ∧ V _ v _ := ⟨_, rfl, uv⟩; refine gt 72 uq uc (L_calls cal45 (args2 ut ux) (ref08_fits_ok N _ _ _ uu _ _ uy uh ui) (by decide) (fun uz t0 t1 t2 => ?_)); have t3 := Tch.ext (Ext.refl ul) t1; obtain rfl := t2.bool; exact L_nil (up _ _ t3 rfl)
              ·intro uk ul um un uo Q up; have uq : uk 72 = vb (decide (ua.Peer = a1)) := un 14 72 (by kernel_rfl) (by kernel_rfl); have ur : uk 81 = vb (uh) := un 23 81 (by kernel_rfl) (by kernel_rfl); exact pt uq uc ur (fin up rfl)
              ·intro uk ul um un uo Q up; have uq : uk 82 = vb (uh) := un 24 82 (by kernel_rfl) (by kernel_rfl); exact mv uq (fin up rfl)
              ·intro uk ul um un uo Q up; have uq : uk 83 = vb (uh) := un 25 83 (by kernel_rfl) (by kernel_rfl); exact gf 83 uq uj (fin up rfl)
              ·intro uk ul um un uo Q up; have uq : uk 83 = vb (uh) := un 25 83 (by kernel_rfl) (by kernel_rfl); exact gf 83 uq uj (fin up rfl)
              ·intro uk ul um un uo Q up; have uq : uk 83 = vb (uh) := un 25 83 (by kernel_rfl) (by kernel_rfl); exact gf 83 uq uj (fin up rfl)
              ·intro uk ul um un uo Q up; have uq : uk 83 = vb (uh) := un 25 83 (by kernel_rfl) (by kernel_rfl); exact gf 83 uq uj (fin up rfl)
              ·intro uk ul um un uo Q up; have uq : uk 83 = vb (uh) := un 25 83 (by kernel_rfl) (by kernel_rfl); exact gf 83 uq uj (fin up rfl)
              ·intro uk ul um un uo Q up; have uq : uk 83 = vb (uh) := un 25 83 (by kernel_rfl) (by kernel_rfl); exact gf 83 uq uj (fin up rfl)
              ·intro uk ul um un uo Q up; have uq : uk 83 = vb (uh) := un 25 83 (by kernel_rfl) (by kernel_rfl); exact pf uq uj (rv (vb false)) (fin up rfl)
              ·intro uk ul um un uo; have up := Tch.ext gn um; have uq : uk 1 = vi (a1) := (uo 1 (by kernel_rfl)).trans gq; have ur : uk 2 = vi (a2) := (uo 2 (by kernel_rfl)).trans gr; have us : uk 7 = j3 := (uo 7 (by kernel_rfl)).trans gs; have ut : uk 8 = ja := (uo 8 (by kernel_rfl)).trans gu; have uu : uk 9 = Value.slice (some ⟨jh, 0, none⟩) ((j1.length : Int)).toNat ((j1.length : Int)).toNat := (uo 9 (by kernel_rfl)).trans gv; have uv : uk 10 = vi (jq) := (uo 10 (by kernel_rfl)).trans gw; have uw : uk 11 = vi (ky) := (uo 11 (by kernel_rfl)).trans gx; have ux : uk 90 = vb (false) := un 32 90 (by kernel_rfl); exact then_n ⟨ul, false, rfl, up, um.le, Option.some.inj hr, ux, uq, ur, us, ut, uu, uv, uw, (gy).ext um⟩
            ·have hr := ite_f uc hr
             refine W_draws mixed (by kernel_rfl) [PV.data (j8 : List Deed), PV.eq (vi ky), PV.ptr (u4 : Deed), PV.data (u4 : Deed), PV.eq (vb u6), PV.eq (vb u6), PV.data (j8 : List Deed), PV.eq (vi ky), PV.ptr (ua : Deed), PV.ptr (ua.Peer : Int), PV.eq (vi (ua.Peer)), PV.eq (vi a1), PV.eq (vb (decide (ua.Peer = a1))), PV.eq (vb (decide (ua.Peer = a1))), PV.eq (vb (decide (ua.Peer = a1))), PV.eq (undef), PV.eq (undef), PV.eq (undef), PV.eq (undef), PV.eq (undef), PV.eq (undef), PV.eq (undef), PV.eq (undef), PV.eq (undef), PV.eq (vb false), PV.eq (vb false), PV.eq (undef), PV.eq (undef), PV.eq (undef), PV.eq (undef), PV.eq (undef), PV.eq (undef), PV.eq (vb false)] (Steps_cons ?_ (Steps_cons ?_ (Steps_cons ?_ (Steps_cons ?_ (Steps_cons ?_ (Steps_cons ?_ (Steps_cons ?_ (Steps_cons ?_ (Steps_cons ?_ (Steps_cons ?_ (Steps_cons ?_ (Steps_cons ?_ (Steps_cons ?_ (Steps_cons ?_ (Steps_cons ?_ (Steps_cons ?_ (Steps_cons ?_ (Steps_cons ?_ (Steps_cons ?_ (Steps_cons ?_ (Steps_cons ?_ (Steps_cons ?_ (Steps_cons ?_ (Steps_cons ?_ (Steps_cons ?_ (Steps_cons ?_ (Steps_cons ?_ (Steps_cons ?_ (Steps_cons ?_ (Steps_cons ?_ (Steps_cons ?_ (Steps_cons ?_ (Steps_cons ?_ Steps_nil))))))))))))))))))))))))))))))))) ?_
             ·intro ud ue uf ug uh Q ui; have uj : ud 8 = ja := (uh 8 (by kernel_rfl)).trans gu; exact mv uj (fin ui (jd.mono (ji.le.trans (jx.trans (k9.le.trans (kk.trans (g5.trans (go.trans uf.le))))))))
             ·intro ud ue uf ug uh Q ui; have uj : ud 11 = vi (ky) := (uh 11 (by kernel_rfl)).trans gx; exact mv uj (fin ui rfl)
             ·intro ud ue uf ug uh Q ui; have uj : V _ (ud 58) (j8 : List Deed) := ug 0 58 (by kernel_rfl) (by kernel_rfl); obtain ⟨uk, ul, um⟩ : ∃ v, _ = v ∧ V _ v _ := ⟨_, rfl, uj⟩; have un : ud 59 = vi (ky) := ug 1 59 (by kernel_rfl) (by kernel_rfl); exact ix Try.underlying65 ty74.inf ul um un u5 (fun uo up => fin ui up)
             ·intro ud ue uf ug uh Q ui; have uj : Ptr _ (ud 60) (u4 : Deed) := ug 2 60 (by kernel_rfl) (by kernel_rfl); obtain ⟨uk, ul, um⟩ : ∃ v, _ = v ∧ Ptr _ v _ := ⟨_, rfl, uj⟩; exact ld ty74 ul um (fun un uo => fin ui uo)
             ·intro ud ue uf ug uh Q ui; have uj : V _ (ud 61) (u4 : Deed) := ug 3 61 (by kernel_rfl) (by kernel_rfl); obtain ⟨uk, ul, um⟩ : ∃ v, _ = v ∧ V _ v _ := ⟨_, rfl, uj⟩; refine L_calls cal43 (args1 ul) (ref08_receives_ok N _ _ _ um u6 u7) (by decide) (fun un uo up uq => ?_); have ur := Tch.ext (Ext.refl ue) up; obtain rfl := uq.bool; exact L_nil (ui _ _ ur rfl)
             ·intro ud ue uf ug uh Q ui; have uj : ud 62 = vb (u6) := ug 4 62 (by kernel_rfl) (by kernel_rfl); exact mv uj (fin ui rfl)
             ·intro ud ue uf ug uh Q ui; have uj : ud 8 = ja := (uh 8 (by kernel_rfl)).trans gu; have uk : ud 63 = vb (u6) := ug 5 63 (by kernel_rfl) (by kernel_rfl); exact gt 63 uk u9 (mv uj (fin ui (jd.mono (ji.le.trans (jx.trans (k9.le.trans (kk.trans (g5.trans (go.trans uf.le)))))))))
             ·intro ud ue uf ug uh Q ui; have uj : ud 11 = vi (ky) := (uh 11 (by kernel_rfl)).trans gx; have uk : ud 63 = vb (u6) := ug 5 63 (by kernel_rfl) (by kernel_rfl); exact gt 63 uk u9 (mv uj (fin ui rfl))
             ·intro ud ue uf ug uh Q ui; have uj : ud 63 = vb (u6) := ug 5 63 (by kernel_rfl) (by kernel_rfl); have uk : V _ (ud 64) (j8 : List Deed) := ug 6 64 (by kernel_rfl) (by kernel_rfl); obtain ⟨ul, um, un⟩ : ∃ v, _ = v ∧ V _ v _ := ⟨_, rfl, uk⟩; have uo : ud 65 = vi (ky) := ug 7 65 (by kernel_rfl) (by kernel_rfl); exact gt 63 uj u9 (ix Try.underlying65 ty74.inf um un uo ub (fun up uq => fin ui uq))
             ·intro ud ue uf ug uh Q ui; have uj : ud 63 = vb (u6) := ug 5 63 (by kernel_rfl) (by kernel_rfl); have uk : Ptr _ (ud 66) (ua : Deed) := ug 8 66 (by kernel_rfl) (by kernel_rfl); obtain ⟨ul, um, un⟩ : ∃ v, _ = v ∧ Ptr _ v _ := ⟨_, rfl, uk⟩; exact gt 63 uj u9 (fa fld74_1 Deed.of_Peer um un (fun uo up => fin ui up))
             ·intro ud ue uf ug uh Q ui; have uj : ud 63 = vb (u6) := ug 5 63 (by kernel_rfl) (by kernel_rfl); have uk : Ptr _ (ud 67) (ua.Peer : Int) := ug 9 67 (by kernel_rfl) (by kernel_rfl); obtain ⟨ul, um, un⟩ : ∃ v, _ = v ∧ Ptr _ v _ := ⟨_, rfl, uk⟩; exact gt 63 uj u9 (li ty3 um un (fin ui rfl))
             ·intro ud ue uf ug uh Q ui; have uj : ud 1 = vi (a1) := (uh 1 (by kernel_rfl)).trans gq; have uk : ud 63 = vb (u6) := ug 5 63 (by kernel_rfl) (by kernel_rfl); exact gt 63 uk u9 (mv uj (fin ui rfl))
             ·intro ud ue uf ug uh Q ui; have uj : ud 63 = vb (u6) := ug 5 63 (by kernel_rfl) (by kernel_rfl); have uk : ud 68 = vi (ua.Peer) := ug 10 68 (by kernel_rfl) (by kernel_rfl); have ul : ud 69 = vi (a1) := ug 11 69 (by kernel_rfl) (by kernel_rfl); exact gt 63 uj u9 (el uk ul (fin ui rfl))
             ·intro ud ue uf ug uh Q ui; have uj : ud 63 = vb (u6) := ug 5 63 (by kernel_rfl) (by kernel_rfl); have uk : ud 70 = vb (decide (ua.Peer = a1)) := ug 12 70 (by kernel_rfl) (by kernel_rfl); exact pt uj u9 uk (fin ui rfl)
             ·intro ud ue uf ug uh Q ui; have uj : ud 71 = vb (decide (ua.Peer = a1)) := ug 13 71 (by kernel_rfl) (by kernel_rfl); exact mv uj (fin ui rfl)
             ·intro ud ue uf ug uh Q ui; have uj : ud 72 = vb (decide (ua.Peer = a1)) := ug 14 72 (by kernel_rfl) (by kernel_rfl); exact gf 72 uj uc (fin ui rfl)
             ·intro ud ue uf ug uh Q ui; have uj : ud 72 = vb (decide (ua.Peer = a1)) := ug 14 72 (by kernel_rfl) (by kernel_rfl); exact gf 72 uj uc (fin ui rfl)
             ·intro ud ue uf ug uh Q ui; have uj : ud 72 = vb (decide (ua.Peer = a1)) := ug 14 72 (by kernel_rfl) (by kernel_rfl); exact gf 72 uj uc (fin ui rfl)
             ·intro ud ue uf ug uh Q ui; have uj : ud 72 = vb (decide (ua.Peer = a1)) := ug 14 72 (by kernel_rfl) (by kernel_rfl); exact gf 72 uj uc (fin ui rfl)
             ·intro ud ue uf ug uh Q ui; have uj : ud 72 = vb (decide (ua.Peer = a1)) := ug 14 72 (by kernel_rfl) (by kernel_rfl); exact gf 72 uj uc (fin ui rfl)
             ·intro ud ue uf ug uh Q ui; have uj : ud 72 = vb (decide (ua.Peer = a1)) := ug 14 72 (by kernel_rfl) (by kernel_rfl); exact gf 72 uj uc (fin ui rfl)
             ·intro ud ue uf ug uh Q ui; have uj : ud 72 = vb (decide (ua.Peer = a1)) := ug 14 72 (by kernel_rfl) (by kernel_rfl); exact gf 72 uj uc (fin ui rfl)
             ·intro ud ue uf ug uh Q ui; have uj : ud 72 = vb (decide (ua.Peer = a1)) := ug 14 72 (by kernel_rfl) (by kernel_rfl); exact gf 72 uj uc (fin ui rfl)
             ·intro ud ue uf ug uh Q ui; have uj : ud 72 = vb (decide (ua.Peer = a1)) := ug 14 72 (by kernel_rfl) (by kernel_rfl); exact gf 72 uj uc (fin ui rfl)
             ·intro ud ue uf ug uh Q ui; have uj : ud 72 = vb (decide (ua.Peer = a1)) := ug 14 72 (by kernel_rfl) (by kernel_rfl); exact pf uj uc (rv (vb false)) (fin ui rfl)
             ·intro ud ue uf ug uh Q ui; have uj : ud 82 = vb (false) := ug 24 82 (by kernel_rfl) (by kernel_rfl); exact mv uj (fin ui rfl)
             ·intro ud ue uf ug uh Q ui; have uj : ud 83 = vb (false) := ug 25 83 (by kernel_rfl) (by kernel_rfl); exact gf 83 uj rfl (fin ui rfl)
             ·intro ud ue uf ug uh Q ui; have uj : ud 83 = vb (false) := ug 25 83 (by kernel_rfl) (by kernel_rfl); exact gf 83 uj rfl (fin ui rfl)
             ·intro ud ue uf ug uh Q ui; have uj : ud 83 = vb (false) := ug 25 83 (by kernel_rfl) (by kernel_rfl); exact gf 83 uj rfl (fin ui rfl)
             ·intro ud ue uf ug uh Q ui; have uj : ud 83 = vb (false) := ug 25 83 (by kernel_rfl) (by kernel_rfl); exact gf 83 uj rfl (fin ui rfl)
             ·intro ud ue uf ug uh Q ui; have uj : ud 83 = vb (false) := ug 25 83 (by kernel_rfl) (by kernel_rfl); exact gf 83 uj rfl (fin ui rfl)
             ·intro ud ue uf ug uh Q ui; have uj : ud 83 = vb (false) := ug 25 83 (by kernel_rfl) (by kernel_rfl); exact gf 83 uj rfl (fin ui rfl)
             ·intro ud ue uf ug uh Q ui; have uj : ud 83 = vb (false) := ug 25 83 (by kernel_rfl) (by kernel_rfl); exact pf uj rfl (rv (vb false)) (fin ui rfl)
             ·intro ud ue uf ug uh; have ui := Tch.ext gn uf; have uj : ud 1 = vi (a1) := (uh 1 (by kernel_rfl)).trans gq; have uk : ud 2 = vi (a2) := (uh 2 (by kernel_rfl)).trans gr; have ul : ud 7 = j3 := (uh 7 (by kernel_rfl)).trans gs; have um : ud 8 = ja := (uh 8 (by kernel_rfl)).trans gu; have un : ud 9 = Value.slice (some ⟨jh, 0, none⟩) ((j1.length : Int)).toNat ((j1.length : Int)).toNat := (uh 9 (by kernel_rfl)).trans gv; have uo : ud 10 = vi (jq) := (uh 10 (by kernel_rfl)).trans gw; have up : ud 11 = vi (ky) := (uh 11 (by kernel_rfl)).trans gx; have uq : ud 90 = vb (false) := ug 32 90 (by kernel_rfl); exact then_n ⟨ue, false, rfl, ui, uf.le, Option.some.inj hr, uq, uj, uk, ul, um, un, uo, up, (gy).ext uf⟩
           ·have hr := ite_f u9 hr
            refine W_draws mixed (by kernel_rfl) [PV.data (j8 : List Deed), PV.eq (vi ky), PV.ptr (u4 : Deed), PV.data (u4 : Deed), PV.eq (vb u6), PV.eq (vb u6), PV.eq (undef), PV.eq (undef), PV.eq (undef), PV.eq (undef), PV.eq (undef), PV.eq (undef), PV.eq (undef), PV.eq (vb false), PV.eq (vb false), PV.eq (undef), PV.eq (undef), PV.eq (undef), PV.eq (undef), PV.eq (undef), PV.eq (undef), PV.eq (undef), PV.eq (undef), PV.eq (undef), PV.eq (vb false), PV.eq (vb false), PV.eq (undef), PV.eq (undef), PV.eq (undef), PV.eq (undef), PV.eq (undef), PV.eq (undef), PV.eq (vb false)] (Steps_cons ?_ (Steps_cons ?_ (Steps_cons ?_ (Steps_cons ?_ (Steps_cons ?_ (Steps_cons ?_ (Steps_cons ?_ (Steps_cons ?_ (Steps_cons ?_ (Steps_cons ?_ (Steps_cons ?_ (Steps_cons ?_ (Steps_cons ?_ (Steps_cons ?_ (Steps_cons ?_ (Steps_cons ?_ (Steps_cons ?_ (Steps_cons ?_ (Steps_cons ?_ (Steps_cons ?_ (Steps_cons ?_ (Steps_cons ?_ (Steps_cons ?_ (Steps_cons ?_ (Steps_cons ?_ (Steps_cons ?_ (Steps_cons ?_ (Steps_cons ?_ (Steps_cons ?_ (Steps_cons ?_ (Steps_cons ?_ (Steps_cons ?_ (Steps_cons ?_ Steps_nil))))))))))))))))))))))))))))))))) ?_
            ·intro ua ub uc ud ue Q uf; have ug : ua 8 = ja := (ue 8 (by kernel_rfl)).trans gu; exact mv ug (fin uf (jd.mono (ji.le.trans (jx.trans (k9.le.trans (kk.trans (g5.trans (go.trans uc.le))))))))
            ·intro ua ub uc ud ue Q uf; have ug : ua 11 = vi (ky) := (ue 11 (by kernel_rfl)).trans gx; exact mv ug (fin uf rfl)
            ·intro ua ub uc ud ue Q uf; have ug : V _ (ua 58) (j8 : List Deed) := ud 0 58 (by kernel_rfl) (by kernel_rfl); obtain ⟨uh, ui, uj⟩ : ∃ v, _ = v ∧ V _ v _ := ⟨_, rfl, ug⟩; have uk : ua 59 = vi (ky) := ud 1 59 (by kernel_rfl) (by kernel_rfl); exact ix Try.underlying65 ty74.inf ui uj uk u5 (fun ul um => fin uf um)
            ·intro ua ub uc ud ue Q uf; have ug : Ptr _ (ua 60) (u4 : Deed) := ud 2 60 (by kernel_rfl) (by kernel_rfl); obtain ⟨uh, ui, uj⟩ : ∃ v, _ = v ∧ Ptr _ v _ := ⟨_, rfl, ug⟩; exact ld ty74 ui uj (fun uk ul => fin uf ul)
            ·intro ua ub uc ud ue Q uf; have ug : V _ (ua 61) (u4 : Deed) := ud 3 61 (by kernel_rfl) (by kernel_rfl); obtain ⟨uh, ui, uj⟩ : ∃ v, _ = v ∧ V _ v _ := ⟨_, rfl, ug⟩; refine L_calls cal43 (args1 ui) (ref08_receives_ok N _ _ _ uj u6 u7) (by decide) (fun uk ul um un => ?_); have uo := Tch.ext (Ext.refl ub) um; obtain rfl := un.bool; exact L_nil (uf _ _ uo rfl)
            ·intro ua ub uc ud ue Q uf; have ug : ua 62 = vb (u6) := ud 4 62 (by kernel_rfl) (by kernel_rfl); exact mv ug (fin uf rfl)
            ·intro ua ub uc ud ue Q uf; have ug : ua 63 = vb (u6) := ud 5 63 (by kernel_rfl) (by kernel_rfl); exact gf 63 ug u9 (fin uf rfl)
            ·intro ua ub uc ud ue Q uf; have ug : ua 63 = vb (u6) := ud 5 63 (by kernel_rfl) (by kernel_rfl); exact gf 63 ug u9 (fin uf rfl)
            ·intro ua ub uc ud ue Q uf; have ug : ua 63 = vb (u6) := ud 5 63 (by kernel_rfl) (by kernel_rfl); exact gf 63 ug u9 (fin uf rfl)
            ·intro ua ub uc ud ue Q uf; have ug : ua 63 = vb (u6) := ud 5 63 (by kernel_rfl) (by kernel_rfl); exact gf 63 ug u9 (fin uf rfl)
            ·intro ua ub uc ud ue Q uf; have ug : ua 63 = vb (u6) := ud 5 63 (by kernel_rfl) (by kernel_rfl); exact gf 63 ug u9 (fin uf rfl)
            ·intro ua ub uc ud ue Q uf; have ug : ua 63 = vb (u6) := ud 5 63 (by kernel_rfl) (by kernel_rfl); exact gf 63 ug u9 (fin uf rfl)
            ·intro ua ub uc ud ue Q uf; have ug : ua 63 = vb (u6) := ud 5 63 (by kernel_rfl) (by kernel_rfl); exact gf 63 ug u9 (fin uf rfl)
            ·intro ua ub uc ud ue Q uf; have ug : ua 63 = vb (u6) := ud 5 63 (by kernel_rfl) (by kernel_rfl); exact pf ug u9 (rv (vb false)) (fin uf rfl)
            ·intro ua ub uc ud ue Q uf; have ug : ua 71 = vb (false) := ud 13 71 (by kernel_rfl) (by kernel_rfl); exact mv ug (fin uf rfl)
            ·intro ua ub uc ud ue Q uf; have ug : ua 72 = vb (false) := ud 14 72 (by kernel_rfl) (by kernel_rfl); exact gf 72 ug rfl (fin uf rfl)
            ·intro ua ub uc ud ue Q uf; have ug : ua 72 = vb (false) := ud 14 72 (by kernel_rfl) (by kernel_rfl); exact gf 72 ug rfl (fin uf rfl)
            ·intro ua ub uc ud ue Q uf; have ug : ua 72 = vb (false) := ud 14 72 (by kernel_rfl) (by kernel_rfl); exact gf 72 ug rfl (fin uf rfl)
            ·intro ua ub uc ud ue Q uf; have ug : ua 72 = vb (false) := ud 14 72 (by kernel_rfl) (by kernel_rfl); exact gf 72 ug rfl (fin uf rfl)
            ·intro ua ub uc ud ue Q uf; have ug : ua 72 = vb (false) := ud 14 72 (by kernel_rfl) (by kernel_rfl); exact gf 72 ug rfl (fin uf rfl)
            ·intro ua ub uc ud ue Q uf; have ug : ua 72 = vb (false) := ud 14 72 (by kernel_rfl) (by kernel_rfl); exact gf 72 ug rfl (fin uf rfl)
            ·intro ua ub uc ud ue Q uf; have ug : ua 72 = vb (false) := ud 14 72 (by kernel_rfl) (by kernel_rfl); exact gf 72 ug rfl (fin uf rfl)
            ·intro ua ub uc ud ue Q uf; have ug : ua 72 = vb (false) := ud 14 72 (by kernel_rfl) (by kernel_rfl); exact gf 72 ug rfl (fin uf rfl)
            ·intro ua ub uc ud ue Q uf; have ug : ua 72 = vb (false) := ud 14 72 (by kernel_rfl) (by kernel_rfl); exact gf 72 ug rfl (fin uf rfl)
            ·intro ua ub uc ud ue Q uf; have ug : ua 72 = vb (false) := ud 14 72 (by kernel_rfl) (by kernel_rfl); exact pf ug rfl (rv (vb false)) (fin uf rfl)
            ·intro ua ub uc ud ue Q uf; have ug : ua 82 = vb (false) := ud 24 82 (by kernel_rfl) (by kernel_rfl); exact mv ug (fin uf rfl)
            ·intro ua ub uc ud ue Q uf; have ug : ua 83 = vb (false) := ud 25 83 (by kernel_rfl) (by kernel_rfl); exact gf 83 ug rfl (fin uf rfl)
            ·intro ua ub uc ud ue Q uf; have ug : ua 83 = vb (false) := ud 25 83 (by kernel_rfl) (by kernel_rfl); exact gf 83 ug rfl (fin uf rfl)
            ·intro ua ub uc ud ue Q uf; have ug : ua 83 = vb (false) := ud 25 83 (by kernel_rfl) (by kernel_rfl); exact gf 83 ug rfl (fin uf rfl)
            ·intro ua ub uc ud ue Q uf; have ug : ua 83 = vb (false) := ud 25 83 (by kernel_rfl) (by kernel_rfl); exact gf 83 ug rfl (fin uf rfl)
            ·intro ua ub uc ud ue Q uf; have ug : ua 83 = vb (false) := ud 25 83 (by kernel_rfl) (by kernel_rfl); exact gf 83 ug rfl (fin uf rfl)
            ·intro ua ub uc ud ue Q uf; have ug : ua 83 = vb (false) := ud 25 83 (by kernel_rfl) (by kernel_rfl); exact gf 83 ug rfl (fin uf rfl)
            ·intro ua ub uc ud ue Q uf; have ug : ua 83 = vb (false) := ud 25 83 (by kernel_rfl) (by kernel_rfl); exact pf ug rfl (rv (vb false)) (fin uf rfl)
            ·intro ua ub uc ud ue; have uf := Tch.ext gn uc; have ug : ua 1 = vi (a1) := (ue 1 (by kernel_rfl)).trans gq; have uh : ua 2 = vi (a2) := (ue 2 (by kernel_rfl)).trans gr; have ui : ua 7 = j3 := (ue 7 (by kernel_rfl)).trans gs; have uj : ua 8 = ja := (ue 8 (by kernel_rfl)).trans gu; have uk : ua 9 = Value.slice (some ⟨jh, 0, none⟩) ((j1.length : Int)).toNat ((j1.length : Int)).toNat := (ue 9 (by kernel_rfl)).trans gv; have ul : ua 10 = vi (jq) := (ue 10 (by kernel_rfl)).trans gw; have um : ua 11 = vi (ky) := (ue 11 (by kernel_rfl)).trans gx; have un : ua 90 = vb (false) := ud 32 90 (by kernel_rfl); exact then_n ⟨ub, false, rfl, uf, uc.le, Option.some.inj hr, un, ug, uh, ui, uj, uk, ul, um, (gy).ext uc⟩
          ·rintro u4 u5 ⟨u6, u3, rfl, u7, u9, u1, ua, ub, uc, ud, ue, uf, ug, uh, ui⟩
           subst u1
           have hr := u2
           try dsimp only at hr
           refine W_cond _ ua (fun uj => ?_) (fun uj => ?_)
           ·have hr := ite_t uj hr; refine W_region (mv uf (mv ug (mv uh ?_))); obtain ⟨uk, ul, hr⟩ := bind_some hr; refine L_indexA (sz := 1) Try.underlying23 ty3.inf (rv (Value.slice (some ⟨jh, 0, none⟩) ((j1.length : Int)).toNat ((j1.length : Int)).toNat)) (rv (vi jq)) (idx_some ul).1 (by have := (idx_some ul).2.1; have := (ui).1; omega) (by decide) (L_storeA (xs := kz) ty3 (rv (Value.pointer (some ⟨jh, (jq).toNat * 1, none⟩))) (rv (vi ky)) Vint (ui) ul (fun um un uo => ?_)); have up := Tch.trans u7 un (fun k hk => Or.inr (by subst hk; exact (Nat.le_trans je.size jj))); refine L_nil (block_n (then_n (W_region (mv uh ?_)))); obtain ⟨uq, hr⟩ := chk_some hr; exact ad (rv (vi ky)) (rv (vi 1)) uq (asg (rv (vi (ky + 1))) (nn ⟨g0, Nat.lt_succ_self _, ⟨um, (ky + 1), (kz.set (jq).toNat ky), rfl, up, (g5.trans (go.trans (u9.trans un.le))), hr, rfl, ub, uc, ud, ue, uf, ug, uo⟩⟩))
           ·have hr := ite_f uj hr; refine W_skip (block_n (then_n (W_region (mv uh ?_)))); obtain ⟨uk, hr⟩ := chk_some hr; exact ad (rv (vi ky)) (rv (vi 1)) uk (asg (rv (vi (ky + 1))) (nn ⟨g0, Nat.lt_succ_self _, ⟨u6, (ky + 1), kz, rfl, u7, (g5.trans (go.trans u9)), hr, rfl, ub, uc, ud, ue, uf, ug, ui⟩⟩))
         ·have hr := ite_f gz hr; refine W_exit (then_x (then_x (block_here ?_))); exact then_n ⟨gm, kz, rfl, gn, (g5.trans go), Option.some.inj hr, gq, gr, gs, gu, gv, gw, gy⟩
      ·rintro ky kz ⟨g0, kx, rfl, g1, g2, kv, g3, g4, g5, g6, g7, g8, g9⟩; subst kv; have hr := kw; (try dsimp only at hr); refine block_n (then_n (W_region (mv g8 ?_))); obtain ⟨ga, hr⟩ := chk_some hr; exact ad (rv (vi jq)) (rv (vi 1)) ga (asg (rv (vi (jq + 1))) (nn ⟨js, Nat.lt_succ_self _, ⟨g0, (jq + 1), kx, rfl, g1, (jx.trans (k9.le.trans (kk.trans g2))), hr, rfl, g3, g4, g5, g6, g7, g9⟩⟩))
   ·have hr := ite_f k5 hr; refine W_exit (then_x (then_x (block_here ?_))); exact then_n ⟨jv, jr, rfl, jw, jx, Option.some.inj hr, k3, k4⟩
 ·rintro jq jr ⟨js, jp, rfl, jt, ju, jn, jv, jw⟩; subst jn; have hr := jo; (try dsimp only at hr); refine then_n (sr (mv jv (asg (rv (Value.slice (some ⟨jh, 0, none⟩) ((j1.length : Int)).toNat ((j1.length : Int)).toNat)) (nn (W_ret ?_))))); obtain rfl := Option.some.inj hr; obtain ⟨jx, jy, jz, k0⟩ := (jw).freeze; have k1 := Tch.trans jt jz (fun k hk => Or.inr (by subst hk; exact (Nat.le_trans je.size jj))); exact done1 (Or.inl rfl) Try.results83 rfl ⟨_, _, rfl, jy, k1, k0⟩

theorem ref08_Case_taken_ok (N : Nat) (s0 : St) (w0 : Value) (a0 : Case) (h0 : Ptr s0 w0 a0) (a1 : Int) (a2 : Int) (r : Bool) (hr : ref08_Case_taken N a0 a1 a2 = some r) :
    Calls Try.prog 67 #[w0, .int .i64 a1, .int .i64 a2] s0.w (Ret s0 fun v s => V s v r) := by
 unfold ref08_Case_taken at hr
 have j0 := Ext.refl s0
 refine Calls_of (n := 81) (args := [w0, .int .i64 a1, .int .i64 a2]) Try.func67 rfl rfl (by simp) (sr (asg (rv (vb false)) (nn (sr (mv (rv w0) (L_nilCheck_ptr (rv w0) h0 (by decide) (fa fld79_0 Case.of_C (rv w0) h0 (fun j1 j2 => ld ty22 (rv j1) j2 (fun j3 j4 => mv (rv (vi a1)) ?_)))))))))
 obtain ⟨j5, j6, hr⟩ := bind_some hr
 refine ix Try.underlying22 ty65.inf (rv j3) j4 (rv (vi a1)) j6 (fun j7 j8 => ld ty65 (rv j7) j8 (fun j9 ja => mv (rv (vi a2)) ?_))
 obtain ⟨jb, jc, hr⟩ := bind_some hr
 refine ix Try.underlying65 ty74.inf (rv j9) ja (rv (vi a2)) jc (fun jd je => ld ty74 (rv jd) je (fun jf jg => L_alloc (α := Deed) (x := ⟨0, 0, 0, 0, false⟩) zero74 Deed.zero_rel (by decide) (fun jh ji jj jk jl => ?_)))
 have jm := Tch.ext j0 jj
 refine L_store_ro ty74 (rv (Value.pointer (some ⟨ji, 0, none⟩))) (rv jf) (jg.mono jj.le) (jl) (fun jn jo jp => ?_)
 have jq := Tch.trans jm jo (fun k hk => Or.inr (by subst hk; exact (Nat.le_trans j0.size jk)))
 refine nn (sr (mv (rv w0) (mv (rv (vi a1)) (fa fld74_1 Deed.of_Peer (rv (Value.pointer (some ⟨ji, 0, none⟩))) jp (fun jr js => li ty3 (rv jr) js ?_)))))
 obtain ⟨jt, ju, hr⟩ := bind_some hr
 refine L_calls cal83 (args3 (rv w0) (rv (vi a1)) (rv (vi (jb.Peer)))) (ref08_Case_partners_ok N _ _ _ (h0.mono (jj.le.trans jo.le)) a1 jb.Peer jt ju) (by decide) (fun jv jw jx jy => ?_)
 have jz := Tch.ext jq jx
 refine asg (rv jv) (nn (W_seq (sr (mv (rv jv) (mv (rv (vi a2)) ?_)))))
 obtain ⟨k0, k1, hr⟩ := bind_some hr
 refine ix Try.underlying23 ty3.inf (rv jv) jy (rv (vi a2)) k1 (fun k2 k3 => li ty3 (rv k2) k3 (L_geq (rv (vi k0)) (rv (vi 0)) (by decide) (nn ?_)))
 refine W_cond _ (rv (vb (decide (0 ≤ k0)))) (fun k4 => ?_) (fun k4 => ?_)
 ·have hr := ite_t k4 hr; refine sr (asg (rv (vb true)) (nn (W_ret (then_r ?_)))); obtain rfl := Option.some.inj hr; exact done1 (Or.inl rfl) Try.results67 rfl ⟨_, _, rfl, rfl, jz, Vbool⟩
 ·have hr := ite_f k4 hr
  refine W_skip (then_n (sr (asg (rv (vi 0)) (nn (W_seq (sr (asg (rv (vi 0)) (nn ?_))))))))
  obtain ⟨k5, k6, k7⟩ := bind_some hr
  refine W_cut (fun f w => ∃ (s : St) (k8 : Int), s.w = w ∧ Ext s0 s ∧ Le jw s ∧ k8 = k5 ∧ f 9 = vi k8 ∧ f 0 = w0 ∧ f 7 = Value.pointer (some ⟨ji, 0, none⟩)) ?_ ?_
  ·refine W_block (W_loop (fun m f w => ∃ (s : St) (k9 : Int) (ka : Int), s.w = w ∧ Ext s0 s ∧ Le jw s ∧ ref08_Case_taken_l1 N a0 a1 a2 jb jt m k9 ka = some k5 ∧ f 9 = vi k9 ∧ f 10 = vi ka ∧ f 0 = w0 ∧ f 1 = vi (a1) ∧ f 2 = vi (a2) ∧ f 7 = Value.pointer (some ⟨ji, 0, none⟩) ∧ f 8 = jv) N ⟨jw, 0, 0, rfl, jz, (Le.refl _), k6, rfl, rfl, rfl, rfl, rfl, rfl, rfl⟩ ?_)
   rintro kb kc kd ⟨ke, k9, ka, rfl, kf, kg, hr, kh, ki, kj, kk, kl, km, kn⟩
   cases kb with
   | zero => exact absurd hr (by simp [ref08_Case_taken_l1])
   | succ kb =>
    rw [ref08_Case_taken_l1.eq_2] at hr
    refine W_seq (sr (mv ki (mv kl (ls (rv (vi ka)) (rv (vi a2)) (nn ?_)))))
    refine W_cond _ (rv (vb (decide (ka < a2)))) (fun ko => ?_) (fun ko => ?_)
    ·have hr := ite_t ko hr
     refine W_skip (then_n (W_seq (W_block (sr (mv kj (L_nilCheck_ptr (rv w0) (h0.mono (jj.le.trans (jo.le.trans (jx.le.trans kg)))) (by decide) (fa fld79_0 Case.of_C (rv w0) (h0.mono (jj.le.trans (jo.le.trans (jx.le.trans kg)))) (fun kp kq => ld ty22 (rv kp) kq (fun kr ks => mv kk ?_)))))))))
     obtain ⟨kt, ku, hr⟩ := bind_some hr
     refine ix Try.underlying22 ty65.inf (rv kr) ks (rv (vi a1)) ku (fun kv kw => ld ty65 (rv kv) kw (fun kx ky => mv ki ?_))
     obtain ⟨kz, g0, hr⟩ := bind_some hr
     refine ix Try.underlying65 ty74.inf (rv kx) ky (rv (vi ka)) g0 (fun g1 g2 => ld ty74 (rv g1) g2 (fun g3 g4 => L_alloc (α := Deed) (x := ⟨0, 0, 0, 0, false⟩) zero74 Deed.zero_rel (by decide) (fun g5 g6 g7 g8 g9 => ?_)))
     have ga := Tch.ext kf g7
     refine L_store_ro ty74 (rv (Value.pointer (some ⟨g6, 0, none⟩))) (rv g3) (g4.mono g7.le) (g9) (fun gb gc gd => ?_)
     have gg := Tch.trans ga gc (fun k hk => Or.inr (by subst hk; exact (Nat.le_trans kf.size g8)))
     refine nn ?_
     obtain ⟨gh, gi, gj⟩ := bind_some hr
     refine W_seq_cut (fun f w => ∃ (s : St) (gk : Bool), s.w = w ∧ Ext s0 s ∧ Le gb s ∧ gk = gh ∧ f 67 = vb gk ∧ f 0 = w0 ∧ f 1 = vi (a1) ∧ f 2 = vi (a2) ∧ f 7 = Value.pointer (some ⟨ji, 0, none⟩) ∧ f 8 = jv ∧ f 9 = vi (k9) ∧ f 10 = vi (ka)) ?_ ?_
     ·have hr := gi
      refine W_region (ld ty74 (rv (Value.pointer (some ⟨g6, 0, none⟩))) gd (fun gl gm => ?_))
      obtain ⟨gn, go, hr⟩ := bind_some hr
      refine L_calls cal44 (args1 (rv gl)) (ref08_sends_ok N _ _ _ gm gn go) (by decide) (fun gp gq gr gs => ?_)
      have gu := Tch.ext gg gr
      obtain rfl := gs.bool
      refine mv (rv (vb gn)) ?_
      rcases tf (gn) with gv | gv
      ·have hr := ite_t gv hr
       refine gt 49 (rv (vb gn)) gv (fa fld74_1 Deed.of_Peer (rv (Value.pointer (some ⟨g6, 0, none⟩))) (gd.mono gr.le) (fun gw gx => gt 49 (rv (vb gn)) gv (li ty3 (rv gw) gx (gt 49 (rv (vb gn)) gv (fa fld74_1 Deed.of_Peer km (jp.mono (jx.le.trans (kg.trans (g7.le.trans (gc.le.trans gr.le))))) (fun gy gz => gt 49 (rv (vb gn)) gv (li ty3 (rv gy) gz (gt 49 (rv (vb gn)) gv (el (rv (vi (kz.Peer))) (rv (vi (jb.Peer))) (pt (rv (vb gn)) gv (rv (vb (decide (kz.Peer = jb.Peer)))) (mv (rv (vb (decide (kz.Peer = jb.Peer)))) ?_)))))))))))
       rcases tf (decide (kz.Peer = jb.Peer)) with u0 | u0
       ·have hr := ite_t u0 hr
        refine gt 56 (rv (vb (decide (kz.Peer = jb.Peer)))) u0 (fa fld74_4 Deed.of_Sync (rv (Value.pointer (some ⟨g6, 0, none⟩))) (gd.mono gr.le) (fun u1 u2 => gt 56 (rv (vb (decide (kz.Peer = jb.Peer)))) u0 (L_load_bool ty4 (rv u1) u2 (by decide) (gt 56 (rv (vb (decide (kz.Peer = jb.Peer)))) u0 (L_not (rv (vb (kz.Sync))) (by decide) (pt (rv (vb (decide (kz.Peer = jb.Peer)))) u0 (rv (vb (!kz.Sync))) (mv (rv (vb (!kz.Sync))) ?_)))))))
        rcases tf (!kz.Sync) with u3 | u3
        ·have hr := ite_t u3 hr; refine gt 61 (rv (vb (!kz.Sync))) u3 (mv kn (gt 61 (rv (vb (!kz.Sync))) u3 (mv ki (gt 61 (rv (vb (!kz.Sync))) u3 ?_)))); obtain ⟨u4, u5, hr⟩ := bind_some hr; exact ix Try.underlying23 ty3.inf (rv jv) (jy.mono (kg.trans (g7.le.trans (gc.le.trans gr.le)))) (rv (vi ka)) u5 (fun u6 u7 => gt 61 (rv (vb (!kz.Sync))) u3 (li ty3 (rv u6) u7 (gt 61 (rv (vb (!kz.Sync))) u3 (ls (rv (vi u4)) (rv (vi 0)) (pt (rv (vb (!kz.Sync))) u3 (rv (vb (decide (u4 < 0)))) (nn ⟨gq, (decide (u4 < 0)), rfl, gu, gr.le, Option.some.inj hr, rfl, kj, kk, kl, km, kn, kh, ki⟩))))))
        ·have hr := ite_f u3 hr; exact gf 61 (rv (vb (!kz.Sync))) u3 (gf 61 (rv (vb (!kz.Sync))) u3 (gf 61 (rv (vb (!kz.Sync))) u3 (gf 61 (rv (vb (!kz.Sync))) u3 (gf 61 (rv (vb (!kz.Sync))) u3 (pf (rv (vb (!kz.Sync))) u3 (rv (vb false)) (nn ⟨gq, false, rfl, gu, gr.le, Option.some.inj hr, rfl, kj, kk, kl, km, kn, kh, ki⟩))))))
       ·have hr := ite_f u0 hr; exact gf 56 (rv (vb (decide (kz.Peer = jb.Peer)))) u0 (gf 56 (rv (vb (decide (kz.Peer = jb.Peer)))) u0 (gf 56 (rv (vb (decide (kz.Peer = jb.Peer)))) u0 (pf (rv (vb (decide (kz.Peer = jb.Peer)))) u0 (rv (vb false)) (mv (rv (vb false)) (gf 61 (rv (vb false)) rfl (gf 61 (rv (vb false)) rfl (gf 61 (rv (vb false)) rfl (gf 61 (rv (vb false)) rfl (gf 61 (rv (vb false)) rfl (pf (rv (vb false)) rfl (rv (vb false)) (nn ⟨gq, false, rfl, gu, gr.le, Option.some.inj hr, rfl, kj, kk, kl, km, kn, kh, ki⟩)))))))))))
      ·have hr := ite_f gv hr; refine gf 49 (rv (vb gn)) gv (gf 49 (rv (vb gn)) gv (gf 49 (rv (vb gn)) gv (gf 49 (rv (vb gn)) gv (gf 49 (rv (vb gn)) gv (pf (rv (vb gn)) gv (rv (vb false)) (mv (rv (vb false)) (gf 56 (rv (vb false)) rfl (gf 56 (rv (vb false)) rfl (gf 56 (rv (vb false)) rfl (pf (rv (vb false)) rfl (rv (vb false)) (mv (rv (vb false)) (gf 61 (rv (vb false)) rfl (gf 61 (rv (vb false)) rfl ?_))))))))))))); exact gf 61 (rv (vb false)) rfl (gf 61 (rv (vb false)) rfl (gf 61 (rv (vb false)) rfl (pf (rv (vb false)) rfl (rv (vb false)) (nn ⟨gq, false, rfl, gu, gr.le, Option.some.inj hr, rfl, kj, kk, kl, km, kn, kh, ki⟩))))
     ·rintro gl gm ⟨gn, gk, rfl, go, gp, gi, gq, gr, gs, gu, gv, gw, gx, gy⟩
      subst gi
      have hr := gj
      try dsimp only at hr
      refine W_cond _ gq (fun gz => ?_) (fun gz => ?_)
      ·have hr := ite_t gz hr; refine W_region (mv gx ?_); obtain ⟨u0, hr⟩ := chk_some hr; refine ad (rv (vi k9)) (rv (vi 1)) u0 (asg (rv (vi (k9 + 1))) (L_nil (block_n (then_n (W_region (mv gy ?_)))))); obtain ⟨u1, hr⟩ := chk_some hr; exact ad (rv (vi ka)) (rv (vi 1)) u1 (asg (rv (vi (ka + 1))) (nn ⟨kb, Nat.lt_succ_self _, ⟨gn, (k9 + 1), (ka + 1), rfl, go, (kg.trans (g7.le.trans (gc.le.trans gp))), hr, rfl, rfl, gr, gs, gu, gv, gw⟩⟩))
      ·have hr := ite_f gz hr; refine W_skip (block_n (then_n (W_region (mv gy ?_)))); obtain ⟨u0, hr⟩ := chk_some hr; exact ad (rv (vi ka)) (rv (vi 1)) u0 (asg (rv (vi (ka + 1))) (nn ⟨kb, Nat.lt_succ_self _, ⟨gn, k9, (ka + 1), rfl, go, (kg.trans (g7.le.trans (gc.le.trans gp))), hr, gx, rfl, gr, gs, gu, gv, gw⟩⟩))
    ·have hr := ite_f ko hr; refine W_exit (then_x (then_x (block_here ?_))); exact then_n ⟨ke, k9, rfl, kf, kg, Option.some.inj hr, kh, kj, km⟩
  ·rintro k9 ka ⟨kb, k8, rfl, kc, kd, k6, ke, kf, kg⟩
   subst k6
   have hr := k7
   try dsimp only at hr
   refine then_n (sr (fa fld74_4 Deed.of_Sync kg (jp.mono (jx.le.trans kd)) (fun kh ki => L_load_bool ty4 (rv kh) ki (by decide) (L_not (rv (vb (jb.Sync))) (by decide) (mv (rv (vb (!jb.Sync))) ?_)))))
   rcases tf (!jb.Sync) with kj | kj
   ·have hr := ite_t kj hr; refine gt 73 (rv (vb (!jb.Sync))) kj (mv ke (gt 73 (rv (vb (!jb.Sync))) kj (mv kf (gt 73 (rv (vb (!jb.Sync))) kj (L_nilCheck_ptr (rv w0) (h0.mono (jj.le.trans (jo.le.trans (jx.le.trans kd)))) (by decide) (gt 73 (rv (vb (!jb.Sync))) kj (fa fld79_1 Case.of_Room (rv w0) (h0.mono (jj.le.trans (jo.le.trans (jx.le.trans kd)))) (fun kk kl => gt 73 (rv (vb (!jb.Sync))) kj (li ty3 (rv kk) kl (gt 73 (rv (vb (!jb.Sync))) kj (ls (rv (vi k8)) (rv (vi (a0.Room))) (pt (rv (vb (!jb.Sync))) kj (rv (vb (decide (k8 < a0.Room)))) (asg (rv (vb (decide (k8 < a0.Room)))) ?_))))))))))))); refine nn (W_ret ?_); obtain rfl := Option.some.inj hr; exact done1 (Or.inl rfl) Try.results67 rfl ⟨_, _, rfl, rfl, kc, Vbool⟩
   ·have hr := ite_f kj hr; refine gf 73 (rv (vb (!jb.Sync))) kj (gf 73 (rv (vb (!jb.Sync))) kj (gf 73 (rv (vb (!jb.Sync))) kj (gf 73 (rv (vb (!jb.Sync))) kj (gf 73 (rv (vb (!jb.Sync))) kj (gf 73 (rv (vb (!jb.Sync))) kj (pf (rv (vb (!jb.Sync))) kj (rv (vb false)) (asg (rv (vb false)) (nn (W_ret ?_))))))))); obtain rfl := Option.some.inj hr; exact done1 (Or.inl rfl) Try.results67 rfl ⟨_, _, rfl, rfl, kc, Vbool⟩

theorem ref08_Case_received_ok (N : Nat) (s0 : St) (w0 : Value) (a0 : Case) (h0 : Ptr s0 w0 a0) (a1 : Int) (a2 : Int) (r : Bool) (hr : ref08_Case_received N a0 a1 a2 = some r) :
    Calls Try.prog 68 #[w0, .int .i64 a1, .int .i64 a2] s0.w (Ret s0 fun v s => V s v r) := by
 unfold ref08_Case_received at hr
 have j0 := Ext.refl s0
 refine Calls_of (n := 24) (args := [w0, .int .i64 a1, .int .i64 a2]) Try.func68 rfl rfl (by simp) (sr (asg (rv (vb false)) (nn (sr (mv (rv w0) (mv (rv w0) (L_nilCheck_ptr (rv w0) h0 (by decide) (fa fld79_0 Case.of_C (rv w0) h0 (fun j1 j2 => ld ty22 (rv j1) j2 (fun j3 j4 => mv (rv (vi a1)) ?_))))))))))
 obtain ⟨j5, j6, hr⟩ := bind_some hr
 refine ix Try.underlying22 ty65.inf (rv j3) j4 (rv (vi a1)) j6 (fun j7 j8 => ld ty65 (rv j7) j8 (fun j9 ja => mv (rv (vi a2)) ?_))
 obtain ⟨jb, jc, hr⟩ := bind_some hr
 refine ix Try.underlying65 ty74.inf (rv j9) ja (rv (vi a2)) jc (fun jd je => fa fld74_1 Deed.of_Peer (rv jd) je (fun jf jg => li ty3 (rv jf) jg (mv (rv (vi a1)) ?_)))
 obtain ⟨jh, ji, hr⟩ := bind_some hr
 refine L_calls cal83 (args3 (rv w0) (rv (vi (jb.Peer))) (rv (vi a1))) (ref08_Case_partners_ok N _ _ _ h0 jb.Peer a1 jh ji) (by decide) (fun jj jk jl jm => ?_)
 have jn := Tch.ext j0 jl
 refine mv (rv (vi a2)) ?_
 obtain ⟨jo, jp, hr⟩ := bind_some hr
 refine L_calls cal46 (args2 (rv jj) (rv (vi a2))) (ref02_Index_ok N _ _ _ jm a2 jo jp) (by decide) (fun jq jr js jt => ?_)
 have ju := Tch.ext jn js
 obtain rfl := jt.int
 refine L_geq (rv (vi jo)) (rv (vi 0)) (by decide) (asg (rv (vb (decide (0 ≤ jo)))) (nn (W_ret ?_)))
 obtain rfl := Option.some.inj hr
 exact done1 (Or.inl rfl) Try.results68 rfl ⟨_, _, rfl, rfl, ju, Vbool⟩

theorem ref08_Case_meets_ok (N : Nat) (s0 : St) (w0 : Value) (a0 : Case) (h0 : Ptr s0 w0 a0) (a1 : Int) (r : Int) (hr : ref08_Case_meets N a0 a1 = some r) :
    Calls Try.prog 69 #[w0, .int .i64 a1] s0.w (Ret s0 fun v s => V s v r) := by
 unfold ref08_Case_meets at hr
 have j0 := Ext.refl s0
 refine Calls_of (n := 26) (args := [w0, .int .i64 a1]) Try.func69 rfl rfl (by simp) (sr (asg (rv (vi 0)) (nn (sr (asg (rv (vi 0)) (nn (sr (mv (rv w0) (mv (rv (vi a1)) ?_)))))))))
 obtain ⟨j1, j2, hr⟩ := bind_some hr
 refine L_calls cal84 (args2 (rv w0) (rv (vi a1))) (ref08_Case_begun_ok N _ _ _ h0 a1 j1 j2) (by decide) (fun j3 j4 j5 j6 => ?_)
 have j7 := Tch.ext j0 j5
 refine asg (rv j3) (nn (W_seq (sr (asg (rv (vi 0)) (nn ?_)))))
 obtain ⟨j8, j9, ja⟩ := bind_some hr
 refine W_cut (fun f w => ∃ (s : St) (jb : Int), s.w = w ∧ Ext s0 s ∧ Le j4 s ∧ jb = j8 ∧ f 5 = vi jb) ?_ ?_
 ·refine W_block (W_loop (fun m f w => ∃ (s : St) (jc : Int) (jd : Int), s.w = w ∧ Ext s0 s ∧ Le j4 s ∧ ref08_Case_meets_l1 N j1 m jc jd = some j8 ∧ f 5 = vi jc ∧ f 7 = vi jd ∧ f 6 = j3) N ⟨j4, 0, 0, rfl, j7, (Le.refl _), j9, rfl, rfl, rfl⟩ ?_)
  rintro je jf jg ⟨jh, jc, jd, rfl, ji, jj, hr, jk, jl, jm⟩
  cases je with
  | zero => exact absurd hr (by simp [ref08_Case_meets_l1])
  | succ je =>
   rw [ref08_Case_meets_l1.eq_2] at hr
   refine W_seq (sr (mv jl (mv jm (ln Try.underlying65 (rv j3) (j6.mono jj) (ls (rv (vi jd)) (rv (vi ((j1.length : Int)))) (nn ?_))))))
   refine W_cond _ (rv (vb (decide (jd < (j1.length : Int))))) (fun jn => ?_) (fun jn => ?_)
   ·have hr := ite_t jn hr
    refine W_skip (then_n (W_seq (W_block (sr (mv jm (mv jl ?_))))))
    obtain ⟨jo, jp, hr⟩ := bind_some hr
    refine ix Try.underlying65 ty74.inf (rv j3) (j6.mono jj) (rv (vi jd)) jp (fun jq jr => fa fld74_0 Deed.of_Kind (rv jq) jr (fun js jt => li ty3 (rv js) jt (el (rv (vi (jo.Kind))) (rv (vi 6)) (nn ?_))))
    refine W_cond _ (rv (vb (decide (jo.Kind = 6)))) (fun ju => ?_) (fun ju => ?_)
    ·have hr := ite_t ju hr; refine W_region (mv jk ?_); obtain ⟨jv, hr⟩ := chk_some hr; refine ad (rv (vi jc)) (rv (vi 1)) jv (asg (rv (vi (jc + 1))) (L_nil (block_n (then_n (W_region (mv jl ?_)))))); obtain ⟨jw, hr⟩ := chk_some hr; exact ad (rv (vi jd)) (rv (vi 1)) jw (asg (rv (vi (jd + 1))) (nn ⟨je, Nat.lt_succ_self _, ⟨jh, (jc + 1), (jd + 1), rfl, ji, jj, hr, rfl, rfl, jm⟩⟩))
    ·have hr := ite_f ju hr; refine W_skip (block_n (then_n (W_region (mv jl ?_)))); obtain ⟨jv, hr⟩ := chk_some hr; exact ad (rv (vi jd)) (rv (vi 1)) jv (asg (rv (vi (jd + 1))) (nn ⟨je, Nat.lt_succ_self _, ⟨jh, jc, (jd + 1), rfl, ji, jj, hr, jk, rfl, jm⟩⟩))
   ·have hr := ite_f jn hr; refine W_exit (then_x (then_x (block_here ?_))); exact then_n ⟨jh, jc, rfl, ji, jj, Option.some.inj hr, jk⟩
 ·rintro jc jd ⟨je, jb, rfl, jf, jg, j9, jh⟩; subst j9; have hr := ja; (try dsimp only at hr); refine then_n (sr (mv jh (asg (rv (vi jb)) (nn (W_ret ?_))))); obtain rfl := Option.some.inj hr; exact done1 (Or.inl rfl) Try.results69 rfl ⟨_, _, rfl, rfl, jf, Vint⟩

theorem ref08_Case_can_ok (N : Nat) (s0 : St) (w0 : Value) (a0 : Case) (h0 : Ptr s0 w0 a0) (a1 : Int) (r : Bool) (hr : ref08_Case_can N a0 a1 = some r) :
    Calls Try.prog 35 #[w0, .int .i64 a1] s0.w (Ret s0 fun v s => V s v r) := by
 unfold ref08_Case_can at hr
 have j0 := Ext.refl s0
 refine Calls_of (n := 99) (args := [w0, .int .i64 a1]) Try.func35 rfl rfl (by simp) (sr (asg (rv (vb false)) (nn (sr (mv (rv w0) (L_nilCheck_ptr (rv w0) h0 (by decide) (fa fld79_2 Case.of_At (rv w0) h0 (fun j1 j2 => ld ty23 (rv j1) j2 (fun j3 j4 => mv (rv (vi a1)) ?_)))))))))
 obtain ⟨j5, j6, hr⟩ := bind_some hr
 refine ix Try.underlying23 ty3.inf (rv j3) j4 (rv (vi a1)) j6 (fun j7 j8 => li ty3 (rv j7) j8 (asg (rv (vi j5)) (nn (W_seq (sr (mv (rv (vi j5)) (mv (rv w0) (L_nilCheck_ptr (rv w0) h0 (by decide) (fa fld79_0 Case.of_C (rv w0) h0 (fun j9 ja => ld ty22 (rv j9) ja (fun jb jc => mv (rv (vi a1)) ?_)))))))))))
 obtain ⟨jd, je, hr⟩ := bind_some hr
 refine ix Try.underlying22 ty65.inf (rv jb) jc (rv (vi a1)) je (fun jf jg => ld ty65 (rv jf) jg (fun jh ji => ln Try.underlying65 (rv jh) ji (el (rv (vi j5)) (rv (vi ((jd.length : Int)))) (nn ?_))))
 refine W_cond _ (rv (vb (decide (j5 = (jd.length : Int))))) (fun jj => ?_) (fun jj => ?_)
 ·have hr := ite_t jj hr; refine sr (asg (rv (vb false)) (nn (W_ret (then_r ?_)))); obtain rfl := Option.some.inj hr; exact done1 (Or.inl rfl) Try.results35 rfl ⟨_, _, rfl, rfl, j0, Vbool⟩
 ·have hr := ite_f jj hr
  refine W_skip (then_n (sr (mv (rv w0) (L_nilCheck_ptr (rv w0) h0 (by decide) (fa fld79_0 Case.of_C (rv w0) h0 (fun jk jl => ld ty22 (rv jk) jl (fun jm jn => mv (rv (vi a1)) ?_)))))))
  obtain ⟨jo, jp, hr⟩ := bind_some hr
  refine ix Try.underlying22 ty65.inf (rv jm) jn (rv (vi a1)) jp (fun jq jr => ld ty65 (rv jq) jr (fun js jt => mv (rv (vi j5)) ?_))
  obtain ⟨ju, jv, hr⟩ := bind_some hr
  refine ix Try.underlying65 ty74.inf (rv js) jt (rv (vi j5)) jv (fun jw jx => ld ty74 (rv jw) jx (fun jy jz => L_alloc (α := Deed) (x := ⟨0, 0, 0, 0, false⟩) zero74 Deed.zero_rel (by decide) (fun k0 k1 k2 k3 k4 => ?_)))
  have k5 := Tch.ext j0 k2
  refine L_store_ro ty74 (rv (Value.pointer (some ⟨k1, 0, none⟩))) (rv jy) (jz.mono k2.le) (k4) (fun k6 k7 k8 => ?_)
  have k9 := Tch.trans k5 k7 (fun k hk => Or.inr (by subst hk; exact (Nat.le_trans j0.size k3)))
  refine nn (W_seq (sr (fa fld74_0 Deed.of_Kind (rv (Value.pointer (some ⟨k1, 0, none⟩))) k8 (fun ka kb => li ty3 (rv ka) kb (el (rv (vi (ju.Kind))) (rv (vi 5)) (nn ?_))))))
  refine W_cond _ (rv (vb (decide (ju.Kind = 5)))) (fun kc => ?_) (fun kc => ?_)
  ·have hr := ite_t kc hr
   refine W_seq ?_
   obtain ⟨kd, ke, hr⟩ := bind_some hr
   obtain ⟨kf, kg, hr⟩ := bind_some hr
   refine W_draws mixed (by kernel_rfl) [PV.ptr (a0 : Case), PV.ptr (a0 : Case), PV.ptr (a0.C : List (List Deed)), PV.data (a0.C : List (List Deed)), PV.eq (vi a1), PV.ptr (kd : List Deed), PV.data (kd : List Deed), PV.ptr (ju.Req : Int), PV.eq (vi (ju.Req)), PV.eq (vi kf), PV.eq (vi kf)] (Steps_cons ?_ (Steps_cons ?_ (Steps_cons ?_ (Steps_cons ?_ (Steps_cons ?_ (Steps_cons ?_ (Steps_cons ?_ (Steps_cons ?_ (Steps_cons ?_ (Steps_cons ?_ (Steps_cons ?_ Steps_nil))))))))))) ?_
   ·intro kh ki kj kk kl Q km; have kn : kh 0 = w0 := (kl 0 (by kernel_rfl)).trans rfl; exact mv kn (fin km (h0.mono (k2.le.trans (k7.le.trans kj.le))))
   ·intro kh ki kj kk kl Q km; have kn : Ptr _ (kh 38) (a0 : Case) := kk 0 38 (by kernel_rfl) (by kernel_rfl); obtain ⟨ko, kp, kq⟩ : ∃ v, _ = v ∧ Ptr _ v _ := ⟨_, rfl, kn⟩; exact L_nilCheck_ptr kp kq (by decide) (fin km kq)
   ·intro kh ki kj kk kl Q km; have kn : Ptr _ (kh 39) (a0 : Case) := kk 1 39 (by kernel_rfl) (by kernel_rfl); obtain ⟨ko, kp, kq⟩ : ∃ v, _ = v ∧ Ptr _ v _ := ⟨_, rfl, kn⟩; exact fa fld79_0 Case.of_C kp kq (fun kr ks => fin km ks)
   ·intro kh ki kj kk kl Q km; have kn : Ptr _ (kh 40) (a0.C : List (List Deed)) := kk 2 40 (by kernel_rfl) (by kernel_rfl); obtain ⟨ko, kp, kq⟩ : ∃ v, _ = v ∧ Ptr _ v _ := ⟨_, rfl, kn⟩; exact ld ty22 kp kq (fun kr ks => fin km ks)
   ·intro kh ki kj kk kl Q km; have kn : kh 1 = vi (a1) := (kl 1 (by kernel_rfl)).trans rfl; exact mv kn (fin km rfl)
   ·intro kh ki kj kk kl Q km; have kn : V _ (kh 41) (a0.C : List (List Deed)) := kk 3 41 (by kernel_rfl) (by kernel_rfl); obtain ⟨ko, kp, kq⟩ : ∃ v, _ = v ∧ V _ v _ := ⟨_, rfl, kn⟩; have kr : kh 42 = vi (a1) := kk 4 42 (by kernel_rfl) (by kernel_rfl); exact ix Try.underlying22 ty65.inf kp kq kr ke (fun ks kt => fin km kt)
   ·intro kh ki kj kk kl Q km; have kn : Ptr _ (kh 43) (kd : List Deed) := kk 5 43 (by kernel_rfl) (by kernel_rfl); obtain ⟨ko, kp, kq⟩ : ∃ v, _ = v ∧ Ptr _ v _ := ⟨_, rfl, kn⟩; exact ld ty65 kp kq (fun kr ks => fin km ks)
   ·intro kh ki kj kk kl Q km; have kn : kh 6 = Value.pointer (some ⟨k1, 0, none⟩) := (kl 6 (by kernel_rfl)).trans rfl; exact fa fld74_3 Deed.of_Req kn (k8.mono kj.le) (fun ko kp => fin km kp)
   ·intro kh ki kj kk kl Q km; have kn : Ptr _ (kh 45) (ju.Req : Int) := kk 7 45 (by kernel_rfl) (by kernel_rfl); obtain ⟨ko, kp, kq⟩ : ∃ v, _ = v ∧ Ptr _ v _ := ⟨_, rfl, kn⟩; exact li ty3 kp kq (fin km rfl)
   ·intro kh ki kj kk kl Q km; have kn : V _ (kh 44) (kd : List Deed) := kk 6 44 (by kernel_rfl) (by kernel_rfl); obtain ⟨ko, kp, kq⟩ : ∃ v, _ = v ∧ V _ v _ := ⟨_, rfl, kn⟩; have kr : kh 46 = vi (ju.Req) := kk 8 46 (by kernel_rfl) (by kernel_rfl); refine L_calls cal66 (args2 kp kr) (ref08_request_ok N _ _ _ kq ju.Req kf kg) (by decide) (fun ks kt ku kv => ?_); have kw := Tch.ext (Ext.refl ki) ku; obtain rfl := kv.int; exact L_nil (km _ _ kw rfl)
   ·intro kh ki kj kk kl Q km; have kn : kh 47 = vi (kf) := kk 9 47 (by kernel_rfl) (by kernel_rfl); exact asg kn (fin km rfl)
   ·intro kh ki kj kk kl
    have km := Tch.ext k9 kj
    have kn : kh 0 = w0 := (kl 0 (by kernel_rfl)).trans rfl
    have ko : kh 1 = vi (a1) := (kl 1 (by kernel_rfl)).trans rfl
    have kp : kh 5 = vi (kf) := kk 10 5 (by kernel_rfl)
    refine then_n (W_seq (sr (mv kn (L_nilCheck_ptr (rv w0) (h0.mono (k2.le.trans (k7.le.trans kj.le))) (by decide) (fa fld79_0 Case.of_C (rv w0) (h0.mono (k2.le.trans (k7.le.trans kj.le))) (fun kq kr => ld ty22 (rv kq) kr (fun ks kt => mv ko ?_)))))))
    obtain ⟨ku, kv, hr⟩ := bind_some hr
    refine ix Try.underlying22 ty65.inf (rv ks) kt (rv (vi a1)) kv (fun kw kx => ld ty65 (rv kw) kx (fun ky kz => mv kp ?_))
    obtain ⟨g0, g1, hr⟩ := bind_some hr
    refine ix Try.underlying65 ty74.inf (rv ky) kz (rv (vi kf)) g1 (fun g2 g3 => ld ty74 (rv g2) g3 (fun g4 g5 => ?_))
    obtain ⟨g6, g7, hr⟩ := bind_some hr
    refine L_calls cal44 (args1 (rv g4)) (ref08_sends_ok N _ _ _ g5 g6 g7) (by decide) (fun g8 g9 ga gb => ?_)
    have gc := Tch.ext km ga
    obtain rfl := gb.bool
    refine nn ?_
    refine W_cond _ (rv (vb g6)) (fun gd => ?_) (fun gd => ?_)
    ·have hr := ite_t gd hr; refine sr (mv kn (mv ko (mv kp ?_))); obtain ⟨gg, gh, hr⟩ := bind_some hr; refine L_calls cal67 (args3 (rv w0) (rv (vi a1)) (rv (vi kf))) (ref08_Case_taken_ok N _ _ _ (h0.mono (k2.le.trans (k7.le.trans (kj.le.trans ga.le)))) a1 kf gg gh) (by decide) (fun gi gj gk gl => ?_); have gm := Tch.ext gc gk; obtain rfl := gl.bool; refine asg (rv (vb gg)) (nn (W_ret (then_r (then_r ?_)))); obtain rfl := Option.some.inj hr; exact done1 (Or.inl rfl) Try.results35 rfl ⟨_, _, rfl, rfl, gm, Vbool⟩
    ·have hr := ite_f gd hr; refine W_skip (then_n (sr (mv kn (mv ko (mv kp ?_))))); obtain ⟨gg, gh, hr⟩ := bind_some hr; refine L_calls cal68 (args3 (rv w0) (rv (vi a1)) (rv (vi kf))) (ref08_Case_received_ok N _ _ _ (h0.mono (k2.le.trans (k7.le.trans (kj.le.trans ga.le)))) a1 kf gg gh) (by decide) (fun gi gj gk gl => ?_); have gm := Tch.ext gc gk; obtain rfl := gl.bool; refine asg (rv (vb gg)) (nn (W_ret (then_r ?_))); obtain rfl := Option.some.inj hr; exact done1 (Or.inl rfl) Try.results35 rfl ⟨_, _, rfl, rfl, gm, Vbool⟩
  ·have hr := ite_f kc hr
   refine W_skip (then_n (W_seq (sr (fa fld74_0 Deed.of_Kind (rv (Value.pointer (some ⟨k1, 0, none⟩))) k8 (fun kd ke => li ty3 (rv kd) ke (nn (W_block (sr (el (rv (vi (ju.Kind))) (rv (vi 1)) (asg (rv (vb (decide (ju.Kind = 1)))) (nn ?_)))))))))))
   refine W_cond _ (rv (vb (decide (ju.Kind = 1)))) (fun kf => ?_) (fun kf => ?_)
   ·have hr := ite_t kf hr; refine sr (mv (rv w0) (mv (rv (vi a1)) (mv (rv (vi j5)) ?_))); obtain ⟨kg, kh, hr⟩ := bind_some hr; refine L_calls cal67 (args3 (rv w0) (rv (vi a1)) (rv (vi j5))) (ref08_Case_taken_ok N _ _ _ (h0.mono (k2.le.trans k7.le)) a1 j5 kg kh) (by decide) (fun ki kj kk kl => ?_); have km := Tch.ext k9 kk; obtain rfl := kl.bool; refine asg (rv (vb kg)) (nn (W_ret (block_r (then_r ?_)))); obtain rfl := Option.some.inj hr; exact done1 (Or.inl rfl) Try.results35 rfl ⟨_, _, rfl, rfl, km, Vbool⟩
   ·have hr := ite_f kf hr
    refine sr (el (rv (vi (ju.Kind))) (rv (vi 2)) (asg (rv (vb (decide (ju.Kind = 2)))) (nn ?_)))
    refine W_cond _ (rv (vb (decide (ju.Kind = 2)))) (fun kg => ?_) (fun kg => ?_)
    ·have hr := ite_t kg hr; refine sr (mv (rv w0) (mv (rv (vi a1)) (mv (rv (vi j5)) ?_))); obtain ⟨kh, ki, hr⟩ := bind_some hr; refine L_calls cal68 (args3 (rv w0) (rv (vi a1)) (rv (vi j5))) (ref08_Case_received_ok N _ _ _ (h0.mono (k2.le.trans k7.le)) a1 j5 kh ki) (by decide) (fun kj kk kl km => ?_); have kn := Tch.ext k9 kl; obtain rfl := km.bool; refine asg (rv (vb kh)) (nn (W_ret (block_r (then_r ?_)))); obtain rfl := Option.some.inj hr; exact done1 (Or.inl rfl) Try.results35 rfl ⟨_, _, rfl, rfl, kn, Vbool⟩
    ·have hr := ite_f kg hr
     refine sr (el (rv (vi (ju.Kind))) (rv (vi 6)) (asg (rv (vb (decide (ju.Kind = 6)))) (nn ?_)))
     refine W_cond _ (rv (vb (decide (ju.Kind = 6)))) (fun kh => ?_) (fun kh => ?_)
     ·have hr := ite_t kh hr
      refine sr (asg (rv (vi 0)) (nn ?_))
      obtain ⟨ki, kj, kk⟩ := bind_some hr
      refine W_cut (fun f w => ∃ (s : St), s.w = w ∧ Ext s0 s ∧ Le k6 s ∧ Sum.inl () = ki) ?_ ?_
      ·refine W_block (W_loop (fun m f w => ∃ (s : St) (kl : Int), s.w = w ∧ Ext s0 s ∧ Le k6 s ∧ ref08_Case_can_l1 N a0 a1 m kl = some ki ∧ f 7 = vi kl ∧ f 0 = w0 ∧ f 1 = vi (a1)) N ⟨k6, 0, rfl, k9, (Le.refl _), kj, rfl, rfl, rfl⟩ ?_)
       rintro km kn ko ⟨kp, kl, rfl, kq, kr, hr, ks, kt, ku⟩
       cases km with
       | zero => exact absurd hr (by simp [ref08_Case_can_l1])
       | succ km =>
        rw [ref08_Case_can_l1.eq_2] at hr
        refine W_seq (sr (mv ks (mv kt (L_nilCheck_ptr (rv w0) (h0.mono (k2.le.trans (k7.le.trans kr))) (by decide) (fa fld79_0 Case.of_C (rv w0) (h0.mono (k2.le.trans (k7.le.trans kr))) (fun kv kw => ld ty22 (rv kv) kw (fun kx ky => ln Try.underlying22 (rv kx) ky (ls (rv (vi kl)) (rv (vi ((a0.C.length : Int)))) (nn ?_)))))))))
        refine W_cond _ (rv (vb (decide (kl < (a0.C.length : Int))))) (fun kz => ?_) (fun kz => ?_)
        ·have hr := ite_t kz hr
         refine W_skip (then_n (W_seq (W_block (sr (mv kt (mv ks ?_))))))
         obtain ⟨g0, g1, hr⟩ := bind_some hr
         refine L_calls cal69 (args2 (rv w0) (rv (vi kl))) (ref08_Case_meets_ok N _ _ _ (h0.mono (k2.le.trans (k7.le.trans kr))) kl g0 g1) (by decide) (fun g2 g3 g4 g5 => ?_)
         have g6 := Tch.ext kq g4
         obtain rfl := g5.int
         refine mv kt (mv ku ?_)
         obtain ⟨g7, g8, hr⟩ := bind_some hr
         refine L_calls cal69 (args2 (rv w0) (rv (vi a1))) (ref08_Case_meets_ok N _ _ _ (h0.mono (k2.le.trans (k7.le.trans (kr.trans g4.le)))) a1 g7 g8) (by decide) (fun g9 ga gb gc => ?_)
         have gd := Tch.ext g6 gb
         obtain rfl := gc.int
         refine ls (rv (vi g0)) (rv (vi g7)) (nn ?_)
         refine W_cond _ (rv (vb (decide (g0 < g7)))) (fun gg => ?_) (fun gg => ?_)
         ·have hr := ite_t gg hr; refine sr (asg (rv (vb false)) (nn (W_ret (block_r (then_r (then_r (block_r ?_))))))); obtain rfl := Option.some.inj hr; have hr := kk; (try dsimp only at hr); refine then_r (block_r (then_r ?_)); obtain rfl := Option.some.inj hr; exact done1 (Or.inl rfl) Try.results35 rfl ⟨_, _, rfl, rfl, gd, Vbool⟩
         ·have hr := ite_f gg hr; refine W_skip (block_n (then_n (W_region (mv ks ?_)))); obtain ⟨gh, hr⟩ := chk_some hr; exact ad (rv (vi kl)) (rv (vi 1)) gh (asg (rv (vi (kl + 1))) (nn ⟨km, Nat.lt_succ_self _, ⟨ga, (kl + 1), rfl, gd, (kr.trans (g4.le.trans gb.le)), hr, rfl, kt, ku⟩⟩))
        ·have hr := ite_f kz hr; refine W_exit (then_x (then_x (block_here ?_))); exact then_n ⟨kp, rfl, kq, kr, Option.some.inj hr⟩
      ·rintro kl km ⟨kn, rfl, ko, kp, kj⟩; subst kj; have hr := kk; (try dsimp only at hr); refine block_n (then_n (sr (asg (rv (vb true)) (nn (W_ret ?_))))); obtain rfl := Option.some.inj hr; exact done1 (Or.inl rfl) Try.results35 rfl ⟨_, _, rfl, rfl, ko, Vbool⟩
     ·have hr := ite_f kh hr; refine W_skip (block_n (then_n (sr (asg (rv (vb true)) (nn (W_ret ?_)))))); obtain rfl := Option.some.inj hr; exact done1 (Or.inl rfl) Try.results35 rfl ⟨_, _, rfl, rfl, k9, Vbool⟩

theorem ref08_Case_least_ok (N : Nat) (s0 : St) (w0 : Value) (a0 : Case) (h0 : Ptr s0 w0 a0) (r : Int) (hr : ref08_Case_least N a0 = some r) :
    Calls Try.prog 36 #[w0] s0.w (Ret s0 fun v s => V s v r) := by
 unfold ref08_Case_least at hr
 have j0 := Ext.refl s0
 refine Calls_of (n := 17) (args := [w0]) Try.func36 rfl rfl (by simp) (sr (asg (rv (vi 0)) (nn (W_seq (sr (asg (rv (vi 0)) (nn ?_)))))))
 obtain ⟨j1, j2, j3⟩ := bind_some hr
 refine W_cut (fun f w => ∃ (s : St), s.w = w ∧ Ext s0 s ∧ Le s0 s ∧ Sum.inl () = j1) ?_ ?_
 ·refine W_block (W_loop (fun m f w => ∃ (s : St) (j4 : Int), s.w = w ∧ Ext s0 s ∧ Le s0 s ∧ ref08_Case_least_l1 N a0 m j4 = some j1 ∧ f 3 = vi j4 ∧ f 0 = w0) N ⟨s0, 0, rfl, j0, (Le.refl _), j2, rfl, rfl⟩ ?_)
  rintro j5 j6 j7 ⟨j8, j4, rfl, j9, ja, hr, jb, jc⟩
  cases j5 with
  | zero => exact absurd hr (by simp [ref08_Case_least_l1])
  | succ j5 =>
   rw [ref08_Case_least_l1.eq_2] at hr
   refine W_seq (sr (mv jb (mv jc (L_nilCheck_ptr (rv w0) (h0.mono ja) (by decide) (fa fld79_0 Case.of_C (rv w0) (h0.mono ja) (fun jd je => ld ty22 (rv jd) je (fun jf jg => ln Try.underlying22 (rv jf) jg (ls (rv (vi j4)) (rv (vi ((a0.C.length : Int)))) (nn ?_)))))))))
   refine W_cond _ (rv (vb (decide (j4 < (a0.C.length : Int))))) (fun jh => ?_) (fun jh => ?_)
   ·have hr := ite_t jh hr
    refine W_skip (then_n (W_seq (W_block (sr (mv jc (mv jb ?_))))))
    obtain ⟨ji, jj, hr⟩ := bind_some hr
    refine L_calls cal35 (args2 (rv w0) (rv (vi j4))) (ref08_Case_can_ok N _ _ _ (h0.mono ja) j4 ji jj) (by decide) (fun jk jl jm jn => ?_)
    have jo := Tch.ext j9 jm
    obtain rfl := jn.bool
    refine nn ?_
    refine W_cond _ (rv (vb ji)) (fun jp => ?_) (fun jp => ?_)
    ·have hr := ite_t jp hr; refine sr (mv jb (asg (rv (vi j4)) (nn (W_ret (block_r (then_r (then_r (block_r ?_)))))))); obtain rfl := Option.some.inj hr; have hr := j3; (try dsimp only at hr); refine then_r (then_r ?_); obtain rfl := Option.some.inj hr; exact done1 (Or.inl rfl) Try.results36 rfl ⟨_, _, rfl, rfl, jo, Vint⟩
    ·have hr := ite_f jp hr; refine W_skip (block_n (then_n (W_region (mv jb ?_)))); obtain ⟨jq, hr⟩ := chk_some hr; exact ad (rv (vi j4)) (rv (vi 1)) jq (asg (rv (vi (j4 + 1))) (nn ⟨j5, Nat.lt_succ_self _, ⟨jl, (j4 + 1), rfl, jo, (ja.trans jm.le), hr, rfl, jc⟩⟩))
   ·have hr := ite_f jh hr; refine W_exit (then_x (then_x (block_here ?_))); exact then_n ⟨j8, rfl, j9, ja, Option.some.inj hr⟩
 ·rintro j4 j5 ⟨j6, rfl, j7, j8, j2⟩; subst j2; have hr := j3; (try dsimp only at hr); refine then_n (sr (asg (rv (vi (-1))) (nn (W_ret ?_)))); obtain rfl := Option.some.inj hr; exact done1 (Or.inl rfl) Try.results36 rfl ⟨_, _, rfl, rfl, j7, Vint⟩

set_option maxHeartbeats 1534000 in
theorem ref08_Narrow_ok (N : Nat) (s0 : St) (w0 : Value) (a0 : List (List Deed)) (h0 : V s0 w0 a0) (r : (List (List Deed)) × Bool × Int) (hr : ref08_Narrow N a0 = some r) :
    Calls Try.prog 16 #[w0] s0.w (Ret s0 fun v s => ∃ a b c, v = .tuple #[a, b, c] ∧ V s a r.1 ∧ V s b r.2.1 ∧ V s c r.2.2) := by
 unfold ref08_Narrow at hr
 have j0 := Ext.refl s0
 refine Calls_of (n := 131) (args := [w0]) Try.func16 rfl rfl (by simp) (sr (asg (rv (Value.slice none 0 0)) (asg (rv (vb false)) (asg (rv (vi 0)) (nn (sr (mv (rv w0) ?_)))))))
 obtain ⟨j1, j2, hr⟩ := bind_some hr
 refine L_calls cal42 (args1 (rv w0)) (ref08_Check_ok N _ _ _ h0 j1 j2) (by decide) (fun j3 j4 j5 j6 => ?_)
 have j7 := Tch.ext j0 j5
 obtain rfl := j6.int
 refine asg (rv (vi j1)) (nn (W_seq (sr (mv (rv (vi j1)) (ne (rv (vi j1)) (rv (vi 0)) (nn ?_))))))
 refine W_cond _ (rv (vb (!decide (j1 = 0)))) (fun j8 => ?_) (fun j8 => ?_)
 ·have hr := ite_t j8 hr; refine sr (mv (rv (vi j1)) (asg (rv (Value.slice none 0 0)) (asg (rv (vb false)) (asg (rv (vi j1)) (nn (W_ret (then_r ?_))))))); obtain rfl := Option.some.inj hr; exact done3 (Or.inl rfl) Try.results16 rfl rfl rfl ⟨_, _, rfl, rfl, j7, _, _, _, rfl, Vnil, Vbool, Vint⟩
 ·have hr := ite_f j8 hr
  refine W_skip (then_n (sr (asg (rv (Value.slice none 0 0)) (nn (W_seq (sr (asg (rv (vi 0)) (nn ?_))))))))
  obtain ⟨j9, ja, jb⟩ := bind_some hr
  refine W_cut (fun f w => ∃ (s : St) (jc : Value) (jd : List (List Deed)), s.w = w ∧ Ext s0 s ∧ Le j4 s ∧ Sum.inl jd = j9 ∧ f 6 = jc ∧ Bld s s0.w.heap.size 65 jc jd) ?_ ?_
  ·refine W_block (W_loop (fun m f w => ∃ (s : St) (je : Value) (jf : List (List Deed)) (jg : Int), s.w = w ∧ Ext s0 s ∧ Le j4 s ∧ ref08_Narrow_l1 N a0 m jf jg = some j9 ∧ f 6 = je ∧ Bld s s0.w.heap.size 65 je jf ∧ f 7 = vi jg ∧ f 0 = w0) N ⟨j4, (Value.slice none 0 0), ([]), 0, rfl, j7, (Le.refl _), ja, rfl, Bld.nil, rfl, rfl⟩ ?_)
   rintro jh ji jj ⟨jk, je, jf, jg, rfl, jl, jm, hr, jn, jo, jp, jq⟩
   cases jh with
   | zero => exact absurd hr (by simp [ref08_Narrow_l1])
   | succ jh =>
    rw [ref08_Narrow_l1.eq_2] at hr
    refine W_seq (sr (mv jp (mv jq (ln Try.underlying22 (rv w0) (h0.mono (j5.le.trans jm)) (ls (rv (vi jg)) (rv (vi ((a0.length : Int)))) (nn ?_))))))
    refine W_cond _ (rv (vb (decide (jg < (a0.length : Int))))) (fun jr => ?_) (fun jr => ?_)
    ·have hr := ite_t jr hr
     refine W_skip (then_n (W_seq (W_block (sr (L_buildSlice (xs := ([] : List Deed)) Try.underlying65 tyz74 Parts_nil Vs.nil rfl (by decide) (by decide) (fun js jt ju jv jw => ?_))))))
     have jx := Tch.ext jl ju
     refine mv jq (mv jp ?_)
     obtain ⟨jy, jz, hr⟩ := bind_some hr
     refine ix Try.underlying22 ty65.inf (rv w0) (h0.mono (j5.le.trans (jm.trans ju.le))) (rv (vi jg)) jz (fun k0 k1 => ld ty65 (rv k0) k1 (fun k2 k3 => ?_))
     obtain ⟨k4, hr⟩ := chk_some hr
     refine L_append (xs := ([] : List Deed)) (B := s0.w.heap.size) Try.underlying65 tyz74 (rv jt) (rv k2) ((jv.base jl.size)) (jx.size) k3 k4.1 k4.2 (by decide) (fun k5 k6 k7 => asg (rv k5) ?_)
     obtain ⟨k8, k9, ka, kb⟩ := thaw2 flat74 ju jv k7
     rw [← k9]
     have kc := Tch.ext jl ka
     have kd : ∀ k, (own je) k → ¬ (own k5) k := fun k ke kf => by have kg := (fun k hk => ((jo).lt hk).2) k ke; have kh := kb; exact absurd ((kh.lt kf).1) (by omega)
     refine nn (W_seq (sr (asg (rv (vi 0)) (nn ?_))))
     obtain ⟨ki, kj, kk⟩ := bind_some hr
     refine W_cut (fun f w => ∃ (s : St) (kl : List Deed), s.w = w ∧ Ext s0 s ∧ Le k8 s ∧ Sum.inl kl = ki ∧ f 0 = w0 ∧ f 6 = je ∧ f 7 = vi (jg) ∧ f 8 = k5 ∧ Bld s s0.w.heap.size 65 je jf ∧ ArrS s s0.w.heap.size 74 k5 kl) ?_ ?_
     ·refine W_block (W_loop (fun m f w => ∃ (s : St) (km : Int) (kn : List Deed), s.w = w ∧ Ext s0 s ∧ Le k8 s ∧ ref08_Narrow_l2 N a0 jg m km kn = some ki ∧ f 9 = vi km ∧ f 0 = w0 ∧ f 6 = je ∧ f 7 = vi (jg) ∧ f 8 = k5 ∧ Bld s s0.w.heap.size 65 je jf ∧ ArrS s s0.w.heap.size 74 k5 kn) N ⟨k8, 0, (([] : List Deed) ++ jy), rfl, kc, (Le.refl _), kj, rfl, jq, jn, jp, rfl, (jo).ext ka, (kb.base jl.size)⟩ ?_)
      rintro ko kp kq ⟨kr, km, kn, rfl, ks, kt, hr, ku, kv, kw, kx, ky, kz, g0⟩
      cases ko with
      | zero => exact absurd hr (by simp [ref08_Narrow_l2])
      | succ ko =>
       rw [ref08_Narrow_l2.eq_2] at hr
       refine W_seq (sr (mv ku (mv ky (L_lenS Try.underlying65 (rv k5) (g0) (by decide) (ls (rv (vi km)) (rv (vi ((kn.length : Int)))) (nn ?_))))))
       refine W_cond _ (rv (vb (decide (km < (kn.length : Int))))) (fun g1 => ?_) (fun g1 => ?_)
       ·have hr := ite_t g1 hr
        refine W_skip (then_n (W_seq (W_block (W_seq ?_))))
        obtain ⟨g2, g3, g4⟩ := bind_some hr
        refine W_seq_cut (fun f w => ∃ (s : St) (g5 : Bool), s.w = w ∧ Ext s0 s ∧ Le kr s ∧ g5 = g2 ∧ f 49 = vb g5 ∧ f 0 = w0 ∧ f 6 = je ∧ f 7 = vi (jg) ∧ f 8 = k5 ∧ f 9 = vi (km) ∧ Bld s s0.w.heap.size 65 je jf ∧ ArrS s s0.w.heap.size 74 k5 kn) ?_ ?_
        ·have hr := g3
         refine W_region (mv ky (mv ku ?_))
         obtain ⟨g6, g7, hr⟩ := bind_some hr
         refine L_indexS Try.underlying65 ty74.inf (rv k5) (rv (vi km)) (g0) g7 (by decide) (L_loadS ty74 (rv (elemP k5 (km) 5 0)) (g0) g7 rfl (by decide) (fun g8 g9 => ?_))
         obtain ⟨ga, gb, hr⟩ := bind_some hr
         refine L_calls cal43 (args1 (rv g8)) (ref08_receives_ok N _ _ _ g9 ga gb) (by decide) (fun gc gd gg gh => ?_)
         have gi := Tch.ext ks gg
         obtain rfl := gh.bool
         refine L_not (rv (vb ga)) (by decide) (mv (rv (vb (!ga))) ?_)
         rcases tf (!ga) with gj | gj
         ·have hr := ite_t gj hr; exact gf 42 (rv (vb (!ga))) gj (gf 42 (rv (vb (!ga))) gj (gf 42 (rv (vb (!ga))) gj (gf 42 (rv (vb (!ga))) gj (gf 42 (rv (vb (!ga))) gj (gf 42 (rv (vb (!ga))) gj (pt (rv (vb (!ga))) gj (rv (vb true)) (nn ⟨gd, true, rfl, gi, gg.le, Option.some.inj hr, rfl, kv, kw, kx, ky, ku, (kz).ext gg, (g0).ext gg⟩)))))))
         ·have hr := ite_f gj hr; refine gt 42 (rv (vb (!ga))) gj (mv ky (gt 42 (rv (vb (!ga))) gj (mv ku (gt 42 (rv (vb (!ga))) gj ?_)))); obtain ⟨gk, gl, hr⟩ := bind_some hr; refine L_indexS Try.underlying65 ty74.inf (rv k5) (rv (vi km)) ((g0).ext gg) gl (by decide) (gt 42 (rv (vb (!ga))) gj (L_fieldS fld74_1 (rv (elemP k5 (km) 5 0)) ((g0).ext gg) gl rfl (by decide) (gt 42 (rv (vb (!ga))) gj (L_loadS_field ty3 Deed.of_Peer (rv (elemP k5 (km) 5 1)) ((g0).ext gg) gl rfl (by decide) (fun gm gn => ?_))))); obtain rfl := gn.int; exact gt 42 (rv (vb (!ga))) gj (ne (rv (vi (gk.Peer))) (rv (vi (-1))) (pf (rv (vb (!ga))) gj (rv (vb (!decide (gk.Peer = (-1))))) (nn ⟨gd, (!decide (gk.Peer = (-1))), rfl, gi, gg.le, Option.some.inj hr, rfl, kv, kw, kx, ky, ku, (kz).ext gg, (g0).ext gg⟩)))
        ·rintro g6 g7 ⟨g8, g5, rfl, g9, ga, g3, gb, gc, gd, gg, gh, gi, gj, gk⟩
         subst g3
         have hr := g4
         try dsimp only at hr
         refine W_cond _ gb (fun gl => ?_) (fun gl => ?_)
         ·have hr := ite_t gl hr; refine W_exit (then_x (block_here (then_n (W_region (mv gi ?_))))); obtain ⟨gm, hr⟩ := chk_some hr; exact ad (rv (vi km)) (rv (vi 1)) gm (asg (rv (vi (km + 1))) (nn ⟨ko, Nat.lt_succ_self _, ⟨g8, (km + 1), kn, rfl, g9, (kt.trans ga), hr, rfl, gc, gd, gg, gh, gj, gk⟩⟩))
         ·have hr := ite_f gl hr
          refine W_skip (then_n (sr (asg (rv (Value.slice none 0 0)) (nn (W_seq (sr (asg (rv (vi 0)) (nn ?_))))))))
          obtain ⟨gm, gn, go⟩ := bind_some hr
          refine W_cut (fun f w => ∃ (s : St) (gp : Value) (gq : List Int), s.w = w ∧ Ext s0 s ∧ Le g8 s ∧ gq = gm ∧ f 10 = gp ∧ Bld s s0.w.heap.size 3 gp gq ∧ f 0 = w0 ∧ f 6 = je ∧ f 7 = vi (jg) ∧ f 8 = k5 ∧ f 9 = vi (km) ∧ Bld s s0.w.heap.size 65 je jf ∧ ArrS s s0.w.heap.size 74 k5 kn ∧ (∀ k, (own gp) k → ¬ (own je) k) ∧ (∀ k, (own gp) k → ¬ (own k5) k)) ?_ ?_
          ·refine W_block (W_loop (fun m f w => ∃ (s : St) (gr : Value) (gs : List Int) (gu : Int), s.w = w ∧ Ext s0 s ∧ Le g8 s ∧ ref08_Narrow_l3 N a0 jg kn km m gs gu = some gm ∧ f 10 = gr ∧ Bld s s0.w.heap.size 3 gr gs ∧ f 11 = vi gu ∧ f 0 = w0 ∧ f 6 = je ∧ f 7 = vi (jg) ∧ f 8 = k5 ∧ f 9 = vi (km) ∧ Bld s s0.w.heap.size 65 je jf ∧ ArrS s s0.w.heap.size 74 k5 kn ∧ (∀ k, (own gr) k → ¬ (own je) k) ∧ (∀ k, (own gr) k → ¬ (own k5) k)) N ⟨g8, (Value.slice none 0 0), ([]), 0, rfl, g9, (Le.refl _), gn, rfl, Bld.nil, rfl, gc, gd, gg, gh, gi, gj, gk, (fun k h => absurd h own_nil), (fun k h => absurd h own_nil)⟩ ?_)
           rintro gv gw gx ⟨gy, gr, gs, gu, rfl, gz, u0, hr, u1, u2, u3, u4, u5, u6, u7, u9, ua, ub, uc, ud⟩
           cases gv with
           | zero => exact absurd hr (by simp [ref08_Narrow_l3])
           | succ gv =>
            rw [ref08_Narrow_l3.eq_2] at hr
            refine W_seq (sr (mv u3 (mv u4 (ln Try.underlying22 (rv w0) (h0.mono (j5.le.trans (jm.trans (ka.le.trans (kt.trans (ga.trans u0)))))) (ls (rv (vi gu)) (rv (vi ((a0.length : Int)))) (nn ?_))))))
            refine W_cond _ (rv (vb (decide (gu < (a0.length : Int))))) (fun ue => ?_) (fun ue => ?_)
            ·have hr := ite_t ue hr
             refine W_skip (then_n (W_seq (W_block (sr (asg (rv (vi 0)) (nn ?_))))))
             obtain ⟨uf, ug, uh⟩ := bind_some hr
             refine W_cut (fun f w => ∃ (s : St) (ui : Value) (uj : List Int), s.w = w ∧ Ext s0 s ∧ Le gy s ∧ uj = uf ∧ f 10 = ui ∧ Bld s s0.w.heap.size 3 ui uj ∧ f 0 = w0 ∧ f 6 = je ∧ f 7 = vi (jg) ∧ f 8 = k5 ∧ f 9 = vi (km) ∧ f 11 = vi (gu) ∧ Bld s s0.w.heap.size 65 je jf ∧ ArrS s s0.w.heap.size 74 k5 kn ∧ (∀ k, (own ui) k → ¬ (own je) k) ∧ (∀ k, (own ui) k → ¬ (own k5) k)) ?_ ?_
             ·refine W_block (W_loop (fun m f w => ∃ (s : St) (uk : Value) (ul : List Int) (um : Int), s.w = w ∧ Ext s0 s ∧ Le gy s ∧ ref08_Narrow_l4 N a0 jg kn km gu m ul um = some uf ∧ f 10 = uk ∧ Bld s s0.w.heap.size 3 uk ul ∧ f 12 = vi um ∧ f 0 = w0 ∧ f 6 = je ∧ f 7 = vi (jg) ∧ f 8 = k5 ∧ f 9 = vi (km) ∧ f 11 = vi (gu) ∧ Bld s s0.w.heap.size 65 je jf ∧ ArrS s s0.w.heap.size 74 k5 kn ∧ (∀ k, (own uk) k → ¬ (own je) k) ∧ (∀ k, (own uk) k → ¬ (own k5) k)) N ⟨gy, gr, gs, 0, rfl, gz, (Le.refl _), ug, u1, u2, rfl, u4, u5, u6, u7, u9, u3, ua, ub, uc, ud⟩ ?_)
              rintro un uo up ⟨uq, uk, ul, um, rfl, ur, us, hr, ut, uu, uv, uw, ux, uy, uz, t0, t1, t2, t3, t4, t5⟩
              cases un with
              | zero => exact absurd hr (by simp [ref08_Narrow_l4])
              | succ un =>
               rw [ref08_Narrow_l4.eq_2] at hr
               refine W_seq (sr (mv uv (mv uw (mv t1 ?_))))
               obtain ⟨t6, t7, hr⟩ := bind_some hr
               refine ix Try.underlying22 ty65.inf (rv w0) (h0.mono (j5.le.trans (jm.trans (ka.le.trans (kt.trans (ga.trans (u0.trans us))))))) (rv (vi gu)) t7 (fun t8 t9 => ld ty65 (rv t8) t9 (fun ta tb => ln Try.underlying65 (rv ta) tb (ls (rv (vi um)) (rv (vi ((t6.length : Int)))) (nn ?_))))
               refine W_cond _ (rv (vb (decide (um < (t6.length : Int))))) (fun tc => ?_) (fun tc => ?_)
               ·have hr := ite_t tc hr
                refine W_skip (then_n (W_seq (W_block ?_)))
                obtain ⟨td, te, tg⟩ := bind_some hr
                refine W_seq_cut (fun f w => ∃ (s : St) (th : Bool), s.w = w ∧ Ext s0 s ∧ Le uq s ∧ th = td ∧ f 104 = vb th ∧ f 0 = w0 ∧ f 6 = je ∧ f 7 = vi (jg) ∧ f 8 = k5 ∧ f 9 = vi (km) ∧ f 10 = uk ∧ f 11 = vi (gu) ∧ f 12 = vi (um) ∧ Bld s s0.w.heap.size 65 je jf ∧ ArrS s s0.w.heap.size 74 k5 kn ∧ Bld s s0.w.heap.size 3 uk ul) ?_ ?_
                ·have hr := te
                 obtain ⟨ti, tj, hr⟩ := bind_some hr
                 obtain ⟨tk, tl, hr⟩ := bind_some hr
                 obtain ⟨tm, tn, hr⟩ := bind_some hr
                 rcases tf (tm) with tp | tp
                 ·have hr := ite_t tp hr
                  obtain ⟨tq, tr, hr⟩ := bind_some hr
                  obtain ⟨ts, tt, hr⟩ := bind_some hr
                  rcases tf (decide (ts.Peer = jg)) with tu | tu
                  ·have hr := ite_t tu hr
                   obtain ⟨tv, tw, hr⟩ := bind_some hr
                   obtain ⟨tx, ty, hr⟩ := bind_some hr
                   obtain ⟨tz, c0, hr⟩ := bind_some hr
                   obtain ⟨c1, c2, hr⟩ := bind_some hr
                   rcases tf (c1) with c3 | c3
                   ·have hr := ite_t c3 hr
                    obtain ⟨c4, c5, hr⟩ := bind_some hr
                    refine W_draws mixed (by kernel_rfl) [PV.data (a0 : List (List Deed)), PV.eq (vi gu), PV.ptr (ti : List Deed), PV.data (ti : List Deed), PV.eq (vi um), PV.ptr (tk : Deed), PV.data (tk : Deed), PV.eq (vb tm), PV.eq (vb tm), PV.data (a0 : List (List Deed)), PV.eq (vi gu), PV.ptr (tq : List Deed), PV.data (tq : List Deed), PV.eq (vi um), PV.ptr (ts : Deed), PV.ptr (ts.Peer : Int), PV.eq (vi (ts.Peer)), PV.eq (vi jg), PV.eq (vb (decide (ts.Peer = jg))), PV.eq (vb (decide (ts.Peer = jg))), PV.eq (vb (decide (ts.Peer = jg))), PV.data (a0 : List (List Deed)), PV.eq (vi gu), PV.ptr (tv : List Deed), PV.data (tv : List Deed), PV.eq (vi um), PV.ptr (tx : Deed), PV.data (tx : Deed), PV.eq (k5), PV.eq (vi km), PV.eq (elemP k5 (km) 5 0), PV.data (tz : Deed), PV.eq (vb c1), PV.eq (vb c1), PV.eq (vb c1), PV.eq (uk), PV.eq (vi gu), PV.eq (vi c4), PV.eq (vb (decide (c4 < 0))), PV.eq (vb (decide (c4 < 0)))] (Steps_cons ?_ (Steps_cons ?_ (Steps_cons ?_ (Steps_cons ?_ (Steps_cons ?_ (Steps_cons ?_ (Steps_cons ?_ (Steps_cons ?_ (Steps_cons ?_ (Steps_cons ?_ (Steps_cons ?_ (Steps_cons ?_ (Steps_cons ?_ (Steps_cons ?_ (Steps_cons ?_ (Steps_cons ?_ (Steps_cons ?_ (Steps_cons ?_ (Steps_cons ?_ (Steps_cons ?_ (Steps_cons ?_ (Steps_cons ?_ (Steps_cons ?_ (Steps_cons ?_ (Steps_cons ?_ (Steps_cons ?_ (Steps_cons ?_ (Steps_cons ?_ (Steps_cons ?_ (Steps_cons ?_ (Steps_cons ?_ (Steps_cons ?_ (Steps_cons ?_ (Steps_cons ?_ (Steps_cons ?_ (Steps_cons ?_ (Steps_cons ?_ (Steps_cons ?_ (Steps_cons ?_ (Steps_cons ?_ Steps_nil)))))))))))))))))))))))))))))))))))))))) ?_
                    ·intro c6 c7 c8 c9 ca Q cb; have cc : c6 0 = w0 := (ca 0 (by kernel_rfl)).trans uw; exact mv cc (fin cb (h0.mono (j5.le.trans (jm.trans (ka.le.trans (kt.trans (ga.trans (u0.trans (us.trans c8.le)))))))))
                    ·intro c6 c7 c8 c9 ca Q cb; have cc : c6 11 = vi (gu) := (ca 11 (by kernel_rfl)).trans t1; exact mv cc (fin cb rfl)
                    ·intro c6 c7 c8 c9 ca Q cb; have cc : V _ (c6 65) (a0 : List (List Deed)) := c9 0 65 (by kernel_rfl) (by kernel_rfl); obtain ⟨cd, ce, cf⟩ : ∃ v, _ = v ∧ V _ v _ := ⟨_, rfl, cc⟩; have cg : c6 66 = vi (gu) := c9 1 66 (by kernel_rfl) (by kernel_rfl); exact ix Try.underlying22 ty65.inf ce cf cg tj (fun ch ci => fin cb ci)
                    ·intro c6 c7 c8 c9 ca Q cb; have cc : Ptr _ (c6 67) (ti : List Deed) := c9 2 67 (by kernel_rfl) (by kernel_rfl); obtain ⟨cd, ce, cf⟩ : ∃ v, _ = v ∧ Ptr _ v _ := ⟨_, rfl, cc⟩; exact ld ty65 ce cf (fun cg ch => fin cb ch)
                    ·intro c6 c7 c8 c9 ca Q cb; have cc : c6 12 = vi (um) := (ca 12 (by kernel_rfl)).trans uv; exact mv cc (fin cb rfl)
                    ·intro c6 c7 c8 c9 ca Q cb; have cc : V _ (c6 68) (ti : List Deed) := c9 3 68 (by kernel_rfl) (by kernel_rfl); obtain ⟨cd, ce, cf⟩ : ∃ v, _ = v ∧ V _ v _ := ⟨_, rfl, cc⟩; have cg : c6 69 = vi (um) := c9 4 69 (by kernel_rfl) (by kernel_rfl); exact ix Try.underlying65 ty74.inf ce cf cg tl (fun ch ci => fin cb ci)
                    ·intro c6 c7 c8 c9 ca Q cb; have cc : Ptr _ (c6 70) (tk : Deed) := c9 5 70 (by kernel_rfl) (by kernel_rfl); obtain ⟨cd, ce, cf⟩ : ∃ v, _ = v ∧ Ptr _ v _ := ⟨_, rfl, cc⟩; exact ld ty74 ce cf (fun cg ch => fin cb ch)
                    ·intro c6 c7 c8 c9 ca Q cb; have cc : V _ (c6 71) (tk : Deed) := c9 6 71 (by kernel_rfl) (by kernel_rfl); obtain ⟨cd, ce, cf⟩ : ∃ v, _ = v ∧ V _ v _ := ⟨_, rfl, cc⟩; refine L_calls cal44 (args1 ce) (ref08_sends_ok N _ _ _ cf tm tn) (by decide) (fun cg ch ci cj => ?_); have ck := Tch.ext (Ext.refl c7) ci; obtain rfl := cj.bool; exact L_nil (cb _ _ ck rfl)
                    ·intro c6 c7 c8 c9 ca Q cb; have cc : c6 72 = vb (tm) := c9 7 72 (by kernel_rfl) (by kernel_rfl); exact mv cc (fin cb rfl)
                    ·intro c6 c7 c8 c9 ca Q cb; have cc : c6 0 = w0 := (ca 0 (by kernel_rfl)).trans uw; have cd : c6 73 = vb (tm) := c9 8 73 (by kernel_rfl) (by kernel_rfl); exact gt 73 cd tp (mv cc (fin cb (h0.mono (j5.le.trans (jm.trans (ka.le.trans (kt.trans (ga.trans (u0.trans (us.trans c8.le))))))))))
                    ·intro c6 c7 c8 c9 ca Q cb; have cc : c6 11 = vi (gu) := (ca 11 (by kernel_rfl)).trans t1; have cd : c6 73 = vb (tm) := c9 8 73 (by kernel_rfl) (by kernel_rfl); exact gt 73 cd tp (mv cc (fin cb rfl))
                    ·intro c6 c7 c8 c9 ca Q cb; have cc : c6 73 = vb (tm) := c9 8 73 (by kernel_rfl) (by kernel_rfl); have cd : V _ (c6 74) (a0 : List (List Deed)) := c9 9 74 (by kernel_rfl) (by kernel_rfl); obtain ⟨ce, cf, cg⟩ : ∃ v, _ = v ∧ V _ v _ := ⟨_, rfl, cd⟩; have ch : c6 75 = vi (gu) := c9 10 75 (by kernel_rfl) (by kernel_rfl); exact gt 73 cc tp (ix Try.underlying22 ty65.inf cf cg ch tr (fun ci cj => fin cb cj))
                    ·intro c6 c7 c8 c9 ca Q cb; have cc : c6 73 = vb (tm) := c9 8 73 (by kernel_rfl) (by kernel_rfl); have cd : Ptr _ (c6 76) (tq : List Deed) := c9 11 76 (by kernel_rfl) (by kernel_rfl); obtain ⟨ce, cf, cg⟩ : ∃ v, _ = v ∧ Ptr _ v _ := ⟨_, rfl, cd⟩; exact gt 73 cc tp (ld ty65 cf cg (fun ch ci => fin cb ci))
                    ·intro c6 c7 c8 c9 ca Q cb; have cc : c6 12 = vi (um) := (ca 12 (by kernel_rfl)).trans uv; have cd : c6 73 = vb (tm) := c9 8 73 (by kernel_rfl) (by kernel_rfl); exact gt 73 cd tp (mv cc (fin cb rfl))
                    ·intro c6 c7 c8 c9 ca Q cb; have cc : c6 73 = vb (tm) := c9 8 73 (by kernel_rfl) (by kernel_rfl); have cd : V _ (c6 77) (tq : List Deed) := c9 12 77 (by kernel_rfl) (by kernel_rfl); obtain ⟨ce, cf, cg⟩ : ∃ v, _ = v ∧ V _ v _ := ⟨_, rfl, cd⟩; have ch : c6 78 = vi (um) := c9 13 78 (by kernel_rfl) (by kernel_rfl); exact gt 73 cc tp (ix Try.underlying65 ty74.inf cf cg ch tt (fun ci cj => fin cb cj))
                    ·intro c6 c7 c8 c9 ca Q cb; have cc : c6 73 = vb (tm) := c9 8 73 (by kernel_rfl) (by kernel_rfl); have cd : Ptr _ (c6 79) (ts : Deed) := c9 14 79 (by kernel_rfl) (by kernel_rfl); obtain ⟨ce, cf, cg⟩ : ∃ v, _ = v ∧ Ptr _ v _ := ⟨_, rfl, cd⟩; exact gt 73 cc tp (fa fld74_1 Deed.of_Peer cf cg (fun ch ci => fin cb ci))
                    ·intro c6 c7 c8 c9 ca Q cb; have cc : c6 73 = vb (tm) := c9 8 73 (by kernel_rfl) (by kernel_rfl); have cd : Ptr _ (c6 80) (ts.Peer : Int) := c9 15 80 (by kernel_rfl) (by kernel_rfl); obtain ⟨ce, cf, cg⟩ : ∃ v, _ = v ∧ Ptr _ v _ := ⟨_, rfl, cd⟩; exact gt 73 cc tp (li ty3 cf cg (fin cb rfl))
                    ·intro c6 c7 c8 c9 ca Q cb; have cc : c6 7 = vi (jg) := (ca 7 (by kernel_rfl)).trans uy; have cd : c6 73 = vb (tm) := c9 8 73 (by kernel_rfl) (by kernel_rfl); exact gt 73 cd tp (mv cc (fin cb rfl))
                    ·intro c6 c7 c8 c9 ca Q cb; have cc : c6 73 = vb (tm) := c9 8 73 (by kernel_rfl) (by kernel_rfl); have cd : c6 81 = vi (ts.Peer) := c9 16 81 (by kernel_rfl) (by kernel_rfl); have ce : c6 82 = vi (jg) := c9 17 82 (by kernel_rfl) (by kernel_rfl); exact gt 73 cc tp (el cd ce (fin cb rfl))
                    ·intro c6 c7 c8 c9 ca Q cb; have cc : c6 73 = vb (tm) := c9 8 73 (by kernel_rfl) (by kernel_rfl); have cd : c6 83 = vb (decide (ts.Peer = jg)) := c9 18 83 (by kernel_rfl) (by kernel_rfl); exact pt cc tp cd (fin cb rfl)
                    ·intro c6 c7 c8 c9 ca Q cb; have cc : c6 84 = vb (decide (ts.Peer = jg)) := c9 19 84 (by kernel_rfl) (by kernel_rfl); exact mv cc (fin cb rfl)
                    ·intro c6 c7 c8 c9 ca Q cb; have cc : c6 0 = w0 := (ca 0 (by kernel_rfl)).trans uw; have cd : c6 85 = vb (decide (ts.Peer = jg)) := c9 20 85 (by kernel_rfl) (by kernel_rfl); exact gt 85 cd tu (mv cc (fin cb (h0.mono (j5.le.trans (jm.trans (ka.le.trans (kt.trans (ga.trans (u0.trans (us.trans c8.le))))))))))
                    ·intro c6 c7 c8 c9 ca Q cb; have cc : c6 11 = vi (gu) := (ca 11 (by kernel_rfl)).trans t1; have cd : c6 85 = vb (decide (ts.Peer = jg)) := c9 20 85 (by kernel_rfl) (by kernel_rfl); exact gt 85 cd tu (mv cc (fin cb rfl))
                    ·intro c6 c7 c8 c9 ca Q cb; have cc : c6 85 = vb (decide (ts.Peer = jg)) := c9 20 85 (by kernel_rfl) (by kernel_rfl); have cd : V _ (c6 86) (a0 : List (List Deed)) := c9 21 86 (by kernel_rfl) (by kernel_rfl); obtain ⟨ce, cf, cg⟩ : ∃ v, _ = v ∧ V _ v _ := ⟨_, rfl, cd⟩; have ch : c6 87 = vi (gu) := c9 22 87 (by kernel_rfl) (by kernel_rfl); exact gt 85 cc tu (ix Try.underlying22 ty65.inf cf cg ch tw (fun ci cj => fin cb cj))
                    ·intro c6 c7 c8 c9 ca Q cb; have cc : c6 85 = vb (decide (ts.Peer = jg)) := c9 20 85 (by kernel_rfl) (by kernel_rfl); have cd : Ptr _ (c6 88) (tv : List Deed) := c9 23 88 (by kernel_rfl) (by kernel_rfl); obtain ⟨ce, cf, cg⟩ : ∃ v, _ = v ∧ Ptr _ v _ := ⟨_, rfl, cd⟩; exact gt 85 cc tu (ld ty65 cf cg (fun ch ci => fin cb ci))
                    ·intro c6 c7 c8 c9 ca Q cb; have cc : c6 12 = vi (um) := (ca 12 (by kernel_rfl)).trans uv; have cd : c6 85 = vb (decide (ts.Peer = jg)) := c9 20 85 (by kernel_rfl) (by kernel_rfl); exact gt 85 cd tu (mv cc (fin cb rfl))
                    ·intro c6 c7 c8 c9 ca Q cb; have cc : c6 85 = vb (decide (ts.Peer = jg)) := c9 20 85 (by kernel_rfl) (by kernel_rfl); have cd : V _ (c6 89) (tv : List Deed) := c9 24 89 (by kernel_rfl) (by kernel_rfl); obtain ⟨ce, cf, cg⟩ : ∃ v, _ = v ∧ V _ v _ := ⟨_, rfl, cd⟩; have ch : c6 90 = vi (um) := c9 25 90 (by kernel_rfl) (by kernel_rfl); exact gt 85 cc tu (ix Try.underlying65 ty74.inf cf cg ch ty (fun ci cj => fin cb cj))
                    ·intro c6 c7 c8 c9 ca Q cb; have cc : c6 85 = vb (decide (ts.Peer = jg)) := c9 20 85 (by kernel_rfl) (by kernel_rfl); have cd : Ptr _ (c6 91) (tx : Deed) := c9 26 91 (by kernel_rfl) (by kernel_rfl); obtain ⟨ce, cf, cg⟩ : ∃ v, _ = v ∧ Ptr _ v _ := ⟨_, rfl, cd⟩; exact gt 85 cc tu (ld ty74 cf cg (fun ch ci => fin cb ci))
                    ·intro c6 c7 c8 c9 ca Q cb; have cc : c6 8 = k5 := (ca 8 (by kernel_rfl)).trans uz; have cd : c6 85 = vb (decide (ts.Peer = jg)) := c9 20 85 (by kernel_rfl) (by kernel_rfl); exact gt 85 cd tu (mv cc (fin cb rfl))
                    ·intro c6 c7 c8 c9 ca Q cb; have cc : c6 9 = vi (km) := (ca 9 (by kernel_rfl)).trans t0; have cd : c6 85 = vb (decide (ts.Peer = jg)) := c9 20 85 (by kernel_rfl) (by kernel_rfl); exact gt 85 cd tu (mv cc (fin cb rfl))
                    ·intro c6 c7 c8 c9 ca Q cb; have cc : c6 85 = vb (decide (ts.Peer = jg)) := c9 20 85 (by kernel_rfl) (by kernel_rfl); have cd : c6 93 = k5 := c9 28 93 (by kernel_rfl) (by kernel_rfl); have ce : c6 94 = vi (km) := c9 29 94 (by kernel_rfl) (by kernel_rfl); exact gt 85 cc tu (L_indexS Try.underlying65 ty74.inf cd ce ((t3).ext c8) c0 (by decide) (fin cb rfl))
                    ·intro c6 c7 c8 c9 ca Q cb; have cc : c6 85 = vb (decide (ts.Peer = jg)) := c9 20 85 (by kernel_rfl) (by kernel_rfl); have cd : c6 95 = elemP k5 (km) 5 0 := c9 30 95 (by kernel_rfl) (by kernel_rfl); exact gt 85 cc tu (L_loadS ty74 cd ((t3).ext c8) c0 rfl (by decide) (fun ce cf => fin cb cf))
                    ·intro c6 c7 c8 c9 ca Q cb; have cc : c6 85 = vb (decide (ts.Peer = jg)) := c9 20 85 (by kernel_rfl) (by kernel_rfl); have cd : V _ (c6 92) (tx : Deed) := c9 27 92 (by kernel_rfl) (by kernel_rfl); obtain ⟨ce, cf, cg⟩ : ∃ v, _ = v ∧ V _ v _ := ⟨_, rfl, cd⟩; have ch : V _ (c6 96) (tz : Deed) := c9 31 96 (by kernel_rfl) (by kernel_rfl); obtain ⟨ci, cj, ck⟩ : ∃ v, _ = v ∧ V _ v _ := ⟨_, rfl, ch⟩; refine gt 85 cc tu (L_calls cal45 (args2 cf cj) (ref08_fits_ok N _ _ _ cg _ _ ck c1 c2) (by decide) (fun cl cm cn co => ?_)); have cp := Tch.ext (Ext.refl c7) cn; obtain rfl := co.bool; exact L_nil (cb _ _ cp rfl)
                    ·intro c6 c7 c8 c9 ca Q cb; have cc : c6 85 = vb (decide (ts.Peer = jg)) := c9 20 85 (by kernel_rfl) (by kernel_rfl); have cd : c6 97 = vb (c1) := c9 32 97 (by kernel_rfl) (by kernel_rfl); exact pt cc tu cd (fin cb rfl)
                    ·intro c6 c7 c8 c9 ca Q cb; have cc : c6 98 = vb (c1) := c9 33 98 (by kernel_rfl) (by kernel_rfl); exact mv cc (fin cb rfl)
                    ·intro c6 c7 c8 c9 ca Q cb; have cc : c6 10 = uk := (ca 10 (by kernel_rfl)).trans ut; have cd : c6 99 = vb (c1) := c9 34 99 (by kernel_rfl) (by kernel_rfl); exact gt 99 cd c3 (mv cc (fin cb rfl))
                    ·intro c6 c7 c8 c9 ca Q cb; have cc : c6 11 = vi (gu) := (ca 11 (by kernel_rfl)).trans t1; have cd : c6 99 = vb (c1) := c9 34 99 (by kernel_rfl) (by kernel_rfl); exact gt 99 cd c3 (mv cc (fin cb rfl))
                    ·intro c6 c7 c8 c9 ca Q cb; have cc : c6 99 = vb (c1) := c9 34 99 (by kernel_rfl) (by kernel_rfl); have cd : c6 100 = uk := c9 35 100 (by kernel_rfl) (by kernel_rfl); have ce : c6 101 = vi (gu) := c9 36 101 (by kernel_rfl) (by kernel_rfl); refine gt 99 cc c3 (L_calls cal46 (args2 cd ce) (ref02_Index_ok N _ _ _ ((uu).ext c8).toV gu c4 c5) (by decide) (fun cf cg ch ci => ?_)); have cj := Tch.ext (Ext.refl c7) ch; obtain rfl := ci.int; exact L_nil (cb _ _ cj rfl)
                    ·intro c6 c7 c8 c9 ca Q cb; have cc : c6 99 = vb (c1) := c9 34 99 (by kernel_rfl) (by kernel_rfl); have cd : c6 102 = vi (c4) := c9 37 102 (by kernel_rfl) (by kernel_rfl); exact gt 99 cc c3 (ls cd (rv (vi 0)) (fin cb rfl))
                    ·intro c6 c7 c8 c9 ca Q cb; have cc : c6 99 = vb (c1) := c9 34 99 (by kernel_rfl) (by kernel_rfl); have cd : c6 103 = vb (decide (c4 < 0)) := c9 38 103 (by kernel_rfl) (by kernel_rfl); exact pt cc c3 cd (fin cb rfl)
                    ·intro c6 c7 c8 c9 ca; have cb := Tch.ext ur c8; have cc : c6 0 = w0 := (ca 0 (by kernel_rfl)).trans uw; have cd : c6 6 = je := (ca 6 (by kernel_rfl)).trans ux; have ce : c6 7 = vi (jg) := (ca 7 (by kernel_rfl)).trans uy; have cf : c6 8 = k5 := (ca 8 (by kernel_rfl)).trans uz; have cg : c6 9 = vi (km) := (ca 9 (by kernel_rfl)).trans t0; have ch : c6 10 = uk := (ca 10 (by kernel_rfl)).trans ut; have ci : c6 11 = vi (gu) := (ca 11 (by kernel_rfl)).trans t1; have cj : c6 12 = vi (um) := (ca 12 (by kernel_rfl)).trans uv; have ck : c6 104 = vb (decide (c4 < 0)) := c9 39 104 (by kernel_rfl); exact then_n ⟨c7, (decide (c4 < 0)), rfl, cb, c8.le, Option.some.inj hr, ck, cc, cd, ce, cf, cg, ch, ci, cj, (t2).ext c8, (t3).ext c8, (uu).ext c8⟩
                   ·have hr := ite_f c3 hr
                    refine W_draws mixed (by kernel_rfl) [PV.data (a0 : List (List Deed)), PV.eq (vi gu), PV.ptr (ti : List Deed), PV.data (ti : List Deed), PV.eq (vi um), PV.ptr (tk : Deed), PV.data (tk : Deed), PV.eq (vb tm), PV.eq (vb tm), PV.data (a0 : List (List Deed)), PV.eq (vi gu), PV.ptr (tq : List Deed), PV.data (tq : List Deed), PV.eq (vi um), PV.ptr (ts : Deed), PV.ptr (ts.Peer : Int), PV.eq (vi (ts.Peer)), PV.eq (vi jg), PV.eq (vb (decide (ts.Peer = jg))), PV.eq (vb (decide (ts.Peer = jg))), PV.eq (vb (decide (ts.Peer = jg))), PV.data (a0 : List (List Deed)), PV.eq (vi gu), PV.ptr (tv : List Deed), PV.data (tv : List Deed), PV.eq (vi um), PV.ptr (tx : Deed), PV.data (tx : Deed), PV.eq (k5), PV.eq (vi km), PV.eq (elemP k5 (km) 5 0), PV.data (tz : Deed), PV.eq (vb c1), PV.eq (vb c1), PV.eq (vb c1), PV.eq (undef), PV.eq (undef), PV.eq (undef), PV.eq (undef), PV.eq (vb false)] (Steps_cons ?_ (Steps_cons ?_ (Steps_cons ?_ (Steps_cons ?_ (Steps_cons ?_ (Steps_cons ?_ (Steps_cons ?_ (Steps_cons ?_ (Steps_cons ?_ (Steps_cons ?_ (Steps_cons ?_ (Steps_cons ?_ (Steps_cons ?_ (Steps_cons ?_ (Steps_cons ?_ (Steps_cons ?_ (Steps_cons ?_ (Steps_cons ?_ (Steps_cons ?_ (Steps_cons ?_ (Steps_cons ?_ (Steps_cons ?_ (Steps_cons ?_ (Steps_cons ?_ (Steps_cons ?_ (Steps_cons ?_ (Steps_cons ?_ (Steps_cons ?_ (Steps_cons ?_ (Steps_cons ?_ (Steps_cons ?_ (Steps_cons ?_ (Steps_cons ?_ (Steps_cons ?_ (Steps_cons ?_ (Steps_cons ?_ (Steps_cons ?_ (Steps_cons ?_ (Steps_cons ?_ (Steps_cons ?_ Steps_nil)))))))))))))))))))))))))))))))))))))))) ?_
                    ·intro c4 c5 c6 c7 c8 Q c9; have ca : c4 0 = w0 := (c8 0 (by kernel_rfl)).trans uw; exact mv ca (fin c9 (h0.mono (j5.le.trans (jm.trans (ka.le.trans (kt.trans (ga.trans (u0.trans (us.trans c6.le)))))))))
                    ·intro c4 c5 c6 c7 c8 Q c9; have ca : c4 11 = vi (gu) := (c8 11 (by kernel_rfl)).trans t1; exact mv ca (fin c9 rfl)
                    ·intro c4 c5 c6 c7 c8 Q c9; have ca : V _ (c4 65) (a0 : List (List Deed)) := c7 0 65 (by kernel_rfl) (by kernel_rfl); obtain ⟨cb, cc, cd⟩ : ∃ v, _ = v ∧ V _ v _ := ⟨_, rfl, ca⟩; have ce : c4 66 = vi (gu) := c7 1 66 (by kernel_rfl) (by kernel_rfl); exact ix Try.underlying22 ty65.inf cc cd ce tj (fun cf cg => fin c9 cg)
                    ·intro c4 c5 c6 c7 c8 Q c9; have ca : Ptr _ (c4 67) (ti : List Deed) := c7 2 67 (by kernel_rfl) (by kernel_rfl); obtain ⟨cb, cc, cd⟩ : ∃ v, _ = v ∧ Ptr _ v _ := ⟨_, rfl, ca⟩; exact ld ty65 cc cd (fun ce cf => fin c9 cf)
                    ·intro c4 c5 c6 c7 c8 Q c9; have ca : c4 12 = vi (um) := (c8 12 (by kernel_rfl)).trans uv; exact mv ca (fin c9 rfl)
                    ·intro c4 c5 c6 c7 c8 Q c9; have ca : V _ (c4 68) (ti : List Deed) := c7 3 68 (by kernel_rfl) (by kernel_rfl); obtain ⟨cb, cc, cd⟩ : ∃ v, _ = v ∧ V _ v _ := ⟨_, rfl, ca⟩; have ce : c4 69 = vi (um) := c7 4 69 (by kernel_rfl) (by kernel_rfl); exact ix Try.underlying65 ty74.inf cc cd ce tl (fun cf cg => fin c9 cg)
                    ·intro c4 c5 c6 c7 c8 Q c9; have ca : Ptr _ (c4 70) (tk : Deed) := c7 5 70 (by kernel_rfl) (by kernel_rfl); obtain ⟨cb, cc, cd⟩ : ∃ v, _ = v ∧ Ptr _ v _ := ⟨_, rfl, ca⟩; exact ld ty74 cc cd (fun ce cf => fin c9 cf)
                    ·intro c4 c5 c6 c7 c8 Q c9; have ca : V _ (c4 71) (tk : Deed) := c7 6 71 (by kernel_rfl) (by kernel_rfl); obtain ⟨cb, cc, cd⟩ : ∃ v, _ = v ∧ V _ v _ := ⟨_, rfl, ca⟩; refine L_calls cal44 (args1 cc) (ref08_sends_ok N _ _ _ cd tm tn) (by decide) (fun ce cf cg ch => ?_); have ci := Tch.ext (Ext.refl c5) cg; obtain rfl := ch.bool; exact L_nil (c9 _ _ ci rfl)
                    ·intro c4 c5 c6 c7 c8 Q c9; have ca : c4 72 = vb (tm) := c7 7 72 (by kernel_rfl) (by kernel_rfl); exact mv ca (fin c9 rfl)
                    ·intro c4 c5 c6 c7 c8 Q c9; have ca : c4 0 = w0 := (c8 0 (by kernel_rfl)).trans uw; have cb : c4 73 = vb (tm) := c7 8 73 (by kernel_rfl) (by kernel_rfl); exact gt 73 cb tp (mv ca (fin c9 (h0.mono (j5.le.trans (jm.trans (ka.le.trans (kt.trans (ga.trans (u0.trans (us.trans c6.le))))))))))
                    ·intro c4 c5 c6 c7 c8 Q c9; have ca : c4 11 = vi (gu) := (c8 11 (by kernel_rfl)).trans t1; have cb : c4 73 = vb (tm) := c7 8 73 (by kernel_rfl) (by kernel_rfl); exact gt 73 cb tp (mv ca (fin c9 rfl))
                    ·intro c4 c5 c6 c7 c8 Q c9; have ca : c4 73 = vb (tm) := c7 8 73 (by kernel_rfl) (by kernel_rfl); have cb : V _ (c4 74) (a0 : List (List Deed)) := c7 9 74 (by kernel_rfl) (by kernel_rfl); obtain ⟨cc, cd, ce⟩ : ∃ v, _ = v ∧ V _ v _ := ⟨_, rfl, cb⟩; have cf : c4 75 = vi (gu) := c7 10 75 (by kernel_rfl) (by kernel_rfl); exact gt 73 ca tp (ix Try.underlying22 ty65.inf cd ce cf tr (fun cg ch => fin c9 ch))
                    ·intro c4 c5 c6 c7 c8 Q c9; have ca : c4 73 = vb (tm) := c7 8 73 (by kernel_rfl) (by kernel_rfl); have cb : Ptr _ (c4 76) (tq : List Deed) := c7 11 76 (by kernel_rfl) (by kernel_rfl); obtain ⟨cc, cd, ce⟩ : ∃ v, _ = v ∧ Ptr _ v _ := ⟨_, rfl, cb⟩; exact gt 73 ca tp (ld ty65 cd ce (fun cf cg => fin c9 cg))
                    ·intro c4 c5 c6 c7 c8 Q c9; have ca : c4 12 = vi (um) := (c8 12 (by kernel_rfl)).trans uv; have cb : c4 73 = vb (tm) := c7 8 73 (by kernel_rfl) (by kernel_rfl); exact gt 73 cb tp (mv ca (fin c9 rfl))
                    ·intro c4 c5 c6 c7 c8 Q c9; have ca : c4 73 = vb (tm) := c7 8 73 (by kernel_rfl) (by kernel_rfl); have cb : V _ (c4 77) (tq : List Deed) := c7 12 77 (by kernel_rfl) (by kernel_rfl); obtain ⟨cc, cd, ce⟩ : ∃ v, _ = v ∧ V _ v _ := ⟨_, rfl, cb⟩; have cf : c4 78 = vi (um) := c7 13 78 (by kernel_rfl) (by kernel_rfl); exact gt 73 ca tp (ix Try.underlying65 ty74.inf cd ce cf tt (fun cg ch => fin c9 ch))
                    ·intro c4 c5 c6 c7 c8 Q c9; have ca : c4 73 = vb (tm) := c7 8 73 (by kernel_rfl) (by kernel_rfl); have cb : Ptr _ (c4 79) (ts : Deed) := c7 14 79 (by kernel_rfl) (by kernel_rfl); obtain ⟨cc, cd, ce⟩ : ∃ v, _ = v ∧ Ptr _ v _ := ⟨_, rfl, cb⟩; exact gt 73 ca tp (fa fld74_1 Deed.of_Peer cd ce (fun cf cg => fin c9 cg))
                    ·intro c4 c5 c6 c7 c8 Q c9; have ca : c4 73 = vb (tm) := c7 8 73 (by kernel_rfl) (by kernel_rfl); have cb : Ptr _ (c4 80) (ts.Peer : Int) := c7 15 80 (by kernel_rfl) (by kernel_rfl); obtain ⟨cc, cd, ce⟩ : ∃ v, _ = v ∧ Ptr _ v _ := ⟨_, rfl, cb⟩; exact gt 73 ca tp (li ty3 cd ce (fin c9 rfl))
                    ·intro c4 c5 c6 c7 c8 Q c9; have ca : c4 7 = vi (jg) := (c8 7 (by kernel_rfl)).trans uy; have cb : c4 73 = vb (tm) := c7 8 73 (by kernel_rfl) (by kernel_rfl); exact gt 73 cb tp (mv ca (fin c9 rfl))
                    ·intro c4 c5 c6 c7 c8 Q c9; have ca : c4 73 = vb (tm) := c7 8 73 (by kernel_rfl) (by kernel_rfl); have cb : c4 81 = vi (ts.Peer) := c7 16 81 (by kernel_rfl) (by kernel_rfl); have cc : c4 82 = vi (jg) := c7 17 82 (by kernel_rfl) (by kernel_rfl); exact gt 73 ca tp (el cb cc (fin c9 rfl))
                    ·intro c4 c5 c6 c7 c8 Q c9; have ca : c4 73 = vb (tm) := c7 8 73 (by kernel_rfl) (by kernel_rfl); have cb : c4 83 = vb (decide (ts.Peer = jg)) := c7 18 83 (by kernel_rfl) (by kernel_rfl); exact pt ca tp cb (fin c9 rfl)
                    ·intro c4 c5 c6 c7 c8 Q c9; have ca : c4 84 = vb (decide (ts.Peer = jg)) := c7 19 84 (by kernel_rfl) (by kernel_rfl); exact mv ca (fin c9 rfl)
                    ·intro c4 c5 c6 c7 c8 Q c9; have ca : c4 0 = w0 := (c8 0 (by kernel_rfl)).trans uw; have cb : c4 85 = vb (decide (ts.Peer = jg)) := c7 20 85 (by kernel_rfl) (by kernel_rfl); exact gt 85 cb tu (mv ca (fin c9 (h0.mono (j5.le.trans (jm.trans (ka.le.trans (kt.trans (ga.trans (u0.trans (us.trans c6.le))))))))))
                    ·intro c4 c5 c6 c7 c8 Q c9; have ca : c4 11 = vi (gu) := (c8 11 (by kernel_rfl)).trans t1; have cb : c4 85 = vb (decide (ts.Peer = jg)) := c7 20 85 (by kernel_rfl) (by kernel_rfl); exact gt 85 cb tu (mv ca (fin c9 rfl))
                    ·intro c4 c5 c6 c7 c8 Q c9; have ca : c4 85 = vb (decide (ts.Peer = jg)) := c7 20 85 (by kernel_rfl) (by kernel_rfl); have cb : V _ (c4 86) (a0 : List (List Deed)) := c7 21 86 (by kernel_rfl) (by kernel_rfl); obtain ⟨cc, cd, ce⟩ : ∃ v, _ = v ∧ V _ v _ := ⟨_, rfl, cb⟩; have cf : c4 87 = vi (gu) := c7 22 87 (by kernel_rfl) (by kernel_rfl); exact gt 85 ca tu (ix Try.underlying22 ty65.inf cd ce cf tw (fun cg ch => fin c9 ch))
                    ·intro c4 c5 c6 c7 c8 Q c9; have ca : c4 85 = vb (decide (ts.Peer = jg)) := c7 20 85 (by kernel_rfl) (by kernel_rfl); have cb : Ptr _ (c4 88) (tv : List Deed) := c7 23 88 (by kernel_rfl) (by kernel_rfl); obtain ⟨cc, cd, ce⟩ : ∃ v, _ = v ∧ Ptr _ v _ := ⟨_, rfl, cb⟩; exact gt 85 ca tu (ld ty65 cd ce (fun cf cg => fin c9 cg))
                    ·intro c4 c5 c6 c7 c8 Q c9; have ca : c4 12 = vi (um) := (c8 12 (by kernel_rfl)).trans uv; have cb : c4 85 = vb (decide (ts.Peer = jg)) := c7 20 85 (by kernel_rfl) (by kernel_rfl); exact gt 85 cb tu (mv ca (fin c9 rfl))
                    ·intro c4 c5 c6 c7 c8 Q c9; have ca : c4 85 = vb (decide (ts.Peer = jg)) := c7 20 85 (by kernel_rfl) (by kernel_rfl); have cb : V _ (c4 89) (tv : List Deed) := c7 24 89 (by kernel_rfl) (by kernel_rfl); obtain ⟨cc, cd, ce⟩ : ∃ v, _ = v ∧ V _ v _ := ⟨_, rfl, cb⟩; have cf : c4 90 = vi (um) := c7 25 90 (by kernel_rfl) (by kernel_rfl); exact gt 85 ca tu (ix Try.underlying65 ty74.inf cd ce cf ty (fun cg ch => fin c9 ch))
                    ·intro c4 c5 c6 c7 c8 Q c9; have ca : c4 85 = vb (decide (ts.Peer = jg)) := c7 20 85 (by kernel_rfl) (by kernel_rfl); have cb : Ptr _ (c4 91) (tx : Deed) := c7 26 91 (by kernel_rfl) (by kernel_rfl); obtain ⟨cc, cd, ce⟩ : ∃ v, _ = v ∧ Ptr _ v _ := ⟨_, rfl, cb⟩; exact gt 85 ca tu (ld ty74 cd ce (fun cf cg => fin c9 cg))
                    ·intro c4 c5 c6 c7 c8 Q c9; have ca : c4 8 = k5 := (c8 8 (by kernel_rfl)).trans uz; have cb : c4 85 = vb (decide (ts.Peer = jg)) := c7 20 85 (by kernel_rfl) (by kernel_rfl); exact gt 85 cb tu (mv ca (fin c9 rfl))
                    ·intro c4 c5 c6 c7 c8 Q c9; have ca : c4 9 = vi (km) := (c8 9 (by kernel_rfl)).trans t0; have cb : c4 85 = vb (decide (ts.Peer = jg)) := c7 20 85 (by kernel_rfl) (by kernel_rfl); exact gt 85 cb tu (mv ca (fin c9 rfl))
                    ·intro c4 c5 c6 c7 c8 Q c9; have ca : c4 85 = vb (decide (ts.Peer = jg)) := c7 20 85 (by kernel_rfl) (by kernel_rfl); have cb : c4 93 = k5 := c7 28 93 (by kernel_rfl) (by kernel_rfl); have cc : c4 94 = vi (km) := c7 29 94 (by kernel_rfl) (by kernel_rfl); exact gt 85 ca tu (L_indexS Try.underlying65 ty74.inf cb cc ((t3).ext c6) c0 (by decide) (fin c9 rfl))
                    ·intro c4 c5 c6 c7 c8 Q c9; have ca : c4 85 = vb (decide (ts.Peer = jg)) := c7 20 85 (by kernel_rfl) (by kernel_rfl); have cb : c4 95 = elemP k5 (km) 5 0 := c7 30 95 (by kernel_rfl) (by kernel_rfl); exact gt 85 ca tu (L_loadS ty74 cb ((t3).ext c6) c0 rfl (by decide) (fun cc cd => fin c9 cd))
                    ·intro c4 c5 c6 c7 c8 Q c9; have ca : c4 85 = vb (decide (ts.Peer = jg)) := c7 20 85 (by kernel_rfl) (by kernel_rfl); have cb : V _ (c4 92) (tx : Deed) := c7 27 92 (by kernel_rfl) (by kernel_rfl); obtain ⟨cc, cd, ce⟩ : ∃ v, _ = v ∧ V _ v _ := ⟨_, rfl, cb⟩; have cf : V _ (c4 96) (tz : Deed) := c7 31 96 (by kernel_rfl) (by kernel_rfl); obtain ⟨cg, ch, ci⟩ : ∃ v, _ = v ∧ V _ v _ := ⟨_, rfl, cf⟩; refine gt 85 ca tu (L_calls cal45 (args2 cd ch) (ref08_fits_ok N _ _ _ ce _ _ ci c1 c2) (by decide) (fun cj ck cl cm => ?_)); have cn := Tch.ext (Ext.refl c5) cl; obtain rfl := cm.bool; exact L_nil (c9 _ _ cn rfl)
                    ·intro c4 c5 c6 c7 c8 Q c9; have ca : c4 85 = vb (decide (ts.Peer = jg)) := c7 20 85 (by kernel_rfl) (by kernel_rfl); have cb : c4 97 = vb (c1) := c7 32 97 (by kernel_rfl) (by kernel_rfl); exact pt ca tu cb (fin c9 rfl)
                    ·intro c4 c5 c6 c7 c8 Q c9; have ca : c4 98 = vb (c1) := c7 33 98 (by kernel_rfl) (by kernel_rfl); exact mv ca (fin c9 rfl)
                    ·intro c4 c5 c6 c7 c8 Q c9; have ca : c4 99 = vb (c1) := c7 34 99 (by kernel_rfl) (by kernel_rfl); exact gf 99 ca c3 (fin c9 rfl)
                    ·intro c4 c5 c6 c7 c8 Q c9; have ca : c4 99 = vb (c1) := c7 34 99 (by kernel_rfl) (by kernel_rfl); exact gf 99 ca c3 (fin c9 rfl)
                    ·intro c4 c5 c6 c7 c8 Q c9; have ca : c4 99 = vb (c1) := c7 34 99 (by kernel_rfl) (by kernel_rfl); exact gf 99 ca c3 (fin c9 rfl)
                    ·intro c4 c5 c6 c7 c8 Q c9; have ca : c4 99 = vb (c1) := c7 34 99 (by kernel_rfl) (by kernel_rfl); exact gf 99 ca c3 (fin c9 rfl)
                    ·intro c4 c5 c6 c7 c8 Q c9; have ca : c4 99 = vb (c1) := c7 34 99 (by kernel_rfl) (by kernel_rfl); exact pf ca c3 (rv (vb false)) (fin c9 rfl)
                    ·intro c4 c5 c6 c7 c8; have c9 := Tch.ext ur c6; have ca : c4 0 = w0 := (c8 0 (by kernel_rfl)).trans uw; have cb : c4 6 = je := (c8 6 (by kernel_rfl)).trans ux; have cc : c4 7 = vi (jg) := (c8 7 (by kernel_rfl)).trans uy; have cd : c4 8 = k5 := (c8 8 (by kernel_rfl)).trans uz; have ce : c4 9 = vi (km) := (c8 9 (by kernel_rfl)).trans t0; have cf : c4 10 = uk := (c8 10 (by kernel_rfl)).trans ut; have cg : c4 11 = vi (gu) := (c8 11 (by kernel_rfl)).trans t1; have ch : c4 12 = vi (um) := (c8 12 (by kernel_rfl)).trans uv; have ci : c4 104 = vb (false) := c7 39 104 (by kernel_rfl); exact then_n ⟨c5, false, rfl, c9, c6.le, Option.some.inj hr, ci, ca, cb, cc, cd, ce, cf, cg, ch, (t2).ext c6, (t3).ext c6, (uu).ext c6⟩
                  ·have hr := ite_f tu hr
                   refine W_draws mixed (by kernel_rfl) [PV.data (a0 : List (List Deed)), PV.eq (vi gu), PV.ptr (ti : List Deed), PV.data (ti : List Deed), PV.eq (vi um), PV.ptr (tk : Deed), PV.data (tk : Deed), PV.eq (vb tm), PV.eq (vb tm), PV.data (a0 : List (List Deed)), PV.eq (vi gu), PV.ptr (tq : List Deed), PV.data (tq : List Deed), PV.eq (vi um), PV.ptr (ts : Deed), PV.ptr (ts.Peer : Int), PV.eq (vi (ts.Peer)), PV.eq (vi jg), PV.eq (vb (decide (ts.Peer = jg))), PV.eq (vb (decide (ts.Peer = jg))), PV.eq (vb (decide (ts.Peer = jg))), PV.eq (undef), PV.eq (undef), PV.eq (undef), PV.eq (undef), PV.eq (undef), PV.eq (undef), PV.eq (undef), PV.eq (undef), PV.eq (undef), PV.eq (undef), PV.eq (undef), PV.eq (undef), PV.eq (vb false), PV.eq (vb false), PV.eq (undef), PV.eq (undef), PV.eq (undef), PV.eq (undef), PV.eq (vb false)] (Steps_cons ?_ (Steps_cons ?_ (Steps_cons ?_ (Steps_cons ?_ (Steps_cons ?_ (Steps_cons ?_ (Steps_cons ?_ (Steps_cons ?_ (Steps_cons ?_ (Steps_cons ?_ (Steps_cons ?_ (Steps_cons ?_ (Steps_cons ?_ (Steps_cons ?_ (Steps_cons ?_ (Steps_cons ?_ (Steps_cons ?_ (Steps_cons ?_ (Steps_cons ?_ (Steps_cons ?_ (Steps_cons ?_ (Steps_cons ?_ (Steps_cons ?_ (Steps_cons ?_ (Steps_cons ?_ (Steps_cons ?_ (Steps_cons ?_ (Steps_cons ?_ (Steps_cons ?_ (Steps_cons ?_ (Steps_cons ?_ (Steps_cons ?_ (Steps_cons ?_ (Steps_cons ?_ (Steps_cons ?_ (Steps_cons ?_ (Steps_cons ?_ (Steps_cons ?_ (Steps_cons ?_ (Steps_cons ?_ Steps_nil)))))))))))))))))))))))))))))))))))))))) ?_
                   ·intro tv tw tx ty tz Q c0; have c1 : tv 0 = w0 := (tz 0 (by kernel_rfl)).trans uw; exact mv c1 (fin c0 (h0.mono (j5.le.trans (jm.trans (ka.le.trans (kt.trans (ga.trans (u0.trans (us.trans tx.le)))))))))
                   ·intro tv tw tx ty tz Q c0; have c1 : tv 11 = vi (gu) := (tz 11 (by kernel_rfl)).trans t1; exact mv c1 (fin c0 rfl)
                   ·intro tv tw tx ty tz Q c0; have c1 : V _ (tv 65) (a0 : List (List Deed)) := ty 0 65 (by kernel_rfl) (by kernel_rfl); obtain ⟨c2, c3, c4⟩ : ∃ v, _ = v ∧ V _ v _ := ⟨_, rfl, c1⟩; have c5 : tv 66 = vi (gu) := ty 1 66 (by kernel_rfl) (by kernel_rfl); exact ix Try.underlying22 ty65.inf c3 c4 c5 tj (fun c6 c7 => fin c0 c7)
                   ·intro tv tw tx ty tz Q c0; have c1 : Ptr _ (tv 67) (ti : List Deed) := ty 2 67 (by kernel_rfl) (by kernel_rfl); obtain ⟨c2, c3, c4⟩ : ∃ v, _ = v ∧ Ptr _ v _ := ⟨_, rfl, c1⟩; exact ld ty65 c3 c4 (fun c5 c6 => fin c0 c6)
                   ·intro tv tw tx ty tz Q c0; have c1 : tv 12 = vi (um) := (tz 12 (by kernel_rfl)).trans uv; exact mv c1 (fin c0 rfl)
                   ·intro tv tw tx ty tz Q c0; have c1 : V _ (tv 68) (ti : List Deed) := ty 3 68 (by kernel_rfl) (by kernel_rfl); obtain ⟨c2, c3, c4⟩ : ∃ v, _ = v ∧ V _ v _ := ⟨_, rfl, c1⟩; have c5 : tv 69 = vi (um) := ty 4 69 (by kernel_rfl) (by kernel_rfl); exact ix Try.underlying65 ty74.inf c3 c4 c5 tl (fun c6 c7 => fin c0 c7)
                   ·intro tv tw tx ty tz Q c0; have c1 : Ptr _ (tv 70) (tk : Deed) := ty 5 70 (by kernel_rfl) (by kernel_rfl); obtain ⟨c2, c3, c4⟩ : ∃ v, _ = v ∧ Ptr _ v _ := ⟨_, rfl, c1⟩; exact ld ty74 c3 c4 (fun c5 c6 => fin c0 c6)
                   ·intro tv tw tx ty tz Q c0; have c1 : V _ (tv 71) (tk : Deed) := ty 6 71 (by kernel_rfl) (by kernel_rfl); obtain ⟨c2, c3, c4⟩ : ∃ v, _ = v ∧ V _ v _ := ⟨_, rfl, c1⟩; refine L_calls cal44 (args1 c3) (ref08_sends_ok N _ _ _ c4 tm tn) (by decide) (fun c5 c6 c7 c8 => ?_); have c9 := Tch.ext (Ext.refl tw) c7; obtain rfl := c8.bool; exact L_nil (c0 _ _ c9 rfl)
                   ·intro tv tw tx ty tz Q c0; have c1 : tv 72 = vb (tm) := ty 7 72 (by kernel_rfl) (by kernel_rfl); exact mv c1 (fin c0 rfl)
                   ·intro tv tw tx ty tz Q c0; have c1 : tv 0 = w0 := (tz 0 (by kernel_rfl)).trans uw; have c2 : tv 73 = vb (tm) := ty 8 73 (by kernel_rfl) (by kernel_rfl); exact gt 73 c2 tp (mv c1 (fin c0 (h0.mono (j5.le.trans (jm.trans (ka.le.trans (kt.trans (ga.trans (u0.trans (us.trans tx.le))))))))))
                   ·intro tv tw tx ty tz Q c0; have c1 : tv 11 = vi (gu) := (tz 11 (by kernel_rfl)).trans t1; have c2 : tv 73 = vb (tm) := ty 8 73 (by kernel_rfl) (by kernel_rfl); exact gt 73 c2 tp (mv c1 (fin c0 rfl))
                   ·intro tv tw tx ty tz Q c0; have c1 : tv 73 = vb (tm) := ty 8 73 (by kernel_rfl) (by kernel_rfl); have c2 : V _ (tv 74) (a0 : List (List Deed)) := ty 9 74 (by kernel_rfl) (by kernel_rfl); obtain ⟨c3, c4, c5⟩ : ∃ v, _ = v ∧ V _ v _ := ⟨_, rfl, c2⟩; have c6 : tv 75 = vi (gu) := ty 10 75 (by kernel_rfl) (by kernel_rfl); exact gt 73 c1 tp (ix Try.underlying22 ty65.inf c4 c5 c6 tr (fun c7 c8 => fin c0 c8))
                   ·intro tv tw tx ty tz Q c0; have c1 : tv 73 = vb (tm) := ty 8 73 (by kernel_rfl) (by kernel_rfl); have c2 : Ptr _ (tv 76) (tq : List Deed) := ty 11 76 (by kernel_rfl) (by kernel_rfl); obtain ⟨c3, c4, c5⟩ : ∃ v, _ = v ∧ Ptr _ v _ := ⟨_, rfl, c2⟩; exact gt 73 c1 tp (ld ty65 c4 c5 (fun c6 c7 => fin c0 c7))
                   ·intro tv tw tx ty tz Q c0; have c1 : tv 12 = vi (um) := (tz 12 (by kernel_rfl)).trans uv; have c2 : tv 73 = vb (tm) := ty 8 73 (by kernel_rfl) (by kernel_rfl); exact gt 73 c2 tp (mv c1 (fin c0 rfl))
                   ·intro tv tw tx ty tz Q c0; have c1 : tv 73 = vb (tm) := ty 8 73 (by kernel_rfl) (by kernel_rfl); have c2 : V _ (tv 77) (tq : List Deed) := ty 12 77 (by kernel_rfl) (by kernel_rfl); obtain ⟨c3, c4, c5⟩ : ∃ v, _ = v ∧ V _ v _ := ⟨_, rfl, c2⟩; have c6 : tv 78 = vi (um) := ty 13 78 (by kernel_rfl) (by kernel_rfl); exact gt 73 c1 tp (ix Try.underlying65 ty74.inf c4 c5 c6 tt (fun c7 c8 => fin c0 c8))
                   ·intro tv tw tx ty tz Q c0; have c1 : tv 73 = vb (tm) := ty 8 73 (by kernel_rfl) (by kernel_rfl); have c2 : Ptr _ (tv 79) (ts : Deed) := ty 14 79 (by kernel_rfl) (by kernel_rfl); obtain ⟨c3, c4, c5⟩ : ∃ v, _ = v ∧ Ptr _ v _ := ⟨_, rfl, c2⟩; exact gt 73 c1 tp (fa fld74_1 Deed.of_Peer c4 c5 (fun c6 c7 => fin c0 c7))
                   ·intro tv tw tx ty tz Q c0; have c1 : tv 73 = vb (tm) := ty 8 73 (by kernel_rfl) (by kernel_rfl); have c2 : Ptr _ (tv 80) (ts.Peer : Int) := ty 15 80 (by kernel_rfl) (by kernel_rfl); obtain ⟨c3, c4, c5⟩ : ∃ v, _ = v ∧ Ptr _ v _ := ⟨_, rfl, c2⟩; exact gt 73 c1 tp (li ty3 c4 c5 (fin c0 rfl))
                   ·intro tv tw tx ty tz Q c0; have c1 : tv 7 = vi (jg) := (tz 7 (by kernel_rfl)).trans uy; have c2 : tv 73 = vb (tm) := ty 8 73 (by kernel_rfl) (by kernel_rfl); exact gt 73 c2 tp (mv c1 (fin c0 rfl))
                   ·intro tv tw tx ty tz Q c0; have c1 : tv 73 = vb (tm) := ty 8 73 (by kernel_rfl) (by kernel_rfl); have c2 : tv 81 = vi (ts.Peer) := ty 16 81 (by kernel_rfl) (by kernel_rfl); have c3 : tv 82 = vi (jg) := ty 17 82 (by kernel_rfl) (by kernel_rfl); exact gt 73 c1 tp (el c2 c3 (fin c0 rfl))
                   ·intro tv tw tx ty tz Q c0; have c1 : tv 73 = vb (tm) := ty 8 73 (by kernel_rfl) (by kernel_rfl); have c2 : tv 83 = vb (decide (ts.Peer = jg)) := ty 18 83 (by kernel_rfl) (by kernel_rfl); exact pt c1 tp c2 (fin c0 rfl)
                   ·intro tv tw tx ty tz Q c0; have c1 : tv 84 = vb (decide (ts.Peer = jg)) := ty 19 84 (by kernel_rfl) (by kernel_rfl); exact mv c1 (fin c0 rfl)
                   ·intro tv tw tx ty tz Q c0; have c1 : tv 85 = vb (decide (ts.Peer = jg)) := ty 20 85 (by kernel_rfl) (by kernel_rfl); exact gf 85 c1 tu (fin c0 rfl)
                   ·intro tv tw tx ty tz Q c0; have c1 : tv 85 = vb (decide (ts.Peer = jg)) := ty 20 85 (by kernel_rfl) (by kernel_rfl); exact gf 85 c1 tu (fin c0 rfl)
                   ·intro tv tw tx ty tz Q c0; have c1 : tv 85 = vb (decide (ts.Peer = jg)) := ty 20 85 (by kernel_rfl) (by kernel_rfl); exact gf 85 c1 tu (fin c0 rfl)
                   ·intro tv tw tx ty tz Q c0; have c1 : tv 85 = vb (decide (ts.Peer = jg)) := ty 20 85 (by kernel_rfl) (by kernel_rfl); exact gf 85 c1 tu (fin c0 rfl)
                   ·intro tv tw tx ty tz Q c0; have c1 : tv 85 = vb (decide (ts.Peer = jg)) := ty 20 85 (by kernel_rfl) (by kernel_rfl); exact gf 85 c1 tu (fin c0 rfl)
                   ·intro tv tw tx ty tz Q c0; have c1 : tv 85 = vb (decide (ts.Peer = jg)) := ty 20 85 (by kernel_rfl) (by kernel_rfl); exact gf 85 c1 tu (fin c0 rfl)
                   ·intro tv tw tx ty tz Q c0; have c1 : tv 85 = vb (decide (ts.Peer = jg)) := ty 20 85 (by kernel_rfl) (by kernel_rfl); exact gf 85 c1 tu (fin c0 rfl)
                   ·intro tv tw tx ty tz Q c0; have c1 : tv 85 = vb (decide (ts.Peer = jg)) := ty 20 85 (by kernel_rfl) (by kernel_rfl); exact gf 85 c1 tu (fin c0 rfl)
                   ·intro tv tw tx ty tz Q c0; have c1 : tv 85 = vb (decide (ts.Peer = jg)) := ty 20 85 (by kernel_rfl) (by kernel_rfl); exact gf 85 c1 tu (fin c0 rfl)
                   ·intro tv tw tx ty tz Q c0; have c1 : tv 85 = vb (decide (ts.Peer = jg)) := ty 20 85 (by kernel_rfl) (by kernel_rfl); exact gf 85 c1 tu (fin c0 rfl)
                   ·intro tv tw tx ty tz Q c0; have c1 : tv 85 = vb (decide (ts.Peer = jg)) := ty 20 85 (by kernel_rfl) (by kernel_rfl); exact gf 85 c1 tu (fin c0 rfl)
                   ·intro tv tw tx ty tz Q c0; have c1 : tv 85 = vb (decide (ts.Peer = jg)) := ty 20 85 (by kernel_rfl) (by kernel_rfl); exact gf 85 c1 tu (fin c0 rfl)
                   ·intro tv tw tx ty tz Q c0; have c1 : tv 85 = vb (decide (ts.Peer = jg)) := ty 20 85 (by kernel_rfl) (by kernel_rfl); exact pf c1 tu (rv (vb false)) (fin c0 rfl)
                   ·intro tv tw tx ty tz Q c0; have c1 : tv 98 = vb (false) := ty 33 98 (by kernel_rfl) (by kernel_rfl); exact mv c1 (fin c0 rfl)
                   ·intro tv tw tx ty tz Q c0; have c1 : tv 99 = vb (false) := ty 34 99 (by kernel_rfl) (by kernel_rfl); exact gf 99 c1 rfl (fin c0 rfl)
                   ·intro tv tw tx ty tz Q c0; have c1 : tv 99 = vb (false) := ty 34 99 (by kernel_rfl) (by kernel_rfl); exact gf 99 c1 rfl (fin c0 rfl)
                   ·intro tv tw tx ty tz Q c0; have c1 : tv 99 = vb (false) := ty 34 99 (by kernel_rfl) (by kernel_rfl); exact gf 99 c1 rfl (fin c0 rfl)
                   ·intro tv tw tx ty tz Q c0; have c1 : tv 99 = vb (false) := ty 34 99 (by kernel_rfl) (by kernel_rfl); exact gf 99 c1 rfl (fin c0 rfl)
                   ·intro tv tw tx ty tz Q c0; have c1 : tv 99 = vb (false) := ty 34 99 (by kernel_rfl) (by kernel_rfl); exact pf c1 rfl (rv (vb false)) (fin c0 rfl)
                   ·intro tv tw tx ty tz; have c0 := Tch.ext ur tx; have c1 : tv 0 = w0 := (tz 0 (by kernel_rfl)).trans uw; have c2 : tv 6 = je := (tz 6 (by kernel_rfl)).trans ux; have c3 : tv 7 = vi (jg) := (tz 7 (by kernel_rfl)).trans uy; have c4 : tv 8 = k5 := (tz 8 (by kernel_rfl)).trans uz; have c5 : tv 9 = vi (km) := (tz 9 (by kernel_rfl)).trans t0; have c6 : tv 10 = uk := (tz 10 (by kernel_rfl)).trans ut; have c7 : tv 11 = vi (gu) := (tz 11 (by kernel_rfl)).trans t1; have c8 : tv 12 = vi (um) := (tz 12 (by kernel_rfl)).trans uv; have c9 : tv 104 = vb (false) := ty 39 104 (by kernel_rfl); exact then_n ⟨tw, false, rfl, c0, tx.le, Option.some.inj hr, c9, c1, c2, c3, c4, c5, c6, c7, c8, (t2).ext tx, (t3).ext tx, (uu).ext tx⟩
                 ·have hr := ite_f tp hr
                  refine W_draws mixed (by kernel_rfl) [PV.data (a0 : List (List Deed)), PV.eq (vi gu), PV.ptr (ti : List Deed), PV.data (ti : List Deed), PV.eq (vi um), PV.ptr (tk : Deed), PV.data (tk : Deed), PV.eq (vb tm), PV.eq (vb tm), PV.eq (undef), PV.eq (undef), PV.eq (undef), PV.eq (undef), PV.eq (undef), PV.eq (undef), PV.eq (undef), PV.eq (undef), PV.eq (undef), PV.eq (undef), PV.eq (vb false), PV.eq (vb false), PV.eq (undef), PV.eq (undef), PV.eq (undef), PV.eq (undef), PV.eq (undef), PV.eq (undef), PV.eq (undef), PV.eq (undef), PV.eq (undef), PV.eq (undef), PV.eq (undef), PV.eq (undef), PV.eq (vb false), PV.eq (vb false), PV.eq (undef), PV.eq (undef), PV.eq (undef), PV.eq (undef), PV.eq (vb false)] (Steps_cons ?_ (Steps_cons ?_ (Steps_cons ?_ (Steps_cons ?_ (Steps_cons ?_ (Steps_cons ?_ (Steps_cons ?_ (Steps_cons ?_ (Steps_cons ?_ (Steps_cons ?_ (Steps_cons ?_ (Steps_cons ?_ (Steps_cons ?_ (Steps_cons ?_ (Steps_cons ?_ (Steps_cons ?_ (Steps_cons ?_ (Steps_cons ?_ (Steps_cons ?_ (Steps_cons ?_ (Steps_cons ?_ (Steps_cons ?_ (Steps_cons ?_ (Steps_cons ?_ (Steps_cons ?_ (Steps_cons ?_ (Steps_cons ?_ (Steps_cons ?_ (Steps_cons ?_ (Steps_cons ?_ (Steps_cons ?_ (Steps_cons ?_ (Steps_cons ?_ (Steps_cons ?_ (Steps_cons ?_ (Steps_cons ?_ (Steps_cons ?_ (Steps_cons ?_ (Steps_cons ?_ (Steps_cons ?_ Steps_nil)))))))))))))))))))))))))))))))))))))))) ?_
                  ·intro tq tr ts tt tu Q tv; have tw : tq 0 = w0 := (tu 0 (by kernel_rfl)).trans uw; exact mv tw (fin tv (h0.mono (j5.le.trans (jm.trans (ka.le.trans (kt.trans (ga.trans (u0.trans (us.trans ts.le)))))))))
                  ·intro tq tr ts tt tu Q tv; have tw : tq 11 = vi (gu) := (tu 11 (by kernel_rfl)).trans t1; exact mv tw (fin tv rfl)
                  ·intro tq tr ts tt tu Q tv; have tw : V _ (tq 65) (a0 : List (List Deed)) := tt 0 65 (by kernel_rfl) (by kernel_rfl); obtain ⟨tx, ty, tz⟩ : ∃ v, _ = v ∧ V _ v _ := ⟨_, rfl, tw⟩; have c0 : tq 66 = vi (gu) := tt 1 66 (by kernel_rfl) (by kernel_rfl); exact ix Try.underlying22 ty65.inf ty tz c0 tj (fun c1 c2 => fin tv c2)
                  ·intro tq tr ts tt tu Q tv; have tw : Ptr _ (tq 67) (ti : List Deed) := tt 2 67 (by kernel_rfl) (by kernel_rfl); obtain ⟨tx, ty, tz⟩ : ∃ v, _ = v ∧ Ptr _ v _ := ⟨_, rfl, tw⟩; exact ld ty65 ty tz (fun c0 c1 => fin tv c1)
                  ·intro tq tr ts tt tu Q tv; have tw : tq 12 = vi (um) := (tu 12 (by kernel_rfl)).trans uv; exact mv tw (fin tv rfl)
                  ·intro tq tr ts tt tu Q tv; have tw : V _ (tq 68) (ti : List Deed) := tt 3 68 (by kernel_rfl) (by kernel_rfl); obtain ⟨tx, ty, tz⟩ : ∃ v, _ = v ∧ V _ v _ := ⟨_, rfl, tw⟩; have c0 : tq 69 = vi (um) := tt 4 69 (by kernel_rfl) (by kernel_rfl); exact ix Try.underlying65 ty74.inf ty tz c0 tl (fun c1 c2 => fin tv c2)
                  ·intro tq tr ts tt tu Q tv; have tw : Ptr _ (tq 70) (tk : Deed) := tt 5 70 (by kernel_rfl) (by kernel_rfl); obtain ⟨tx, ty, tz⟩ : ∃ v, _ = v ∧ Ptr _ v _ := ⟨_, rfl, tw⟩; exact ld ty74 ty tz (fun c0 c1 => fin tv c1)
                  ·intro tq tr ts tt tu Q tv; have tw : V _ (tq 71) (tk : Deed) := tt 6 71 (by kernel_rfl) (by kernel_rfl); obtain ⟨tx, ty, tz⟩ : ∃ v, _ = v ∧ V _ v _ := ⟨_, rfl, tw⟩; refine L_calls cal44 (args1 ty) (ref08_sends_ok N _ _ _ tz tm tn) (by decide) (fun c0 c1 c2 c3 => ?_); have c4 := Tch.ext (Ext.refl tr) c2; obtain rfl := c3.bool; exact L_nil (tv _ _ c4 rfl)
                  ·intro tq tr ts tt tu Q tv; have tw : tq 72 = vb (tm) := tt 7 72 (by kernel_rfl) (by kernel_rfl); exact mv tw (fin tv rfl)
                  ·intro tq tr ts tt tu Q tv; have tw : tq 73 = vb (tm) := tt 8 73 (by kernel_rfl) (by kernel_rfl); exact gf 73 tw tp (fin tv rfl)
                  ·intro tq tr ts tt tu Q tv; have tw : tq 73 = vb (tm) := tt 8 73 (by kernel_rfl) (by kernel_rfl); exact gf 73 tw tp (fin tv rfl)
                  ·intro tq tr ts tt tu Q tv; have tw : tq 73 = vb (tm) := tt 8 73 (by kernel_rfl) (by kernel_rfl); exact gf 73 tw tp (fin tv rfl)
                  ·intro tq tr ts tt tu Q tv; have tw : tq 73 = vb (tm) := tt 8 73 (by kernel_rfl) (by kernel_rfl); exact gf 73 tw tp (fin tv rfl)
                  ·intro tq tr ts tt tu Q tv; have tw : tq 73 = vb (tm) := tt 8 73 (by kernel_rfl) (by kernel_rfl); exact gf 73 tw tp (fin tv rfl)
                  ·intro tq tr ts tt tu Q tv; have tw : tq 73 = vb (tm) := tt 8 73 (by kernel_rfl) (by kernel_rfl); exact gf 73 tw tp (fin tv rfl)
                  ·intro tq tr ts tt tu Q tv; have tw : tq 73 = vb (tm) := tt 8 73 (by kernel_rfl) (by kernel_rfl); exact gf 73 tw tp (fin tv rfl)
                  ·intro tq tr ts tt tu Q tv; have tw : tq 73 = vb (tm) := tt 8 73 (by kernel_rfl) (by kernel_rfl); exact gf 73 tw tp (fin tv rfl)
                  ·intro tq tr ts tt tu Q tv; have tw : tq 73 = vb (tm) := tt 8 73 (by kernel_rfl) (by kernel_rfl); exact gf 73 tw tp (fin tv rfl)
                  ·intro tq tr ts tt tu Q tv; have tw : tq 73 = vb (tm) := tt 8 73 (by kernel_rfl) (by kernel_rfl); exact gf 73 tw tp (fin tv rfl)
                  ·intro tq tr ts tt tu Q tv; have tw : tq 73 = vb (tm) := tt 8 73 (by kernel_rfl) (by kernel_rfl); exact pf tw tp (rv (vb false)) (fin tv rfl)
                  ·intro tq tr ts tt tu Q tv; have tw : tq 84 = vb (false) := tt 19 84 (by kernel_rfl) (by kernel_rfl); exact mv tw (fin tv rfl)
                  ·intro tq tr ts tt tu Q tv; have tw : tq 85 = vb (false) := tt 20 85 (by kernel_rfl) (by kernel_rfl); exact gf 85 tw rfl (fin tv rfl)
                  ·intro tq tr ts tt tu Q tv; have tw : tq 85 = vb (false) := tt 20 85 (by kernel_rfl) (by kernel_rfl); exact gf 85 tw rfl (fin tv rfl)
                  ·intro tq tr ts tt tu Q tv; have tw : tq 85 = vb (false) := tt 20 85 (by kernel_rfl) (by kernel_rfl); exact gf 85 tw rfl (fin tv rfl)
                  ·intro tq tr ts tt tu Q tv; have tw : tq 85 = vb (false) := tt 20 85 (by kernel_rfl) (by kernel_rfl); exact gf 85 tw rfl (fin tv rfl)
                  ·intro tq tr ts tt tu Q tv; have tw : tq 85 = vb (false) := tt 20 85 (by kernel_rfl) (by kernel_rfl); exact gf 85 tw rfl (fin tv rfl)
                  ·intro tq tr ts tt tu Q tv; have tw : tq 85 = vb (false) := tt 20 85 (by kernel_rfl) (by kernel_rfl); exact gf 85 tw rfl (fin tv rfl)
                  ·intro tq tr ts tt tu Q tv; have tw : tq 85 = vb (false) := tt 20 85 (by kernel_rfl) (by kernel_rfl); exact gf 85 tw rfl (fin tv rfl)
                  ·intro tq tr ts tt tu Q tv; have tw : tq 85 = vb (false) := tt 20 85 (by kernel_rfl) (by kernel_rfl); exact gf 85 tw rfl (fin tv rfl)
                  ·intro tq tr ts tt tu Q tv; have tw : tq 85 = vb (false) := tt 20 85 (by kernel_rfl) (by kernel_rfl); exact gf 85 tw rfl (fin tv rfl)
                  ·intro tq tr ts tt tu Q tv; have tw : tq 85 = vb (false) := tt 20 85 (by kernel_rfl) (by kernel_rfl); exact gf 85 tw rfl (fin tv rfl)
                  ·intro tq tr ts tt tu Q tv; have tw : tq 85 = vb (false) := tt 20 85 (by kernel_rfl) (by kernel_rfl); exact gf 85 tw rfl (fin tv rfl)
                  ·intro tq tr ts tt tu Q tv; have tw : tq 85 = vb (false) := tt 20 85 (by kernel_rfl) (by kernel_rfl); exact gf 85 tw rfl (fin tv rfl)
                  ·intro tq tr ts tt tu Q tv; have tw : tq 85 = vb (false) := tt 20 85 (by kernel_rfl) (by kernel_rfl); exact pf tw rfl (rv (vb false)) (fin tv rfl)
                  ·intro tq tr ts tt tu Q tv; have tw : tq 98 = vb (false) := tt 33 98 (by kernel_rfl) (by kernel_rfl); exact mv tw (fin tv rfl)
                  ·intro tq tr ts tt tu Q tv; have tw : tq 99 = vb (false) := tt 34 99 (by kernel_rfl) (by kernel_rfl); exact gf 99 tw rfl (fin tv rfl)
                  ·intro tq tr ts tt tu Q tv; have tw : tq 99 = vb (false) := tt 34 99 (by kernel_rfl) (by kernel_rfl); exact gf 99 tw rfl (fin tv rfl)
                  ·intro tq tr ts tt tu Q tv; have tw : tq 99 = vb (false) := tt 34 99 (by kernel_rfl) (by kernel_rfl); exact gf 99 tw rfl (fin tv rfl)
                  ·intro tq tr ts tt tu Q tv; have tw : tq 99 = vb (false) := tt 34 99 (by kernel_rfl) (by kernel_rfl); exact gf 99 tw rfl (fin tv rfl)
                  ·intro tq tr ts tt tu Q tv; have tw : tq 99 = vb (false) := tt 34 99 (by kernel_rfl) (by kernel_rfl); exact pf tw rfl (rv (vb false)) (fin tv rfl)
                  ·intro tq tr ts tt tu; have tv := Tch.ext ur ts; have tw : tq 0 = w0 := (tu 0 (by kernel_rfl)).trans uw; have tx : tq 6 = je := (tu 6 (by kernel_rfl)).trans ux; have ty : tq 7 = vi (jg) := (tu 7 (by kernel_rfl)).trans uy; have tz : tq 8 = k5 := (tu 8 (by kernel_rfl)).trans uz; have c0 : tq 9 = vi (km) := (tu 9 (by kernel_rfl)).trans t0; have c1 : tq 10 = uk := (tu 10 (by kernel_rfl)).trans ut; have c2 : tq 11 = vi (gu) := (tu 11 (by kernel_rfl)).trans t1; have c3 : tq 12 = vi (um) := (tu 12 (by kernel_rfl)).trans uv; have c4 : tq 104 = vb (false) := tt 39 104 (by kernel_rfl); exact then_n ⟨tr, false, rfl, tv, ts.le, Option.some.inj hr, c4, tw, tx, ty, tz, c0, c1, c2, c3, (t2).ext ts, (t3).ext ts, (uu).ext ts⟩
                ·rintro ti tj ⟨tk, th, rfl, tl, tm, te, tn, tp, tq, tr, ts, tt, tu, tv, tw, tx, ty, tz⟩
                 subst te
                 have hr := tg
                 try dsimp only at hr
                 refine W_cond _ tn (fun c0 => ?_) (fun c0 => ?_)
                 ·have hr := ite_t c0 hr
                  refine W_region (mv tu (mv tv (L_buildSlice (xs := ([gu] : List Int)) Try.underlying23 tyz3 (Parts_cons rfl (rv (vi gu)) Parts_nil) (Vs.cons Vint Vs.nil) rfl (by decide) (by decide) (fun c1 c2 c3 c4 c5 => ?_))))
                  have c6 := Tch.ext tl c3
                  obtain ⟨c7, hr⟩ := chk_some hr
                  refine L_append (xs := ul) (B := s0.w.heap.size) Try.underlying23 tyz3 (rv uk) (rv c2) ((tz).ext c3) (c6.size) c5 c7.1 c7.2 (by decide) (fun c8 c9 ca => ?_)
                  have cb := ca.tchM ((tz).ext c3) c6 (Nat.le_refl _)
                  have cc := ca.apart ((tx).ext c3) (fun k hk hm => t4 k hm hk)
                  have cd : ∀ k, (own k5) k → ¬ own c8 k := fun k ke kf => by rcases ca.own k kf with kg | kg; exact (fun k hk hm => t5 k hm hk) k ke kg; have kh := (((ty).ext c3).lt ke).2; omega
                  refine asg (rv c8) (L_nil (block_n (then_n (W_region (mv tw ?_)))))
                  obtain ⟨ce, hr⟩ := chk_some hr
                  exact ad (rv (vi um)) (rv (vi 1)) ce (asg (rv (vi (um + 1))) (nn ⟨un, Nat.lt_succ_self _, ⟨c9, c8, (ul ++ ([gu] : List Int)), (um + 1), rfl, cb, (us.trans (tm.trans (c3.le.trans ca.tch.le))), hr, rfl, ca.bld, rfl, tp, tq, tr, ts, tt, tv, ((tx).ext c3).tch ca.tch (fun k hk hm => t4 k hm hk), ((ty).ext c3).tch ca.tch (fun k hk hm => t5 k hm hk), (fun k hk hm => cc k hm hk), (fun k hk hm => cd k hm hk)⟩⟩))
                 ·have hr := ite_f c0 hr; refine W_skip (block_n (then_n (W_region (mv tw ?_)))); obtain ⟨c1, hr⟩ := chk_some hr; exact ad (rv (vi um)) (rv (vi 1)) c1 (asg (rv (vi (um + 1))) (nn ⟨un, Nat.lt_succ_self _, ⟨tk, uk, ul, (um + 1), rfl, tl, (us.trans tm), hr, tu, tz, rfl, tp, tq, tr, ts, tt, tv, tx, ty, t4, t5⟩⟩))
               ·have hr := ite_f tc hr; refine W_exit (then_x (then_x (block_here ?_))); exact then_n ⟨uq, uk, ul, rfl, ur, us, Option.some.inj hr, ut, uu, uw, ux, uy, uz, t0, t1, t2, t3, t4, t5⟩
             ·rintro uk ul ⟨um, ui, uj, rfl, un, uo, ug, up, uq, ur, us, ut, uu, uv, uw, ux, uy, uz, t0⟩; subst ug; have hr := uh; (try dsimp only at hr); refine block_n (then_n (W_region (mv uw ?_))); obtain ⟨t1, hr⟩ := chk_some hr; exact ad (rv (vi gu)) (rv (vi 1)) t1 (asg (rv (vi (gu + 1))) (nn ⟨gv, Nat.lt_succ_self _, ⟨um, ui, uj, (gu + 1), rfl, un, (u0.trans uo), hr, up, uq, rfl, ur, us, ut, uu, uv, ux, uy, uz, t0⟩⟩))
            ·have hr := ite_f ue hr; refine W_exit (then_x (then_x (block_here ?_))); exact then_n ⟨gy, gr, gs, rfl, gz, u0, Option.some.inj hr, u1, u2, u4, u5, u6, u7, u9, ua, ub, uc, ud⟩
          ·rintro gr gs ⟨gu, gp, gq, rfl, gv, gw, gn, gx, gy, gz, u0, u1, u2, u3, u4, u5, u6, u7⟩
           subst gn
           have hr := go
           try dsimp only at hr
           refine then_n (W_seq (sr (mv gx (ln Try.underlying23 (rv gp) (gy).toV (L_gtr (rv (vi ((gq.length : Int)))) (rv (vi 1)) (by decide) (nn ?_))))))
           refine W_cond _ (rv (vb (decide (1 < (gq.length : Int))))) (fun u9 => ?_) (fun u9 => ?_)
           ·have hr := ite_t u9 hr; refine sr (asg (rv (Value.slice none 0 0)) (asg (rv (vb false)) (asg (rv (vi 0)) (nn (W_ret (then_r (block_r (then_r (then_r (block_r ?_)))))))))); obtain rfl := Option.some.inj hr; have hr := kk; (try dsimp only at hr); refine then_r (then_r (block_r (then_r (then_r (block_r ?_))))); obtain rfl := Option.some.inj hr; have hr := jb; (try dsimp only at hr); refine then_r (then_r ?_); obtain rfl := Option.some.inj hr; exact done3 (Or.inl rfl) Try.results16 rfl rfl rfl ⟨_, _, rfl, rfl, gv, _, _, _, rfl, Vnil, Vbool, Vint⟩
           ·have hr := ite_f u9 hr
            refine W_skip (then_n (sr (mv u2 (mv u3 ?_))))
            obtain ⟨ua, ub, hr⟩ := bind_some hr
            refine L_indexS Try.underlying65 ty74.inf (rv k5) (rv (vi km)) (u5) ub (by decide) (L_fieldS fld74_1 (rv (elemP k5 (km) 5 0)) (u5) ub rfl (by decide) (L_storeS_field (xs := kn) ty3 Deed.set_Peer (rv (elemP k5 (km) 5 1)) (rv (vi 0)) Vint (u5) ub rfl (fun uc ud ue => ?_)))
            have uf := Tch.trans gv ud (fun k hk => Or.inr (((u5).lt hk).1))
            refine nn (sr (mv gx (ln Try.underlying23 (rv gp) ((gy).tch ud u7).toV (el (rv (vi ((gq.length : Int)))) (rv (vi 1)) (nn ?_)))))
            refine W_cond _ (rv (vb (decide ((gq.length : Int) = 1)))) (fun ug => ?_) (fun ug => ?_)
            ·have hr := ite_t ug hr; refine W_region (mv u2 (mv u3 (mv gx ?_))); obtain ⟨uh, ui, hr⟩ := bind_some hr; refine ix Try.underlying23 ty3.inf (rv gp) ((gy).tch ud u7).toV (rv (vi 0)) ui (fun uj uk => li ty3 (rv uj) uk ?_); obtain ⟨ul, um, hr⟩ := bind_some hr; refine L_indexS Try.underlying65 ty74.inf (rv k5) (rv (vi km)) (ue) um (by decide) (L_fieldS fld74_1 (rv (elemP k5 (km) 5 0)) (ue) um rfl (by decide) (L_storeS_field (xs := (kn.set (km).toNat (Deed.with_Peer ua 0))) ty3 Deed.set_Peer (rv (elemP k5 (km) 5 1)) (rv (vi uh)) Vint (ue) um rfl (fun un uo up => ?_))); have uq := Tch.trans uf uo (fun k hk => Or.inr (((ue).lt hk).1)); refine L_nil (block_n (then_n (W_region (mv u3 ?_)))); obtain ⟨ur, hr⟩ := chk_some hr; exact ad (rv (vi km)) (rv (vi 1)) ur (asg (rv (vi (km + 1))) (nn ⟨ko, Nat.lt_succ_self _, ⟨un, (km + 1), ((kn.set (km).toNat (Deed.with_Peer ua 0)).set (km).toNat (Deed.with_Peer ul uh)), rfl, uq, (kt.trans (ga.trans (gw.trans (ud.le.trans uo.le)))), hr, rfl, gz, u0, u1, u2, ((u4).tch ud (fun k hk => kd k hk)).tch uo (fun k hk => kd k hk), up⟩⟩))
            ·have hr := ite_f ug hr; refine W_skip (block_n (then_n (W_region (mv u3 ?_)))); obtain ⟨uh, hr⟩ := chk_some hr; exact ad (rv (vi km)) (rv (vi 1)) uh (asg (rv (vi (km + 1))) (nn ⟨ko, Nat.lt_succ_self _, ⟨uc, (km + 1), (kn.set (km).toNat (Deed.with_Peer ua 0)), rfl, uf, (kt.trans (ga.trans (gw.trans ud.le))), hr, rfl, gz, u0, u1, u2, (u4).tch ud (fun k hk => kd k hk), ue⟩⟩))
       ·have hr := ite_f g1 hr; refine W_exit (then_x (then_x (block_here ?_))); exact then_n ⟨kr, kn, rfl, ks, kt, Option.some.inj hr, kv, kw, kx, ky, kz, g0⟩
     ·rintro km kn ⟨ko, kl, rfl, kp, kq, kj, kr, ks, kt, ku, kv, kw⟩; subst kj; have hr := kk; (try dsimp only at hr); refine then_n (W_region (mv ks (mv ku ?_))); obtain ⟨kx, ky, kz, g0⟩ := (kw).freeze; rw [← ky]; have g1 := Tch.trans kp kz (fun k hk => Or.inr (((kw).lt hk).1)); refine L_buildSlice (xs := ([kl] : List (List Deed))) Try.underlying22 tyz65 (Parts_cons rfl (rv k5) Parts_nil) (Vs.cons g0 Vs.nil) rfl (by decide) (by decide) (fun g2 g3 g4 g5 g6 => ?_); have g7 := Tch.ext g1 g4; obtain ⟨g8, hr⟩ := chk_some hr; refine L_append (xs := jf) (B := s0.w.heap.size) Try.underlying22 tyz65 (rv je) (rv g3) (((kv).tch kz (fun k hk => kd k hk)).ext g4) (g7.size) g6 g8.1 g8.2 (by decide) (fun g9 ga gb => ?_); have gc := gb.tchM (((kv).tch kz (fun k hk => kd k hk)).ext g4) g7 (Nat.le_refl _); refine asg (rv g9) (L_nil (block_n (then_n (W_region (mv kt ?_))))); obtain ⟨gd, hr⟩ := chk_some hr; exact ad (rv (vi jg)) (rv (vi 1)) gd (asg (rv (vi (jg + 1))) (nn ⟨jh, Nat.lt_succ_self _, ⟨ga, g9, (jf ++ ([kl] : List (List Deed))), (jg + 1), rfl, gc, (jm.trans (ka.le.trans (kq.trans (kz.le.trans (g4.le.trans gb.tch.le))))), hr, rfl, gb.bld, rfl, kr⟩⟩))
    ·have hr := ite_f jr hr; refine W_exit (then_x (then_x (block_here ?_))); exact then_n ⟨jk, je, jf, rfl, jl, jm, Option.some.inj hr, jn, jo⟩
  ·rintro je jf ⟨jg, jc, jd, rfl, jh, ji, ja, jj, jk⟩; subst ja; have hr := jb; (try dsimp only at hr); refine then_n (sr (mv jj (asg (rv jc) (asg (rv (vb true)) (asg (rv (vi 0)) (nn (W_ret ?_))))))); obtain rfl := Option.some.inj hr; exact done3 (Or.inl rfl) Try.results16 rfl rfl rfl ⟨_, _, rfl, rfl, jh, _, _, _, rfl, (jk).toV, Vbool, Vint⟩

end Go.Arm
