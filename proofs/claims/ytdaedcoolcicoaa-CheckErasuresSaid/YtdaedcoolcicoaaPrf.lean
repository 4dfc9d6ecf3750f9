/- A part of the proof. -/
import Derived.Test.YtdaedcoolcicoaaPure
namespace Go.Arm
open Go Go.RowKit Go.Proofs
variable {σ : Type}
theorem law14_lost_ok (N : Nat) (s0 : St) (a0 : Int) (a1 : Int) (w2 : Value) (a2 : List U8) (h2 : V s0 w2 a2) (r : (List Bool)) (hr : law14_lost N a0 a1 a2 = some r) :
    Calls Try.prog 11 #[.int .i64 a0, .int .i64 a1, w2] s0.w (Ret s0 fun v s => ArrR s0.w.heap.size 4 s v r) := by
 unfold law14_lost at hr
 have j0 := Ext.refl s0
 refine Calls_of (n := 42) (args := [.int .i64 a0, .int .i64 a1, w2]) Try.func11 rfl rfl (by simp) (sr (asg (rv (Value.slice none 0 0)) (nn (sr (mv (rv (vi a0)) ?_)))))
 obtain ⟨j1, hr⟩ := chk_some hr
 refine L_makeArr (x0 := (false : Bool)) Try.underlying27 tyz4 (rv (vi a0)) j1.1 j1.2.1 j1.2.2 (fun _ => rfl) (by decide) (fun j2 j3 j4 j5 j6 => ?_)
 have j7 := Tch.ext j0 j4
 refine asg (rv (Value.slice (some ⟨j3, 0, none⟩) (a0).toNat (a0).toNat)) (nn (W_seq (sr (mv (rv (Value.slice (some ⟨j3, 0, none⟩) (a0).toNat (a0).toNat)) (L_lenA Try.underlying27 (rv (Value.slice (some ⟨j3, 0, none⟩) (a0).toNat (a0).toNat)) (by decide) (mv (rv (vi 0)) (nn ?_)))))))
 obtain ⟨j8, j9, ja⟩ := bind_some hr
 refine W_cut (fun f w => ∃ (s : St) (jb : List Bool), s.w = w ∧ Ext s0 s ∧ Le j2 s ∧ jb = j8 ∧ f 0 = vi (a0) ∧ f 1 = vi (a1) ∧ f 2 = w2 ∧ f 7 = Value.slice (some ⟨j3, 0, none⟩) (a0).toNat (a0).toNat ∧ Arr s j3 4 (a0).toNat jb) ?_ ?_
 ·refine W_block (W_loop (fun m f w => ∃ (s : St) (jc : Int) (jd : List Bool), s.w = w ∧ Ext s0 s ∧ Le j2 s ∧ law14_lost_l1 N a0 m jc jd = some j8 ∧ f 14 = vi jc ∧ f 0 = vi (a0) ∧ f 1 = vi (a1) ∧ f 2 = w2 ∧ f 7 = Value.slice (some ⟨j3, 0, none⟩) (a0).toNat (a0).toNat ∧ f 13 = vi ((((a0).toNat : Nat) : Int)) ∧ Arr s j3 4 (a0).toNat jd) N ⟨j2, 0, (List.replicate (a0).toNat (false : Bool)), rfl, j7, (Le.refl _), j9, rfl, rfl, rfl, rfl, rfl, rfl, j6⟩ ?_)
  rintro je jf jg ⟨jh, jc, jd, rfl, ji, jj, hr, jk, jl, jm, jn, jo, jp, jq⟩
  cases je with
  | zero => exact absurd hr (by simp [law14_lost_l1])
  | succ je =>
   rw [law14_lost_l1.eq_2] at hr
   refine sr (ls jk jp (nn (W_seq ?_)))
   refine W_cond _ (rfl : _ = vb (decide (jc < (((a0).toNat : Nat) : Int)))) (fun jr => ?_) (fun jr => ?_)
   ·have hr := ite_t jr hr; refine W_skip (then_n (W_seq (W_block (sr (mv jk (asg (rv (vi jc)) (nn (W_region (mv jo (mv (rv (vi jc)) ?_)))))))))); obtain ⟨js, jt, hr⟩ := bind_some hr; refine L_indexA (sz := 1) Try.underlying27 ty4.inf (rv (Value.slice (some ⟨j3, 0, none⟩) (a0).toNat (a0).toNat)) (rv (vi jc)) (idx_some jt).1 (by have := (idx_some jt).2.1; have := (jq).1; omega) (by decide) (L_storeA (xs := jd) ty4 (rv (Value.pointer (some ⟨j3, (jc).toNat * 1, none⟩))) (rv (vb true)) Vbool (jq) jt (fun ju jv jw => ?_)); have jx := Tch.trans ji jv (fun k hk => Or.inr (by subst hk; exact (Nat.le_trans j0.size j5))); refine L_nil (block_n (then_n (W_region ?_))); obtain ⟨jy, hr⟩ := chk_some hr; exact ad jk (rv (vi 1)) jy (mv (rv (vi (jc + 1))) (nn ⟨je, Nat.lt_succ_self _, ⟨ju, (jc + 1), (jd.set (jc).toNat true), rfl, jx, (jj.trans jv.le), hr, rfl, jl, jm, jn, jo, jp, jw⟩⟩))
   ·have hr := ite_f jr hr; refine W_exit (then_x (then_x (block_here ?_))); exact then_n ⟨jh, jd, rfl, ji, jj, Option.some.inj hr, jl, jm, jn, jo, jq⟩
 ·rintro jc jd ⟨je, jb, rfl, jf, jg, j9, jh, ji, jj, jk, jl⟩
  subst j9
  have hr := ja
  try dsimp only at hr
  refine then_n (W_seq (sr (asg (rv (vi 0)) (nn ?_))))
  obtain ⟨jm, jn, jo⟩ := bind_some hr
  refine W_cut (fun f w => ∃ (s : St) (jp : List Bool), s.w = w ∧ Ext s0 s ∧ Le je s ∧ jp = jm ∧ f 7 = Value.slice (some ⟨j3, 0, none⟩) (a0).toNat (a0).toNat ∧ Arr s j3 4 (a0).toNat jp) ?_ ?_
  ·refine W_block (W_loop (fun m f w => ∃ (s : St) (jq : Int) (jr : List Bool), s.w = w ∧ Ext s0 s ∧ Le je s ∧ law14_lost_l2 N a0 a1 a2 m jq jr = some jm ∧ f 9 = vi jq ∧ f 0 = vi (a0) ∧ f 1 = vi (a1) ∧ f 2 = w2 ∧ f 7 = Value.slice (some ⟨j3, 0, none⟩) (a0).toNat (a0).toNat ∧ Arr s j3 4 (a0).toNat jr) N ⟨je, 0, jb, rfl, jf, (Le.refl _), jn, rfl, jh, ji, jj, jk, jl⟩ ?_)
   rintro js jt ju ⟨jv, jq, jr, rfl, jw, jx, hr, jy, jz, k0, k1, k2, k3⟩
   cases js with
   | zero => exact absurd hr (by simp [law14_lost_l2])
   | succ js =>
    rw [law14_lost_l2.eq_2] at hr
    refine W_seq ?_
    obtain ⟨k4, k5, k6⟩ := bind_some hr
    refine W_seq_cut (fun f w => ∃ (s : St) (k7 : Bool), s.w = w ∧ Ext s0 s ∧ Le jv s ∧ k7 = k4 ∧ f 29 = vb k7 ∧ f 0 = vi (a0) ∧ f 1 = vi (a1) ∧ f 2 = w2 ∧ f 7 = Value.slice (some ⟨j3, 0, none⟩) (a0).toNat (a0).toNat ∧ f 9 = vi (jq) ∧ Arr s j3 4 (a0).toNat jr) ?_ ?_
    ·have hr := k5
     refine W_region (mv jy (mv k0 (ls (rv (vi jq)) (rv (vi a1)) (mv (rv (vb (decide (jq < a1)))) ?_))))
     rcases tf (decide (jq < a1)) with k8 | k8
     ·have hr := ite_t k8 hr; exact gt 24 (rv (vb (decide (jq < a1)))) k8 (mv jy (gt 24 (rv (vb (decide (jq < a1)))) k8 (mv k1 (gt 24 (rv (vb (decide (jq < a1)))) k8 (ln Try.underlying22 (rv w2) (h2.mono (j4.le.trans (jg.trans jx))) (gt 24 (rv (vb (decide (jq < a1)))) k8 (ls (rv (vi jq)) (rv (vi ((a2.length : Int)))) (pt (rv (vb (decide (jq < a1)))) k8 (rv (vb (decide (jq < (a2.length : Int))))) (nn ⟨jv, (decide (jq < (a2.length : Int))), rfl, jw, (Le.refl _), Option.some.inj hr, rfl, jz, k0, k1, k2, jy, k3⟩)))))))))
     ·have hr := ite_f k8 hr; exact gf 24 (rv (vb (decide (jq < a1)))) k8 (gf 24 (rv (vb (decide (jq < a1)))) k8 (gf 24 (rv (vb (decide (jq < a1)))) k8 (gf 24 (rv (vb (decide (jq < a1)))) k8 (pf (rv (vb (decide (jq < a1)))) k8 (rv (vb false)) (nn ⟨jv, false, rfl, jw, (Le.refl _), Option.some.inj hr, rfl, jz, k0, k1, k2, jy, k3⟩)))))
    ·rintro k8 k9 ⟨ka, k7, rfl, kb, kc, k5, kd, ke, kf, kg, kh, ki, kj⟩
     subst k5
     have hr := k6
     try dsimp only at hr
     refine W_cond _ kd (fun kk => ?_) (fun kk => ?_)
     ·have hr := ite_t kk hr; refine W_skip (then_n (W_seq (W_block (W_region (mv kh (mv kg (mv ki ?_))))))); obtain ⟨kl, km, hr⟩ := bind_some hr; refine ix Try.underlying22 ty5.inf (rv w2) (h2.mono (j4.le.trans (jg.trans (jx.trans kc)))) (rv (vi jq)) km (fun kn ko => L_load_u8 ty5 (rv kn) ko (by decide) ?_); obtain ⟨kp, hr⟩ := chk_some hr; refine L_convert_i64 Try.underlying5 Try.underlying3 (rv (Value.int .u8 (kl).n)) kp (by decide) (mv ke ?_); obtain ⟨kq, hr⟩ := chk_some hr; refine L_rem (rv (vi (kl.n))) (rv (vi a0)) kq (by decide) ?_; obtain ⟨kr, ks, hr⟩ := bind_some hr; refine L_indexA (sz := 1) Try.underlying27 ty4.inf (rv (Value.slice (some ⟨j3, 0, none⟩) (a0).toNat (a0).toNat)) (rv (vi (Int.tmod kl.n a0))) (idx_some ks).1 (by have := (idx_some ks).2.1; have := (kj).1; omega) (by decide) (L_storeA (xs := jr) ty4 (rv (Value.pointer (some ⟨j3, (Int.tmod kl.n a0).toNat * 1, none⟩))) (rv (vb false)) Vbool (kj) ks (fun kt ku kv => ?_)); have kw := Tch.trans kb ku (fun k hk => Or.inr (by subst hk; exact (Nat.le_trans j0.size j5))); refine L_nil (block_n (then_n (W_region (mv ki ?_)))); obtain ⟨kx, hr⟩ := chk_some hr; exact ad (rv (vi jq)) (rv (vi 1)) kx (asg (rv (vi (jq + 1))) (nn ⟨js, Nat.lt_succ_self _, ⟨kt, (jq + 1), (jr.set (Int.tmod kl.n a0).toNat false), rfl, kw, (jx.trans (kc.trans ku.le)), hr, rfl, ke, kf, kg, kh, kv⟩⟩))
     ·have hr := ite_f kk hr; refine W_exit (then_x (then_x (block_here ?_))); exact then_n ⟨ka, jr, rfl, kb, (jx.trans kc), Option.some.inj hr, kh, kj⟩
  ·rintro jq jr ⟨js, jp, rfl, jt, ju, jn, jv, jw⟩; subst jn; have hr := jo; (try dsimp only at hr); refine then_n (sr (mv jv (asg (rv (Value.slice (some ⟨j3, 0, none⟩) (a0).toNat (a0).toNat)) (nn (W_ret ?_))))); obtain rfl := Option.some.inj hr; exact done1 (Or.inl rfl) Try.results11 rfl ⟨_, _, rfl, rfl, jt, (jw).res (Nat.le_trans j0.size j5)⟩

theorem law14_spoiled_ok (N : Nat) (s0 : St) (w0 : Value) (a0 : List (List U8)) (h0 : V s0 w0 a0) (w1 : Value) (a1 : List Bool) (h1 : V s0 w1 a1) (a2 : U8) (r : (List (List U8))) (hr : law14_spoiled N a0 a1 a2 = some r) :
    Calls Try.prog 12 #[w0, w1, .int .u8 a2.n] s0.w (Ret s0 fun v s => V s v r) := by
 unfold law14_spoiled at hr
 have j0 := Ext.refl s0
 refine Calls_of (n := 49) (args := [w0, w1, .int .u8 a2.n]) Try.func12 rfl rfl (by simp) (sr (asg (rv (Value.slice none 0 0)) (nn (sr (asg (rv (Value.slice none 0 0)) (nn (W_seq (sr (mv (rv w0) (ln Try.underlying24 (rv w0) h0 (mv (rv (vi 0)) (nn ?_))))))))))))
 obtain ⟨j1, j2, j3⟩ := bind_some hr
 refine W_cut (fun f w => ∃ (s : St) (j4 : Value) (j5 : List (List U8)), s.w = w ∧ Ext s0 s ∧ Le s0 s ∧ j5 = j1 ∧ f 7 = j4 ∧ Bld s s0.w.heap.size 22 j4 j5) ?_ ?_
 ·refine W_block (W_loop (fun m f w => ∃ (s : St) (j6 : Value) (j7 : List (List U8)) (j8 : Int), s.w = w ∧ Ext s0 s ∧ Le s0 s ∧ law14_spoiled_l1 N a0 a1 a2 m j7 j8 = some j1 ∧ f 7 = j6 ∧ Bld s s0.w.heap.size 22 j6 j7 ∧ f 14 = vi j8 ∧ f 1 = w1 ∧ f 2 = Value.int .u8 (a2).n ∧ f 12 = w0 ∧ f 13 = vi ((a0.length : Int))) N ⟨s0, (Value.slice none 0 0), ([]), 0, rfl, j0, (Le.refl _), j2, rfl, Bld.nil, rfl, rfl, rfl, rfl, rfl⟩ ?_)
  rintro j9 ja jb ⟨jc, j6, j7, j8, rfl, jd, je, hr, jf, jg, jh, ji, jj, jk, jl⟩
  cases j9 with
  | zero => exact absurd hr (by simp [law14_spoiled_l1])
  | succ j9 =>
   rw [law14_spoiled_l1.eq_2] at hr
   refine sr (ls jh jl (nn (W_seq ?_)))
   refine W_cond _ (rv (vb (decide (j8 < (a0.length : Int))))) (fun jm => ?_) (fun jm => ?_)
   ·have hr := ite_t jm hr
    refine W_skip (then_n (W_seq (W_block (sr (mv jh ?_)))))
    obtain ⟨jn, jo, hr⟩ := bind_some hr
    refine ix Try.underlying24 ty22.inf jk (h0.mono je) jh jo (fun jp jq => ld ty22 (rv jp) jq (fun jr js => asg (rv (vi j8)) (asg (rv jr) (nn (W_seq (sr (mv ji (mv (rv (vi j8)) ?_))))))))
    obtain ⟨jt, ju, hr⟩ := bind_some hr
    refine ix Try.underlying27 ty4.inf (rv w1) (h1.mono je) (rv (vi j8)) ju (fun jv jw => L_load_bool ty4 (rv jv) jw (by decide) (nn ?_))
    refine W_cond _ (rv (vb jt)) (fun jx => ?_) (fun jx => ?_)
    ·have hr := ite_t jx hr; refine sr (mv jf (mv (rv jr) (L_buildSlice (xs := ([jn] : List (List U8))) Try.underlying24 tyz22 (Parts_cons rfl (rv jr) Parts_nil) (Vs.cons js Vs.nil) rfl (by decide) (by decide) (fun jy jz k0 k1 k2 => ?_)))); have k3 := Tch.ext jd k0; obtain ⟨k4, hr⟩ := chk_some hr; refine L_append (xs := j7) (B := s0.w.heap.size) Try.underlying24 tyz22 (rv j6) (rv jz) ((jg).ext k0) (k3.size) k2 k4.1 k4.2 (by decide) (fun k5 k6 k7 => ?_); have k8 := k7.tchM ((jg).ext k0) k3 (Nat.le_refl _); refine asg (rv k5) (nn (W_exit (then_x (block_here (then_n (W_region ?_)))))); obtain ⟨k9, hr⟩ := chk_some hr; exact ad jh (rv (vi 1)) k9 (mv (rv (vi (j8 + 1))) (nn ⟨j9, Nat.lt_succ_self _, ⟨k6, k5, (j7 ++ ([jn] : List (List U8))), (j8 + 1), rfl, k8, (je.trans (k0.le.trans k7.tch.le)), hr, rfl, k7.bld, rfl, ji, jj, jk, jl⟩⟩))
    ·have hr := ite_f jx hr
     refine W_skip (then_n (sr (asg (rv (Value.slice none 0 0)) (nn (W_seq (sr (mv (rv jr) (ln Try.underlying22 (rv jr) js ?_))))))))
     obtain ⟨jy, hr⟩ := chk_some hr
     refine L_quo (rv (vi ((jn.length : Int)))) (rv (vi 2)) jy.1 jy.2 (by decide) (mv (rv (vi 0)) (nn ?_))
     obtain ⟨jz, k0, k1⟩ := bind_some hr
     refine W_cut (fun f w => ∃ (s : St) (k2 : Value) (k3 : List U8), s.w = w ∧ Ext s0 s ∧ Le jc s ∧ k3 = jz ∧ f 10 = k2 ∧ Bld s s0.w.heap.size 5 k2 k3 ∧ f 1 = w1 ∧ f 2 = Value.int .u8 (a2).n ∧ f 7 = j6 ∧ f 12 = w0 ∧ f 13 = vi ((a0.length : Int)) ∧ f 14 = vi (j8) ∧ Bld s s0.w.heap.size 22 j6 j7 ∧ (∀ k, (own k2) k → ¬ (own j6) k)) ?_ ?_
     ·refine W_block (W_loop (fun m f w => ∃ (s : St) (k4 : Value) (k5 : List U8) (k6 : Int), s.w = w ∧ Ext s0 s ∧ Le jc s ∧ law14_spoiled_l2 N a2 jn m k5 k6 = some jz ∧ f 10 = k4 ∧ Bld s s0.w.heap.size 5 k4 k5 ∧ f 30 = vi k6 ∧ f 1 = w1 ∧ f 2 = Value.int .u8 (a2).n ∧ f 7 = j6 ∧ f 9 = jr ∧ f 12 = w0 ∧ f 13 = vi ((a0.length : Int)) ∧ f 14 = vi (j8) ∧ f 29 = vi (Int.tdiv (jn.length : Int) 2) ∧ Bld s s0.w.heap.size 22 j6 j7 ∧ (∀ k, (own k4) k → ¬ (own j6) k)) N ⟨jc, (Value.slice none 0 0), ([]), 0, rfl, jd, (Le.refl _), k0, rfl, Bld.nil, rfl, ji, jj, jf, rfl, jk, jl, jh, rfl, jg, (fun k h => absurd h own_nil)⟩ ?_)
      rintro k7 k8 k9 ⟨ka, k4, k5, k6, rfl, kb, kc, hr, kd, ke, kf, kg, kh, ki, kj, kk, kl, km, kn, ko, kp⟩
      cases k7 with
      | zero => exact absurd hr (by simp [law14_spoiled_l2])
      | succ k7 =>
       rw [law14_spoiled_l2.eq_2] at hr
       refine sr (ls kf kn (nn (W_seq ?_)))
       refine W_cond _ (rv (vb (decide (k6 < (Int.tdiv (jn.length : Int) 2))))) (fun kq => ?_) (fun kq => ?_)
       ·have hr := ite_t kq hr; refine W_skip (then_n (W_seq (W_block (sr (mv kf (asg (rv (vi k6)) (nn (W_region (mv kd (mv kj (mv (rv (vi k6)) ?_))))))))))); obtain ⟨kr, ks, hr⟩ := bind_some hr; refine ix Try.underlying22 ty5.inf (rv jr) (js.mono kc) (rv (vi k6)) ks (fun kt ku => L_load_u8 ty5 (rv kt) ku (by decide) (mv kh (L_xorK (rv (Value.int .u8 (kr).n)) (rv (Value.int .u8 (a2).n)) (by decide) (L_buildSlice (xs := ([(⟨xorK .u8 kr.n a2.n⟩ : U8)] : List U8)) Try.underlying22 tyz5 (Parts_cons rfl (rv (Value.int .u8 ((⟨xorK .u8 kr.n a2.n⟩ : U8)).n)) Parts_nil) (Vs.cons Vu8 Vs.nil) rfl (by decide) (by decide) (fun kv kw kx ky kz => ?_))))); have g0 := Tch.ext kb kx; obtain ⟨g1, hr⟩ := chk_some hr; refine L_append (xs := k5) (B := s0.w.heap.size) Try.underlying22 tyz5 (rv k4) (rv kw) ((ke).ext kx) (g0.size) kz g1.1 g1.2 (by decide) (fun g2 g3 g4 => ?_); have g5 := g4.tchM ((ke).ext kx) g0 (Nat.le_refl _); have g6 := g4.apart ((ko).ext kx) (fun k hk hm => kp k hm hk); refine asg (rv g2) (L_nil (block_n (then_n (W_region ?_)))); obtain ⟨g7, hr⟩ := chk_some hr; exact ad kf (rv (vi 1)) g7 (mv (rv (vi (k6 + 1))) (nn ⟨k7, Nat.lt_succ_self _, ⟨g3, g2, (k5 ++ ([(⟨xorK .u8 kr.n a2.n⟩ : U8)] : List U8)), (k6 + 1), rfl, g5, (kc.trans (kx.le.trans g4.tch.le)), hr, rfl, g4.bld, rfl, kg, kh, ki, kj, kk, kl, km, kn, ((ko).ext kx).tch g4.tch (fun k hk hm => kp k hm hk), (fun k hk hm => g6 k hm hk)⟩⟩))
       ·have hr := ite_f kq hr; refine W_exit (then_x (then_x (block_here ?_))); exact then_n ⟨ka, k4, k5, rfl, kb, kc, Option.some.inj hr, kd, ke, kg, kh, ki, kk, kl, km, ko, kp⟩
     ·rintro k4 k5 ⟨k6, k2, k3, rfl, k7, k8, k0, k9, ka, kb, kc, kd, ke, kf, kg, kh, ki⟩; subst k0; have hr := k1; (try dsimp only at hr); refine then_n (W_region (mv kd (mv k9 ?_))); have kj := (ka).toV; refine L_buildSlice (xs := ([k3] : List (List U8))) Try.underlying24 tyz22 (Parts_cons rfl (rv k2) Parts_nil) (Vs.cons kj Vs.nil) rfl (by decide) (by decide) (fun kk kl km kn ko => ?_); have kp := Tch.ext k7 km; obtain ⟨kq, hr⟩ := chk_some hr; refine L_append (xs := j7) (B := s0.w.heap.size) Try.underlying24 tyz22 (rv j6) (rv kl) ((kh).ext km) (kp.size) ko kq.1 kq.2 (by decide) (fun kr ks kt => ?_); have ku := kt.tchM ((kh).ext km) kp (Nat.le_refl _); refine asg (rv kr) (L_nil (block_n (then_n (W_region ?_)))); obtain ⟨kv, hr⟩ := chk_some hr; exact ad kg (rv (vi 1)) kv (mv (rv (vi (j8 + 1))) (nn ⟨j9, Nat.lt_succ_self _, ⟨ks, kr, (j7 ++ ([k3] : List (List U8))), (j8 + 1), rfl, ku, (je.trans (k8.trans (km.le.trans kt.tch.le))), hr, rfl, kt.bld, rfl, kb, kc, ke, kf⟩⟩))
   ·have hr := ite_f jm hr; refine W_exit (then_x (then_x (block_here ?_))); exact then_n ⟨jc, j6, j7, rfl, jd, je, Option.some.inj hr, jf, jg⟩
 ·rintro j6 j7 ⟨j8, j4, j5, rfl, j9, ja, j2, jb, jc⟩; subst j2; have hr := j3; (try dsimp only at hr); refine then_n (sr (mv jb ?_)); have jd := (jc).toV; refine asg (rv j4) (nn (W_ret ?_)); obtain rfl := Option.some.inj hr; exact done1 (Or.inl rfl) Try.results12 rfl ⟨_, _, rfl, rfl, j9, jd⟩

theorem slices_IndexFunc_LLbyte_Lbyte_ok (N : Nat) (s0 : St) (w0 : Value) (a0 : List (List U8)) (h0 : V s0 w0 a0) (w1 : Value) (a1 : (List U8) → Option Bool) (h1 : Fn1 Try.prog s0 w1 a1) (r : Int) (hr : slices_IndexFunc_LLbyte_Lbyte N a0 a1 = some r) :
    Calls Try.prog 66 #[w0, w1] s0.w (Ret s0 fun v s => V s v r) := by
 unfold slices_IndexFunc_LLbyte_Lbyte at hr
 have j0 := Ext.refl s0
 refine Calls_of (n := 19) (args := [w0, w1]) Try.func66 rfl rfl (by simp) (sr (asg (rv (vi 0)) (nn (W_seq (sr (mv (rv w0) (ln Try.underlying24 (rv w0) h0 (mv (rv (vi 0)) (nn ?_)))))))))
 obtain ⟨j1, j2, j3⟩ := bind_some hr
 refine W_cut (fun f w => ∃ (s : St), s.w = w ∧ Ext s0 s ∧ Le s0 s ∧ Sum.inl () = j1) ?_ ?_
 ·refine W_block (W_loop (fun m f w => ∃ (s : St) (j4 : Int), s.w = w ∧ Ext s0 s ∧ Le s0 s ∧ slices_IndexFunc_LLbyte_Lbyte_l1 N a0 a1 m j4 = some j1 ∧ f 8 = vi j4 ∧ f 0 = w0 ∧ f 1 = w1 ∧ f 7 = vi ((a0.length : Int))) N ⟨s0, 0, rfl, j0, (Le.refl _), j2, rfl, rfl, rfl, rfl⟩ ?_)
  rintro j5 j6 j7 ⟨j8, j4, rfl, j9, ja, hr, jb, jc, jd, je⟩
  cases j5 with
  | zero => exact absurd hr (by simp [slices_IndexFunc_LLbyte_Lbyte_l1])
  | succ j5 =>
   rw [slices_IndexFunc_LLbyte_Lbyte_l1.eq_2] at hr
   refine sr (ls jb je (nn (W_seq ?_)))
   refine W_cond _ (rv (vb (decide (j4 < (a0.length : Int))))) (fun jf => ?_) (fun jf => ?_)
   ·have hr := ite_t jf hr
    refine W_skip (then_n (W_seq (W_block (sr (mv jb (asg (rv (vi j4)) (nn (sr (mv jd (mv jc (mv (rv (vi j4)) ?_)))))))))))
    obtain ⟨jg, jh, hr⟩ := bind_some hr
    refine ix Try.underlying24 ty22.inf (rv w0) (h0.mono ja) (rv (vi j4)) jh (fun ji jj => ld ty22 (rv ji) jj (fun jk jl => ?_))
    obtain ⟨jm, jn, hr⟩ := bind_some hr
    refine L_call1 (rv w1) (h1.mono ja) (rv jk) jl jn (by decide) (fun jo jp jq jr => ?_)
    have js := Tch.ext j9 jq
    obtain rfl := jr.bool
    refine nn ?_
    refine W_cond _ (rv (vb jm)) (fun jt => ?_) (fun jt => ?_)
    ·have hr := ite_t jt hr; refine sr (mv (rv (vi j4)) (asg (rv (vi j4)) (nn (W_ret (block_r (then_r (then_r (block_r ?_)))))))); obtain rfl := Option.some.inj hr; have hr := j3; (try dsimp only at hr); refine then_r (then_r ?_); obtain rfl := Option.some.inj hr; exact done1 (Or.inl rfl) Try.results66 rfl ⟨_, _, rfl, rfl, js, Vint⟩
    ·have hr := ite_f jt hr; refine W_skip (block_n (then_n (W_region ?_))); obtain ⟨ju, hr⟩ := chk_some hr; exact ad jb (rv (vi 1)) ju (mv (rv (vi (j4 + 1))) (nn ⟨j5, Nat.lt_succ_self _, ⟨jp, (j4 + 1), rfl, js, (ja.trans jq.le), hr, rfl, jc, jd, je⟩⟩))
   ·have hr := ite_f jf hr; refine W_exit (then_x (then_x (block_here ?_))); exact then_n ⟨j8, rfl, j9, ja, Option.some.inj hr⟩
 ·rintro j4 j5 ⟨j6, rfl, j7, j8, j2⟩; subst j2; have hr := j3; (try dsimp only at hr); refine then_n (sr (asg (rv (vi (-1))) (nn (W_ret ?_)))); obtain rfl := Option.some.inj hr; exact done1 (Or.inl rfl) Try.results66 rfl ⟨_, _, rfl, rfl, j7, Vint⟩

theorem slices_ContainsFunc_LLbyte_Lbyte_ok (N : Nat) (s0 : St) (w0 : Value) (a0 : List (List U8)) (h0 : V s0 w0 a0) (w1 : Value) (a1 : (List U8) → Option Bool) (h1 : Fn1 Try.prog s0 w1 a1) (r : Bool) (hr : slices_ContainsFunc_LLbyte_Lbyte N a0 a1 = some r) :
    Calls Try.prog 63 #[w0, w1] s0.w (Ret s0 fun v s => V s v r) := by
 unfold slices_ContainsFunc_LLbyte_Lbyte at hr
 have j0 := Ext.refl s0
 refine Calls_of (n := 9) (args := [w0, w1]) Try.func63 rfl rfl (by simp) (sr (asg (rv (vb false)) (nn (sr (mv (rv w0) (mv (rv w1) ?_))))))
 obtain ⟨j1, j2, hr⟩ := bind_some hr
 refine L_calls cal66 (args2 (rv w0) (rv w1)) (slices_IndexFunc_LLbyte_Lbyte_ok N _ _ _ h0 _ a1 h1 j1 j2) (by decide) (fun j3 j4 j5 j6 => ?_)
 have j7 := Tch.ext j0 j5
 obtain rfl := j6.int
 refine L_geq (rv (vi j1)) (rv (vi 0)) (by decide) (asg (rv (vb (decide (0 ≤ j1)))) (nn (W_ret ?_)))
 obtain rfl := Option.some.inj hr
 exact done1 (Or.inl rfl) Try.results63 rfl ⟨_, _, rfl, rfl, j7, Vbool⟩

theorem check_sized_1_ok (N : Nat) (s0 : St) (w0 : Value) (a0 : List U8) (h0 : V s0 w0 a0) (w1 : Value) (a1 : List (List U8)) (h1 : Ptr s0 w1 a1) (r : Bool) (hr : check_sized_1 N a0 a1 = some r) :
    Calls Try.prog 64 #[w0, w1] s0.w (Ret s0 fun v s => V s v r) := by
 unfold check_sized_1 at hr
 have j0 := Ext.refl s0
 refine Calls_of (n := 11) (args := [w0, w1]) Try.func64 rfl rfl (by simp) (sr (asg (rv (vb false)) (nn (sr (mv (rv w0) (ln Try.underlying22 (rv w0) h0 (ld ty24 (rv w1) h1 (fun j1 j2 => ?_))))))))
 obtain ⟨j3, j4, hr⟩ := bind_some hr
 refine ix Try.underlying24 ty22.inf (rv j1) j2 (rv (vi 0)) j4 (fun j5 j6 => ld ty22 (rv j5) j6 (fun j7 j8 => ln Try.underlying22 (rv j7) j8 (ne (rv (vi ((a0.length : Int)))) (rv (vi ((j3.length : Int)))) (asg (rv (vb (!decide ((a0.length : Int) = (j3.length : Int))))) (nn (W_ret ?_))))))
 obtain rfl := Option.some.inj hr
 exact done1 (Or.inl rfl) Try.results64 rfl ⟨_, _, rfl, rfl, j0, Vbool⟩

theorem check_sized_ok (N : Nat) (s0 : St) (w0 : Value) (a0 : List (List U8)) (h0 : V s0 w0 a0) (r : Int) (hr : check_sized N a0 = some r) :
    Calls Try.prog 36 #[w0] s0.w (Ret s0 fun v s => V s v r) := by
 unfold check_sized at hr
 have j0 := Ext.refl s0
 refine Calls_of (n := 13) (args := [w0]) Try.func36 rfl rfl (by simp) (sr (L_box (rv w0) h0 (by decide) (fun j1 j2 j3 j4 => ?_)))
 have j5 := Tch.ext j0 j3
 refine asg (rv (vi 0)) (nn (W_seq (W_block (sr (ld ty24 (rv j2) j4 (fun j6 j7 => ?_))))))
 obtain ⟨j8, j9, hr⟩ := bind_some hr
 refine ix Try.underlying24 ty22.inf (rv j6) j7 (rv (vi 0)) j9 (fun ja jb => ld ty22 (rv ja) jb (fun jc jd => ln Try.underlying22 (rv jc) jd (L_gtr (rv (vi ((j8.length : Int)))) (rv (vi 65536)) (by decide) (asg (rv (vb (decide (65536 < (j8.length : Int))))) (nn ?_)))))
 refine W_cond _ (rv (vb (decide (65536 < (j8.length : Int))))) (fun je => ?_) (fun je => ?_)
 ·have hr := ite_t je hr; refine sr (asg (rv (vi 8)) (nn (W_ret (block_r (then_r ?_))))); obtain rfl := Option.some.inj hr; exact done1 (Or.inl rfl) Try.results36 rfl ⟨_, _, rfl, rfl, j5, Vint⟩
 ·have hr := ite_f je hr
  refine sr (ld ty24 (rv j2) j4 (fun jf jg => L_makeFunc (args1 (rv j2)) (by decide) ?_))
  obtain ⟨jh, ji, hr⟩ := bind_some hr
  refine L_calls cal63 (args2 (rv jf) (rv (Value.func (.func 64) #[] #[j2]))) (slices_ContainsFunc_LLbyte_Lbyte_ok N _ _ _ jg _ (fun x => check_sized_1 N x a0) (Fn1.mk1 cal64 fun t vx x r hl hv hr => check_sized_1_ok N t vx x hv _ _ ((j4).mono hl) r hr) jh ji) (by decide) (fun jj jk jl jm => ?_)
  have jn := Tch.ext j5 jl
  obtain rfl := jm.bool
  refine asg (rv (vb jh)) (nn ?_)
  refine W_cond _ (rv (vb jh)) (fun jo => ?_) (fun jo => ?_)
  ·have hr := ite_t jo hr; refine sr (asg (rv (vi 26)) (nn (W_ret (block_r (then_r ?_))))); obtain rfl := Option.some.inj hr; exact done1 (Or.inl rfl) Try.results36 rfl ⟨_, _, rfl, rfl, jn, Vint⟩
  ·have hr := ite_f jo hr; refine W_skip (block_n (then_n (sr (asg (rv (vi 0)) (nn (W_ret ?_)))))); obtain rfl := Option.some.inj hr; exact done1 (Or.inl rfl) Try.results36 rfl ⟨_, _, rfl, rfl, jn, Vint⟩

theorem law14_equal_ok (N : Nat) (s0 : St) (w0 : Value) (a0 : List (List U8)) (h0 : V s0 w0 a0) (w1 : Value) (a1 : List (List U8)) (h1 : V s0 w1 a1) (r : Bool) (hr : law14_equal N a0 a1 = some r) :
    Calls Try.prog 15 #[w0, w1] s0.w (Ret s0 fun v s => V s v r) := by
 unfold law14_equal at hr
 have j0 := Ext.refl s0
 refine Calls_of (n := 28) (args := [w0, w1]) Try.func15 rfl rfl (by simp) (sr (asg (rv (vb false)) (nn (W_seq (sr (mv (rv w0) (ln Try.underlying24 (rv w0) h0 (mv (rv w1) (ln Try.underlying24 (rv w1) h1 (ne (rv (vi ((a0.length : Int)))) (rv (vi ((a1.length : Int)))) (nn ?_)))))))))))
 refine W_cond _ (rv (vb (!decide ((a0.length : Int) = (a1.length : Int))))) (fun j1 => ?_) (fun j1 => ?_)
 ·have hr := ite_t j1 hr; refine sr (asg (rv (vb false)) (nn (W_ret (then_r ?_)))); obtain rfl := Option.some.inj hr; exact done1 (Or.inl rfl) Try.results15 rfl ⟨_, _, rfl, rfl, j0, Vbool⟩
 ·have hr := ite_f j1 hr
  refine W_skip (then_n (W_seq (sr (asg (rv (vi 0)) (nn ?_)))))
  obtain ⟨j2, j3, j4⟩ := bind_some hr
  refine W_cut (fun f w => ∃ (s : St), s.w = w ∧ Ext s0 s ∧ Le s0 s ∧ Sum.inl () = j2) ?_ ?_
  ·refine W_block (W_loop (fun m f w => ∃ (s : St) (j5 : Int), s.w = w ∧ Ext s0 s ∧ Le s0 s ∧ law14_equal_l1 N a0 a1 m j5 = some j2 ∧ f 5 = vi j5 ∧ f 0 = w0 ∧ f 1 = w1) N ⟨s0, 0, rfl, j0, (Le.refl _), j3, rfl, rfl, rfl⟩ ?_)
   rintro j6 j7 j8 ⟨j9, j5, rfl, ja, jb, hr, jc, jd, je⟩
   cases j6 with
   | zero => exact absurd hr (by simp [law14_equal_l1])
   | succ j6 =>
    rw [law14_equal_l1.eq_2] at hr
    refine W_seq (sr (mv jc (mv jd (ln Try.underlying24 (rv w0) (h0.mono jb) (ls (rv (vi j5)) (rv (vi ((a0.length : Int)))) (nn ?_))))))
    refine W_cond _ (rv (vb (decide (j5 < (a0.length : Int))))) (fun jf => ?_) (fun jf => ?_)
    ·have hr := ite_t jf hr
     refine W_skip (then_n (W_seq (W_block (W_seq ?_))))
     obtain ⟨jg, jh, hr⟩ := bind_some hr
     obtain ⟨ji, jj, hr⟩ := bind_some hr
     refine W_draws mixed (by kernel_rfl) [PV.data (a0 : List (List U8)), PV.eq (vi j5), PV.ptr (jg : List U8), PV.data (jg : List U8), PV.eq (Value.string (txtOf jg).v), PV.data (a1 : List (List U8)), PV.eq (vi j5), PV.ptr (ji : List U8), PV.data (ji : List U8), PV.eq (Value.string (txtOf ji).v), PV.eq (vb (!decide ((txtOf jg) = (txtOf ji))))] (Steps_cons ?_ (Steps_cons ?_ (Steps_cons ?_ (Steps_cons ?_ (Steps_cons ?_ (Steps_cons ?_ (Steps_cons ?_ (Steps_cons ?_ (Steps_cons ?_ (Steps_cons ?_ (Steps_cons ?_ Steps_nil))))))))))) ?_
     ·intro jk jl jm jn jo Q jp; have jq : jk 0 = w0 := (jo 0 (by kernel_rfl)).trans jd; exact mv jq (fin jp (h0.mono (jb.trans jm.le)))
     ·intro jk jl jm jn jo Q jp; have jq : jk 5 = vi (j5) := (jo 5 (by kernel_rfl)).trans jc; exact mv jq (fin jp rfl)
     ·intro jk jl jm jn jo Q jp; have jq : V _ (jk 17) (a0 : List (List U8)) := jn 0 17 (by kernel_rfl) (by kernel_rfl); obtain ⟨jr, js, jt⟩ : ∃ v, _ = v ∧ V _ v _ := ⟨_, rfl, jq⟩; have ju : jk 18 = vi (j5) := jn 1 18 (by kernel_rfl) (by kernel_rfl); exact ix Try.underlying24 ty22.inf js jt ju jh (fun jv jw => fin jp jw)
     ·intro jk jl jm jn jo Q jp; have jq : Ptr _ (jk 19) (jg : List U8) := jn 2 19 (by kernel_rfl) (by kernel_rfl); obtain ⟨jr, js, jt⟩ : ∃ v, _ = v ∧ Ptr _ v _ := ⟨_, rfl, jq⟩; exact ld ty22 js jt (fun ju jv => fin jp jv)
     ·intro jk jl jm jn jo Q jp; have jq : V _ (jk 20) (jg : List U8) := jn 3 20 (by kernel_rfl) (by kernel_rfl); obtain ⟨jr, js, jt⟩ : ∃ v, _ = v ∧ V _ v _ := ⟨_, rfl, jq⟩; exact L_b2s Try.underlying22 Try.underlying5 Try.underlying9 js jt (by decide) (fin jp rfl)
     ·intro jk jl jm jn jo Q jp; have jq : jk 1 = w1 := (jo 1 (by kernel_rfl)).trans je; exact mv jq (fin jp (h1.mono (jb.trans jm.le)))
     ·intro jk jl jm jn jo Q jp; have jq : jk 5 = vi (j5) := (jo 5 (by kernel_rfl)).trans jc; exact mv jq (fin jp rfl)
     ·intro jk jl jm jn jo Q jp; have jq : V _ (jk 22) (a1 : List (List U8)) := jn 5 22 (by kernel_rfl) (by kernel_rfl); obtain ⟨jr, js, jt⟩ : ∃ v, _ = v ∧ V _ v _ := ⟨_, rfl, jq⟩; have ju : jk 23 = vi (j5) := jn 6 23 (by kernel_rfl) (by kernel_rfl); exact ix Try.underlying24 ty22.inf js jt ju jj (fun jv jw => fin jp jw)
     ·intro jk jl jm jn jo Q jp; have jq : Ptr _ (jk 24) (ji : List U8) := jn 7 24 (by kernel_rfl) (by kernel_rfl); obtain ⟨jr, js, jt⟩ : ∃ v, _ = v ∧ Ptr _ v _ := ⟨_, rfl, jq⟩; exact ld ty22 js jt (fun ju jv => fin jp jv)
     ·intro jk jl jm jn jo Q jp; have jq : V _ (jk 25) (ji : List U8) := jn 8 25 (by kernel_rfl) (by kernel_rfl); obtain ⟨jr, js, jt⟩ : ∃ v, _ = v ∧ V _ v _ := ⟨_, rfl, jq⟩; exact L_b2s Try.underlying22 Try.underlying5 Try.underlying9 js jt (by decide) (fin jp rfl)
     ·intro jk jl jm jn jo Q jp; have jq : jk 21 = Value.string (txtOf jg).v := jn 4 21 (by kernel_rfl) (by kernel_rfl); have jr : jk 26 = Value.string (txtOf ji).v := jn 9 26 (by kernel_rfl) (by kernel_rfl); exact L_sneq jq jr (by decide) (fin jp rfl)
     ·intro jk jl jm jn jo
      have jp := Tch.ext ja jm
      have jq : jk 0 = w0 := (jo 0 (by kernel_rfl)).trans jd
      have jr : jk 1 = w1 := (jo 1 (by kernel_rfl)).trans je
      have js : jk 5 = vi (j5) := (jo 5 (by kernel_rfl)).trans jc
      have jt : jk 27 = vb (!decide ((txtOf jg) = (txtOf ji))) := jn 10 27 (by kernel_rfl)
      refine then_n ?_
      refine W_cond _ jt (fun ju => ?_) (fun ju => ?_)
      ·have hr := ite_t ju hr; refine sr (asg (rv (vb false)) (nn (W_ret (block_r (then_r (then_r (block_r ?_))))))); obtain rfl := Option.some.inj hr; have hr := j4; (try dsimp only at hr); refine then_r (then_r ?_); obtain rfl := Option.some.inj hr; exact done1 (Or.inl rfl) Try.results15 rfl ⟨_, _, rfl, rfl, jp, Vbool⟩
      ·have hr := ite_f ju hr; refine W_skip (block_n (then_n (W_region (mv js ?_)))); obtain ⟨jv, hr⟩ := chk_some hr; exact ad (rv (vi j5)) (rv (vi 1)) jv (asg (rv (vi (j5 + 1))) (nn ⟨j6, Nat.lt_succ_self _, ⟨jl, (j5 + 1), rfl, jp, (jb.trans jm.le), hr, rfl, jq, jr⟩⟩))
    ·have hr := ite_f jf hr; refine W_exit (then_x (then_x (block_here ?_))); exact then_n ⟨j9, rfl, ja, jb, Option.some.inj hr⟩
  ·rintro j5 j6 ⟨j7, rfl, j8, j9, j3⟩; subst j3; have hr := j4; (try dsimp only at hr); refine then_n (sr (asg (rv (vb true)) (nn (W_ret ?_)))); obtain rfl := Option.some.inj hr; exact done1 (Or.inl rfl) Try.results15 rfl ⟨_, _, rfl, rfl, j8, Vbool⟩

theorem check_field_inverse_ok (N : Nat) (s0 : St) (w0 : Value) (a0 : Field) (h0 : Ptr s0 w0 a0) (a1 : U8) (r : U8) (hr : check_field_inverse N a0 a1 = some r) :
    Calls Try.prog 68 #[w0, .int .u8 a1.n] s0.w (Ret s0 fun v s => V s v r) := by
 unfold check_field_inverse at hr
 have j0 := Ext.refl s0
 refine Calls_of (n := 17) (args := [w0, .int .u8 a1.n]) Try.func68 rfl rfl (by simp) (sr (asg (rv (Value.int .u8 ((⟨0⟩ : U8)).n)) (nn (W_seq ?_))))
 obtain ⟨j1, j2, hr⟩ := bind_some hr
 obtain ⟨j3, hr⟩ := chk_some hr
 obtain ⟨j4, j5, hr⟩ := bind_some hr
 refine W_draws mixed (by kernel_rfl) [PV.ptr (a0 : Field), PV.ptr (a0 : Field), PV.eq (Value.int .u8 (a1).n), PV.ptr (a0 : Field), PV.ptr (a0.log : AV 256 Int), PV.ptr (j1 : Int), PV.eq (vi j1), PV.eq (vi (255 - j1)), PV.ptr (a0 : Field), PV.ptr (a0.power : AV 510 U8), PV.ptr (j4 : U8), PV.eq (Value.int .u8 (j4).n), PV.eq (Value.int .u8 (j4).n)] (Steps_cons ?_ (Steps_cons ?_ (Steps_cons ?_ (Steps_cons ?_ (Steps_cons ?_ (Steps_cons ?_ (Steps_cons ?_ (Steps_cons ?_ (Steps_cons ?_ (Steps_cons ?_ (Steps_cons ?_ (Steps_cons ?_ (Steps_cons ?_ Steps_nil))))))))))))) ?_
 ·intro j6 j7 j8 j9 ja Q jb; have jc : j6 0 = w0 := (ja 0 (by kernel_rfl)).trans rfl; exact mv jc (fin jb (h0.mono j8.le))
 ·intro j6 j7 j8 j9 ja Q jb; have jc : j6 0 = w0 := (ja 0 (by kernel_rfl)).trans rfl; exact mv jc (fin jb (h0.mono j8.le))
 ·intro j6 j7 j8 j9 ja Q jb; have jc : j6 1 = Value.int .u8 (a1).n := (ja 1 (by kernel_rfl)).trans rfl; exact mv jc (fin jb rfl)
 ·intro j6 j7 j8 j9 ja Q jb; have jc : Ptr _ (j6 6) (a0 : Field) := j9 1 6 (by kernel_rfl) (by kernel_rfl); obtain ⟨jd, je, jf⟩ : ∃ v, _ = v ∧ Ptr _ v _ := ⟨_, rfl, jc⟩; exact L_nilCheck_ptr je jf (by decide) (fin jb jf)
 ·intro j6 j7 j8 j9 ja Q jb; have jc : Ptr _ (j6 8) (a0 : Field) := j9 3 8 (by kernel_rfl) (by kernel_rfl); obtain ⟨jd, je, jf⟩ : ∃ v, _ = v ∧ Ptr _ v _ := ⟨_, rfl, jc⟩; exact fa fld151_1 Field.of_log je jf (fun jg jh => fin jb jh)
 ·intro j6 j7 j8 j9 ja Q jb; have jc : j6 7 = Value.int .u8 (a1).n := j9 2 7 (by kernel_rfl) (by kernel_rfl); have jd : Ptr _ (j6 9) (a0.log : AV 256 Int) := j9 4 9 (by kernel_rfl) (by kernel_rfl); obtain ⟨je, jf, jg⟩ : ∃ v, _ = v ∧ Ptr _ v _ := ⟨_, rfl, jd⟩; exact L_indexAV Try.underlying149 ty3.inf jf jg jc j2 (by decide) (fun jh ji => fin jb ji)
 ·intro j6 j7 j8 j9 ja Q jb; have jc : Ptr _ (j6 10) (j1 : Int) := j9 5 10 (by kernel_rfl) (by kernel_rfl); obtain ⟨jd, je, jf⟩ : ∃ v, _ = v ∧ Ptr _ v _ := ⟨_, rfl, jc⟩; exact li ty3 je jf (fin jb rfl)
 ·intro j6 j7 j8 j9 ja Q jb; have jc : j6 11 = vi (j1) := j9 6 11 (by kernel_rfl) (by kernel_rfl); exact L_sub (rv (vi 255)) jc j3 (by decide) (fin jb rfl)
 ·intro j6 j7 j8 j9 ja Q jb; have jc : Ptr _ (j6 5) (a0 : Field) := j9 0 5 (by kernel_rfl) (by kernel_rfl); obtain ⟨jd, je, jf⟩ : ∃ v, _ = v ∧ Ptr _ v _ := ⟨_, rfl, jc⟩; exact L_nilCheck_ptr je jf (by decide) (fin jb jf)
 ·intro j6 j7 j8 j9 ja Q jb; have jc : Ptr _ (j6 13) (a0 : Field) := j9 8 13 (by kernel_rfl) (by kernel_rfl); obtain ⟨jd, je, jf⟩ : ∃ v, _ = v ∧ Ptr _ v _ := ⟨_, rfl, jc⟩; exact fa fld151_0 Field.of_power je jf (fun jg jh => fin jb jh)
 ·intro j6 j7 j8 j9 ja Q jb; have jc : j6 12 = vi (255 - j1) := j9 7 12 (by kernel_rfl) (by kernel_rfl); have jd : Ptr _ (j6 14) (a0.power : AV 510 U8) := j9 9 14 (by kernel_rfl) (by kernel_rfl); obtain ⟨je, jf, jg⟩ : ∃ v, _ = v ∧ Ptr _ v _ := ⟨_, rfl, jd⟩; exact L_indexAV Try.underlying148 ty5.inf jf jg jc j5 (by decide) (fun jh ji => fin jb ji)
 ·intro j6 j7 j8 j9 ja Q jb; have jc : Ptr _ (j6 15) (j4 : U8) := j9 10 15 (by kernel_rfl) (by kernel_rfl); obtain ⟨jd, je, jf⟩ : ∃ v, _ = v ∧ Ptr _ v _ := ⟨_, rfl, jc⟩; exact L_load_u8 ty5 je jf (by decide) (fin jb rfl)
 ·intro j6 j7 j8 j9 ja Q jb; have jc : j6 16 = Value.int .u8 (j4).n := j9 11 16 (by kernel_rfl) (by kernel_rfl); exact asg jc (fin jb rfl)
 ·intro j6 j7 j8 j9 ja; have jb := Tch.ext j0 j8; have jc : j6 4 = Value.int .u8 (j4).n := j9 12 4 (by kernel_rfl); refine then_n (W_ret ?_); obtain rfl := Option.some.inj hr; exact done1 (Or.inl rfl) Try.results68 jc ⟨_, _, rfl, rfl, jb, Vu8⟩

theorem check_field_row_ok (N : Nat) (s0 : St) (w0 : Value) (a0 : Field) (h0 : Ptr s0 w0 a0) (a1 : Int) (a2 : Int) (r : (List U8)) (hr : check_field_row N a0 a1 a2 = some r) :
    Calls Try.prog 65 #[w0, .int .i64 a1, .int .i64 a2] s0.w (Ret s0 fun v s => V s v r) := by
 unfold check_field_row at hr
 have j0 := Ext.refl s0
 refine Calls_of (n := 37) (args := [w0, .int .i64 a1, .int .i64 a2]) Try.func65 rfl rfl (by simp) (sr (asg (rv (Value.slice none 0 0)) (nn (sr (mv (rv (vi a2)) ?_)))))
 obtain ⟨j1, hr⟩ := chk_some hr
 refine L_makeArr (x0 := (⟨0⟩ : U8)) Try.underlying22 tyz5 (rv (vi a2)) j1.1 j1.2.1 j1.2.2 (fun _ => rfl) (by decide) (fun j2 j3 j4 j5 j6 => ?_)
 have j7 := Tch.ext j0 j4
 refine asg (rv (Value.slice (some ⟨j3, 0, none⟩) (a2).toNat (a2).toNat)) (nn (W_seq (sr (mv (rv (vi a1)) (mv (rv (vi a2)) (ls (rv (vi a1)) (rv (vi a2)) (nn ?_)))))))
 refine W_cond _ (rv (vb (decide (a1 < a2)))) (fun j8 => ?_) (fun j8 => ?_)
 ·have hr := ite_t j8 hr; refine sr (mv (rv (Value.slice (some ⟨j3, 0, none⟩) (a2).toNat (a2).toNat)) (mv (rv (vi a1)) ?_)); obtain ⟨j9, ja, hr⟩ := bind_some hr; refine L_indexA (sz := 1) Try.underlying22 ty5.inf (rv (Value.slice (some ⟨j3, 0, none⟩) (a2).toNat (a2).toNat)) (rv (vi a1)) (idx_some ja).1 (by have := (idx_some ja).2.1; have := (j6).1; omega) (by decide) (L_storeA (xs := (List.replicate (a2).toNat (⟨0⟩ : U8))) ty5 (rv (Value.pointer (some ⟨j3, (a1).toNat * 1, none⟩))) (rv (Value.int .u8 ((⟨1⟩ : U8)).n)) Vu8 (j6) ja (fun jb jc jd => ?_)); have je := Tch.trans j7 jc (fun k hk => Or.inr (by subst hk; exact (Nat.le_trans j0.size j5))); refine nn (sr (mv (rv (Value.slice (some ⟨j3, 0, none⟩) (a2).toNat (a2).toNat)) (asg (rv (Value.slice (some ⟨j3, 0, none⟩) (a2).toNat (a2).toNat)) (nn (W_ret (then_r ?_)))))); obtain rfl := Option.some.inj hr; obtain ⟨jf, jg, jh, ji⟩ := (jd).freeze; have jj := Tch.trans je jh (fun k hk => Or.inr (by subst hk; exact (Nat.le_trans j0.size j5))); exact done1 (Or.inl rfl) Try.results65 rfl ⟨_, _, rfl, jg, jj, ji⟩
 ·have hr := ite_f j8 hr
  refine W_skip (then_n (W_seq (sr (mv (rv (Value.slice (some ⟨j3, 0, none⟩) (a2).toNat (a2).toNat)) (L_lenA Try.underlying22 (rv (Value.slice (some ⟨j3, 0, none⟩) (a2).toNat (a2).toNat)) (by decide) (mv (rv (vi 0)) (nn ?_)))))))
  obtain ⟨j9, ja, jb⟩ := bind_some hr
  refine W_cut (fun f w => ∃ (s : St) (jc : List U8), s.w = w ∧ Ext s0 s ∧ Le j2 s ∧ jc = j9 ∧ f 7 = Value.slice (some ⟨j3, 0, none⟩) (a2).toNat (a2).toNat ∧ Arr s j3 5 (a2).toNat jc) ?_ ?_
  ·refine W_block (W_loop (fun m f w => ∃ (s : St) (jd : Int) (je : List U8), s.w = w ∧ Ext s0 s ∧ Le j2 s ∧ check_field_row_l1 N a0 a1 a2 m jd je = some j9 ∧ f 20 = vi jd ∧ f 0 = w0 ∧ f 1 = vi (a1) ∧ f 2 = vi (a2) ∧ f 7 = Value.slice (some ⟨j3, 0, none⟩) (a2).toNat (a2).toNat ∧ f 19 = vi ((((a2).toNat : Nat) : Int)) ∧ Arr s j3 5 (a2).toNat je) N ⟨j2, 0, (List.replicate (a2).toNat (⟨0⟩ : U8)), rfl, j7, (Le.refl _), ja, rfl, rfl, rfl, rfl, rfl, rfl, j6⟩ ?_)
   rintro jf jg jh ⟨ji, jd, je, rfl, jj, jk, hr, jl, jm, jn, jo, jp, jq, jr⟩
   cases jf with
   | zero => exact absurd hr (by simp [check_field_row_l1])
   | succ jf =>
    rw [check_field_row_l1.eq_2] at hr
    refine sr (ls jl jq (nn (W_seq ?_)))
    refine W_cond _ (rfl : _ = vb (decide (jd < (((a2).toNat : Nat) : Int)))) (fun js => ?_) (fun js => ?_)
    ·have hr := ite_t js hr; refine W_skip (then_n (W_seq (W_block (sr (mv jl (asg (rv (vi jd)) (nn (W_region (mv jp (mv (rv (vi jd)) (mv jm (mv jn (mv jo ?_))))))))))))); obtain ⟨jt, hr⟩ := chk_some hr; refine L_sub (rv (vi a1)) (rv (vi a2)) jt (by decide) (mv (rv (vi jd)) ?_); obtain ⟨ju, hr⟩ := chk_some hr; refine ad (rv (vi 16)) (rv (vi jd)) ju (L_xorK (rv (vi (a1 - a2))) (rv (vi (16 + jd))) (by decide) (L_convK Try.underlying3 Try.underlying5 (rv (vi (xorK .i64 (a1 - a2) (16 + jd)))) (by decide) ?_)); obtain ⟨jv, jw, hr⟩ := bind_some hr; refine L_calls cal68 (args2 (rv w0) (rv (Value.int .u8 ((⟨convK .u8 (xorK .i64 (a1 - a2) (16 + jd))⟩ : U8)).n))) (check_field_inverse_ok N _ _ _ (h0.mono (j4.le.trans jk)) (⟨convK .u8 (xorK .i64 (a1 - a2) (16 + jd))⟩ : U8) jv jw) (by decide) (fun jx jy jz k0 => ?_); have k1 := Tch.ext jj jz; obtain rfl := k0.u8; obtain ⟨k2, k3, hr⟩ := bind_some hr; refine L_indexA (sz := 1) Try.underlying22 ty5.inf (rv (Value.slice (some ⟨j3, 0, none⟩) (a2).toNat (a2).toNat)) (rv (vi jd)) (idx_some k3).1 (by have := (idx_some k3).2.1; have := ((jr).ext jz).1; omega) (by decide) (L_storeA (xs := je) ty5 (rv (Value.pointer (some ⟨j3, (jd).toNat * 1, none⟩))) (rv (Value.int .u8 (jv).n)) Vu8 ((jr).ext jz) k3 (fun k4 k5 k6 => ?_)); have k7 := Tch.trans k1 k5 (fun k hk => Or.inr (by subst hk; exact (Nat.le_trans j0.size j5))); refine L_nil (block_n (then_n (W_region ?_))); obtain ⟨k8, hr⟩ := chk_some hr; exact ad jl (rv (vi 1)) k8 (mv (rv (vi (jd + 1))) (nn ⟨jf, Nat.lt_succ_self _, ⟨k4, (jd + 1), (je.set (jd).toNat jv), rfl, k7, (jk.trans (jz.le.trans k5.le)), hr, rfl, jm, jn, jo, jp, jq, k6⟩⟩))
    ·have hr := ite_f js hr; refine W_exit (then_x (then_x (block_here ?_))); exact then_n ⟨ji, je, rfl, jj, jk, Option.some.inj hr, jp, jr⟩
  ·rintro jd je ⟨jf, jc, rfl, jg, jh, ja, ji, jj⟩; subst ja; have hr := jb; (try dsimp only at hr); refine then_n (sr (mv ji (asg (rv (Value.slice (some ⟨j3, 0, none⟩) (a2).toNat (a2).toNat)) (nn (W_ret ?_))))); obtain rfl := Option.some.inj hr; obtain ⟨jk, jl, jm, jn⟩ := (jj).freeze; have jo := Tch.trans jg jm (fun k hk => Or.inr (by subst hk; exact (Nat.le_trans j0.size j5))); exact done1 (Or.inl rfl) Try.results65 rfl ⟨_, _, rfl, jl, jo, jn⟩

theorem bytes_Equal_ok (N : Nat) (s0 : St) (w0 : Value) (a0 : List U8) (h0 : V s0 w0 a0) (w1 : Value) (a1 : List U8) (h1 : V s0 w1 a1) (r : Bool) (hr : bytes_Equal N a0 a1 = some r) :
    Calls Try.prog 40 #[w0, w1] s0.w (Ret s0 fun v s => V s v r) := by
 unfold bytes_Equal at hr
 have j0 := Ext.refl s0
 refine Calls_of (n := 10) (args := [w0, w1]) Try.func40 rfl rfl (by simp) (sr (asg (rv (vb false)) (nn (sr (mv (rv w0) (L_b2s Try.underlying22 Try.underlying5 Try.underlying9 (rv w0) h0 (by decide) (mv (rv w1) (L_b2s Try.underlying22 Try.underlying5 Try.underlying9 (rv w1) h1 (by decide) (L_seql (rv (Value.string (txtOf a0).v)) (rv (Value.string (txtOf a1).v)) (by decide) (asg (rv (vb (decide ((txtOf a0) = (txtOf a1))))) (nn (W_ret ?_))))))))))))
 obtain rfl := Option.some.inj hr
 exact done1 (Or.inl rfl) Try.results40 rfl ⟨_, _, rfl, rfl, j0, Vbool⟩

theorem slices_Grow_Lbyte_byte_ok (N : Nat) (s0 : St) (a1 : Int) (r : (List U8)) (hr : slices_Grow_Lbyte_byte N a1 = some r) :
    Calls Try.prog 71 #[.slice none 0 0, .int .i64 a1] s0.w (Ret s0 fun v s => Bld s s0.w.heap.size 5 v r) := by
 unfold slices_Grow_Lbyte_byte at hr
 have j0 := Ext.refl s0
 refine Calls_of (n := 27) (args := [.slice none 0 0, .int .i64 a1]) Try.func71 rfl rfl (by simp) (sr (asg (rv (Value.slice none 0 0)) (nn (W_seq (sr (mv (rv (vi a1)) (ls (rv (vi a1)) (rv (vi 0)) (nn ?_))))))))
 refine W_cond _ (rv (vb (decide (a1 < 0)))) (fun j1 => ?_) (fun j1 => ?_)
 ·have hr := ite_t j1 hr
  refine W_region ?_
  cases hr
 ·have hr := ite_f j1 hr
  refine W_skip (then_n (W_seq (sr (mv (rv (vi a1)) (mv (rv (Value.slice none 0 0)) (L_capNil Try.underlying22 (rv (Value.slice none 0 0)) (by decide) (mv (rv (Value.slice none 0 0)) (L_lenA Try.underlying22 (rv (Value.slice none 0 0)) (by decide) ?_))))))))
  obtain ⟨j2, hr⟩ := chk_some hr
  refine L_sub (rv (vi 0)) (rv (vi (((0 : Nat) : Int)))) j2 (by decide) ?_
  obtain ⟨j3, hr⟩ := chk_some hr
  refine L_sub (rv (vi a1)) (rv (vi (0 - ((0 : Nat) : Int)))) j3 (by decide) (asg (rv (vi (a1 - (0 - ((0 : Nat) : Int))))) (nn (sr (mv (rv (vi (a1 - (0 - ((0 : Nat) : Int))))) (L_gtr (rv (vi (a1 - (0 - ((0 : Nat) : Int))))) (rv (vi 0)) (by decide) (nn ?_))))))
  refine W_cond _ (rfl : _ = vb (decide (0 < (a1 - (0 - ((0 : Nat) : Int)))))) (fun j4 => ?_) (fun j4 => ?_)
  ·have hr := ite_t j4 hr; refine W_region (mv (rv (Value.slice none 0 0)) (mv (rv (Value.slice none 0 0)) (L_capNil Try.underlying22 (rv (Value.slice none 0 0)) (by decide) ?_))); obtain ⟨j5, hr⟩ := chk_some hr; refine L_sliceNil Try.underlying22 ty5.inf (rv (Value.slice none 0 0)) (rv (vi 0)) j5 (by decide) (mv (rv (vi (a1 - (0 - ((0 : Nat) : Int))))) ?_); obtain ⟨j6, hr⟩ := chk_some hr; refine L_growNil (α := U8) Try.underlying22 Try.underlying3 tyz5 (rv (Value.slice none 0 0)) (rv (vi (a1 - (0 - ((0 : Nat) : Int))))) j6.1 j6.2.1 j6.2.2 (by decide) (fun j7 j8 j9 ja jb => ?_); have jc := Tch.ext j0 ja; refine mv (rv (Value.slice none 0 0)) (L_lenA Try.underlying22 (rv (Value.slice none 0 0)) (by decide) ?_); obtain ⟨jd, hr⟩ := chk_some hr; refine L_slice0 Try.underlying22 ty5.inf (rfl : _ = (Value.slice (some ⟨j8, 0, none⟩) (a1 - (0 - ((0 : Nat) : Int))).toNat j9)) (rv (vi (((0 : Nat) : Int)))) jd (by decide) (asg (rv ((Value.slice (some ⟨j8, 0, none⟩) 0 j9))) (nn (sr (mv (rv ((Value.slice (some ⟨j8, 0, none⟩) 0 j9))) (asg (rv ((Value.slice (some ⟨j8, 0, none⟩) 0 j9))) (nn (W_ret ?_))))))); obtain rfl := Option.some.inj hr; exact done1 (Or.inl rfl) Try.results71 rfl ⟨_, _, rfl, rfl, jc, (jb.base j0.size)⟩
  ·have hr := ite_f j4 hr; refine W_skip (then_n (sr (mv (rv (Value.slice none 0 0)) (asg (rv (Value.slice none 0 0)) (nn (W_ret ?_)))))); obtain rfl := Option.some.inj hr; exact done1 (Or.inl rfl) Try.results71 rfl ⟨_, _, rfl, rfl, j0, Bld.nil⟩

theorem slices_Concat_Lbyte_byte_ok (N : Nat) (s0 : St) (w0 : Value) (a0 : List (List U8)) (h0 : V s0 w0 a0) (r : (List U8)) (hr : slices_Concat_Lbyte_byte N a0 = some r) :
    Calls Try.prog 41 #[w0] s0.w (Ret s0 fun v s => V s v r) := by
 unfold slices_Concat_Lbyte_byte at hr
 have j0 := Ext.refl s0
 refine Calls_of (n := 36) (args := [w0]) Try.func41 rfl rfl (by simp) (sr (asg (rv (Value.slice none 0 0)) (nn (sr (asg (rv (vi 0)) (nn (W_seq (sr (mv (rv w0) (ln Try.underlying24 (rv w0) h0 (mv (rv (vi 0)) (nn ?_))))))))))))
 obtain ⟨j1, j2, j3⟩ := bind_some hr
 refine W_cut (fun f w => ∃ (s : St) (j4 : Int), s.w = w ∧ Ext s0 s ∧ Le s0 s ∧ j4 = j1 ∧ f 3 = vi j4 ∧ f 0 = w0) ?_ ?_
 ·refine W_block (W_loop (fun m f w => ∃ (s : St) (j5 : Int) (j6 : Int), s.w = w ∧ Ext s0 s ∧ Le s0 s ∧ slices_Concat_Lbyte_byte_l1 N a0 m j5 j6 = some j1 ∧ f 3 = vi j5 ∧ f 11 = vi j6 ∧ f 0 = w0 ∧ f 9 = w0 ∧ f 10 = vi ((a0.length : Int))) N ⟨s0, 0, 0, rfl, j0, (Le.refl _), j2, rfl, rfl, rfl, rfl, rfl⟩ ?_)
  rintro j7 j8 j9 ⟨ja, j5, j6, rfl, jb, jc, hr, jd, je, jf, jg, jh⟩
  cases j7 with
  | zero => exact absurd hr (by simp [slices_Concat_Lbyte_byte_l1])
  | succ j7 =>
   rw [slices_Concat_Lbyte_byte_l1.eq_2] at hr
   refine sr (ls je jh (nn (W_seq ?_)))
   refine W_cond _ (rv (vb (decide (j6 < (a0.length : Int))))) (fun ji => ?_) (fun ji => ?_)
   ·have hr := ite_t ji hr
    refine W_skip (then_n (W_seq (W_block (sr ?_))))
    obtain ⟨jj, jk, hr⟩ := bind_some hr
    refine ix Try.underlying24 ty22.inf jg (h0.mono jc) je jk (fun jl jm => ld ty22 (rv jl) jm (fun jn jo => asg (rv jn) (nn (sr (mv jd (mv (rv jn) (ln Try.underlying22 (rv jn) jo ?_)))))))
    obtain ⟨jp, hr⟩ := chk_some hr
    refine ad (rv (vi j5)) (rv (vi ((jj.length : Int)))) jp (asg (rv (vi (j5 + (jj.length : Int)))) (nn (sr (mv (rv (vi (j5 + (jj.length : Int)))) (ls (rv (vi (j5 + (jj.length : Int)))) (rv (vi 0)) (nn ?_))))))
    refine W_cond _ (rv (vb (decide ((j5 + (jj.length : Int)) < 0)))) (fun jq => ?_) (fun jq => ?_)
    ·have hr := ite_t jq hr
     refine W_region ?_
     cases hr
    ·have hr := ite_f jq hr; refine W_skip (block_n (then_n (W_region ?_))); obtain ⟨jr, hr⟩ := chk_some hr; exact ad je (rv (vi 1)) jr (mv (rv (vi (j6 + 1))) (nn ⟨j7, Nat.lt_succ_self _, ⟨ja, (j5 + (jj.length : Int)), (j6 + 1), rfl, jb, jc, hr, rfl, rfl, jf, jg, jh⟩⟩))
   ·have hr := ite_f ji hr; refine W_exit (then_x (then_x (block_here ?_))); exact then_n ⟨ja, j5, rfl, jb, jc, Option.some.inj hr, jd, jf⟩
 ·rintro j5 j6 ⟨j7, j4, rfl, j8, j9, j2, ja, jb⟩
  subst j2
  have hr := j3
  try dsimp only at hr
  refine then_n (sr (mv ja ?_))
  obtain ⟨jc, jd, hr⟩ := bind_some hr
  refine L_calls cal71 (args2 (rv (Value.slice none 0 0)) (rv (vi j4))) (slices_Grow_Lbyte_byte_ok N _ j4 jc jd) (by decide) (fun je jf jg jh => ?_)
  have ji := Tch.ext j8 jg
  refine asg (rv je) (nn (W_seq (sr (mv jb (ln Try.underlying24 (rv w0) (h0.mono (j9.trans jg.le)) (mv (rv (vi 0)) (nn ?_)))))))
  obtain ⟨jj, jk, jl⟩ := bind_some hr
  refine W_cut (fun f w => ∃ (s : St) (jm : Value) (jn : List U8), s.w = w ∧ Ext s0 s ∧ Le jf s ∧ jn = jj ∧ f 6 = jm ∧ Bld s s0.w.heap.size 5 jm jn) ?_ ?_
  ·refine W_block (W_loop (fun m f w => ∃ (s : St) (jo : Value) (jp : List U8) (jq : Int), s.w = w ∧ Ext s0 s ∧ Le jf s ∧ slices_Concat_Lbyte_byte_l2 N a0 m jp jq = some jj ∧ f 6 = jo ∧ Bld s s0.w.heap.size 5 jo jp ∧ f 27 = vi jq ∧ f 25 = w0 ∧ f 26 = vi ((a0.length : Int))) N ⟨jf, je, jc, 0, rfl, ji, (Le.refl _), jk, rfl, (jh.base j8.size), rfl, rfl, rfl⟩ ?_)
   rintro jr js jt ⟨ju, jo, jp, jq, rfl, jv, jw, hr, jx, jy, jz, k0, k1⟩
   cases jr with
   | zero => exact absurd hr (by simp [slices_Concat_Lbyte_byte_l2])
   | succ jr =>
    rw [slices_Concat_Lbyte_byte_l2.eq_2] at hr
    refine sr (ls jz k1 (nn (W_seq ?_)))
    refine W_cond _ (rv (vb (decide (jq < (a0.length : Int))))) (fun k2 => ?_) (fun k2 => ?_)
    ·have hr := ite_t k2 hr; refine W_skip (then_n (W_seq (W_block (sr ?_)))); obtain ⟨k3, k4, hr⟩ := bind_some hr; refine ix Try.underlying24 ty22.inf k0 (h0.mono (j9.trans (jg.le.trans jw))) jz k4 (fun k5 k6 => ld ty22 (rv k5) k6 (fun k7 k8 => asg (rv k7) (nn (W_region (mv jx (mv (rv k7) ?_)))))); obtain ⟨k9, hr⟩ := chk_some hr; refine L_append (xs := jp) (B := s0.w.heap.size) Try.underlying22 tyz5 (rv jo) (rv k7) (jy) (jv.size) k8 k9.1 k9.2 (by decide) (fun ka kb kc => ?_); have kd := kc.tchM (jy) jv (Nat.le_refl _); refine asg (rv ka) (L_nil (block_n (then_n (W_region ?_)))); obtain ⟨ke, hr⟩ := chk_some hr; exact ad jz (rv (vi 1)) ke (mv (rv (vi (jq + 1))) (nn ⟨jr, Nat.lt_succ_self _, ⟨kb, ka, (jp ++ k3), (jq + 1), rfl, kd, (jw.trans kc.tch.le), hr, rfl, kc.bld, rfl, k0, k1⟩⟩))
    ·have hr := ite_f k2 hr; refine W_exit (then_x (then_x (block_here ?_))); exact then_n ⟨ju, jo, jp, rfl, jv, jw, Option.some.inj hr, jx, jy⟩
  ·rintro jo jp ⟨jq, jm, jn, rfl, jr, js, jk, jt, ju⟩; subst jk; have hr := jl; (try dsimp only at hr); refine then_n (sr (mv jt ?_)); have jv := (ju).toV; refine asg (rv jm) (nn (W_ret ?_)); obtain rfl := Option.some.inj hr; exact done1 (Or.inl rfl) Try.results41 rfl ⟨_, _, rfl, rfl, jr, jv⟩

theorem slices_IndexFunc_Lbyte_byte_ok (N : Nat) (s0 : St) (w0 : Value) (a0 : List U8) (h0 : V s0 w0 a0) (w1 : Value) (a1 : U8 → Option Bool) (h1 : Fn1 Try.prog s0 w1 a1) (r : Int) (hr : slices_IndexFunc_Lbyte_byte N a0 a1 = some r) :
    Calls Try.prog 72 #[w0, w1] s0.w (Ret s0 fun v s => V s v r) := by
 unfold slices_IndexFunc_Lbyte_byte at hr
 have j0 := Ext.refl s0
 refine Calls_of (n := 19) (args := [w0, w1]) Try.func72 rfl rfl (by simp) (sr (asg (rv (vi 0)) (nn (W_seq (sr (mv (rv w0) (ln Try.underlying22 (rv w0) h0 (mv (rv (vi 0)) (nn ?_)))))))))
 obtain ⟨j1, j2, j3⟩ := bind_some hr
 refine W_cut (fun f w => ∃ (s : St), s.w = w ∧ Ext s0 s ∧ Le s0 s ∧ Sum.inl () = j1) ?_ ?_
 ·refine W_block (W_loop (fun m f w => ∃ (s : St) (j4 : Int), s.w = w ∧ Ext s0 s ∧ Le s0 s ∧ slices_IndexFunc_Lbyte_byte_l1 N a0 a1 m j4 = some j1 ∧ f 8 = vi j4 ∧ f 0 = w0 ∧ f 1 = w1 ∧ f 7 = vi ((a0.length : Int))) N ⟨s0, 0, rfl, j0, (Le.refl _), j2, rfl, rfl, rfl, rfl⟩ ?_)
  rintro j5 j6 j7 ⟨j8, j4, rfl, j9, ja, hr, jb, jc, jd, je⟩
  cases j5 with
  | zero => exact absurd hr (by simp [slices_IndexFunc_Lbyte_byte_l1])
  | succ j5 =>
   rw [slices_IndexFunc_Lbyte_byte_l1.eq_2] at hr
   refine sr (ls jb je (nn (W_seq ?_)))
   refine W_cond _ (rv (vb (decide (j4 < (a0.length : Int))))) (fun jf => ?_) (fun jf => ?_)
   ·have hr := ite_t jf hr
    refine W_skip (then_n (W_seq (W_block (sr (mv jb (asg (rv (vi j4)) (nn (sr (mv jd (mv jc (mv (rv (vi j4)) ?_)))))))))))
    obtain ⟨jg, jh, hr⟩ := bind_some hr
    refine ix Try.underlying22 ty5.inf (rv w0) (h0.mono ja) (rv (vi j4)) jh (fun ji jj => L_load_u8 ty5 (rv ji) jj (by decide) ?_)
    obtain ⟨jk, jl, hr⟩ := bind_some hr
    refine L_call1 (rv w1) (h1.mono ja) (rv (Value.int .u8 (jg).n)) Vu8 jl (by decide) (fun jm jn jo jp => ?_)
    have jq := Tch.ext j9 jo
    obtain rfl := jp.bool
    refine nn ?_
    refine W_cond _ (rv (vb jk)) (fun jr => ?_) (fun jr => ?_)
    ·have hr := ite_t jr hr; refine sr (mv (rv (vi j4)) (asg (rv (vi j4)) (nn (W_ret (block_r (then_r (then_r (block_r ?_)))))))); obtain rfl := Option.some.inj hr; have hr := j3; (try dsimp only at hr); refine then_r (then_r ?_); obtain rfl := Option.some.inj hr; exact done1 (Or.inl rfl) Try.results72 rfl ⟨_, _, rfl, rfl, jq, Vint⟩
    ·have hr := ite_f jr hr; refine W_skip (block_n (then_n (W_region ?_))); obtain ⟨js, hr⟩ := chk_some hr; exact ad jb (rv (vi 1)) js (mv (rv (vi (j4 + 1))) (nn ⟨j5, Nat.lt_succ_self _, ⟨jn, (j4 + 1), rfl, jq, (ja.trans jo.le), hr, rfl, jc, jd, je⟩⟩))
   ·have hr := ite_f jf hr; refine W_exit (then_x (then_x (block_here ?_))); exact then_n ⟨j8, rfl, j9, ja, Option.some.inj hr⟩
 ·rintro j4 j5 ⟨j6, rfl, j7, j8, j2⟩; subst j2; have hr := j3; (try dsimp only at hr); refine then_n (sr (asg (rv (vi (-1))) (nn (W_ret ?_)))); obtain rfl := Option.some.inj hr; exact done1 (Or.inl rfl) Try.results72 rfl ⟨_, _, rfl, rfl, j7, Vint⟩

theorem slices_ContainsFunc_Lbyte_byte_ok (N : Nat) (s0 : St) (w0 : Value) (a0 : List U8) (h0 : V s0 w0 a0) (w1 : Value) (a1 : U8 → Option Bool) (h1 : Fn1 Try.prog s0 w1 a1) (r : Bool) (hr : slices_ContainsFunc_Lbyte_byte N a0 a1 = some r) :
    Calls Try.prog 42 #[w0, w1] s0.w (Ret s0 fun v s => V s v r) := by
 unfold slices_ContainsFunc_Lbyte_byte at hr
 have j0 := Ext.refl s0
 refine Calls_of (n := 9) (args := [w0, w1]) Try.func42 rfl rfl (by simp) (sr (asg (rv (vb false)) (nn (sr (mv (rv w0) (mv (rv w1) ?_))))))
 obtain ⟨j1, j2, hr⟩ := bind_some hr
 refine L_calls cal72 (args2 (rv w0) (rv w1)) (slices_IndexFunc_Lbyte_byte_ok N _ _ _ h0 _ a1 h1 j1 j2) (by decide) (fun j3 j4 j5 j6 => ?_)
 have j7 := Tch.ext j0 j5
 obtain rfl := j6.int
 refine L_geq (rv (vi j1)) (rv (vi 0)) (by decide) (asg (rv (vb (decide (0 ≤ j1)))) (nn (W_ret ?_)))
 obtain rfl := Option.some.inj hr
 exact done1 (Or.inl rfl) Try.results42 rfl ⟨_, _, rfl, rfl, j7, Vbool⟩

theorem check_Unite_1_ok (N : Nat) (s0 : St) (a0 : U8) (r : Bool) (hr : check_Unite_1 N a0 = some r) :
    Calls Try.prog 43 #[.int .u8 a0.n] s0.w (Ret s0 fun v s => V s v r) := by
 unfold check_Unite_1 at hr
 have j0 := Ext.refl s0
 refine Calls_of (n := 5) (args := [.int .u8 a0.n]) Try.func43 rfl rfl (by simp) (sr (asg (rv (vb false)) (nn (sr (mv (rv (Value.int .u8 (a0).n)) (ne (rv (Value.int .u8 (a0).n)) (rv (Value.int .u8 ((⟨0⟩ : U8)).n)) (asg (rv (vb (!decide (a0.n = (⟨0⟩ : U8).n)))) (nn (W_ret ?_)))))))))
 obtain rfl := Option.some.inj hr
 exact done1 (Or.inl rfl) Try.results43 rfl ⟨_, _, rfl, rfl, j0, Vbool⟩

theorem slices_Clone_Lbyte_byte_ok (N : Nat) (s0 : St) (w0 : Value) (a0 : List U8) (h0 : V s0 w0 a0) (r : (List U8)) (hr : slices_Clone_Lbyte_byte N a0 = some r) :
    Calls Try.prog 44 #[w0] s0.w (Ret s0 fun v s => V s v r) := by
 unfold slices_Clone_Lbyte_byte at hr
 have j0 := Ext.refl s0
 refine Calls_of (n := 8) (args := [w0]) Try.func44 rfl rfl (by simp) (sr (asg (rv (Value.slice none 0 0)) (nn (W_seq (sr (mv (rv w0) (L_eqNil Try.underlying22 (rv w0) h0 (by decide) (fun j1 j2 => nn ?_))))))))
 refine W_cond _ (rv (vb j1)) (fun j3 => ?_) (fun _ => ?_)
 ·obtain rfl := j2 j3; obtain ⟨_, hr⟩ := chk_some hr; refine sr (asg (rv (Value.slice none 0 0)) (nn (W_ret (then_r ?_)))); obtain rfl := Option.some.inj hr; exact done1 (Or.inl rfl) Try.results44 rfl ⟨_, _, rfl, rfl, j0, Vnil⟩
 ·refine W_skip (then_n (sr (L_buildSlice (xs := ([] : List U8)) Try.underlying22 tyz5 Parts_nil Vs.nil rfl (by decide) (by decide) (fun j4 j5 j6 j7 j8 => ?_)))); have j9 := Tch.ext j0 j6; refine mv (rv w0) ?_; obtain ⟨ja, hr⟩ := chk_some hr; refine L_append (xs := ([] : List U8)) (B := s0.w.heap.size) Try.underlying22 tyz5 (rv j5) (rv w0) ((j7.base j0.size)) (j9.size) (h0.mono j6.le) ja.1 ja.2 (by decide) (fun jb jc jd => ?_); have je := jd.tchM ((j7.base j0.size)) j9 (Nat.le_refl _); refine asg (rv jb) (nn (W_ret ?_)); obtain rfl := Option.some.inj hr; exact done1 (Or.inl rfl) Try.results44 rfl ⟨_, _, rfl, rfl, je, (jd.bld).toV⟩

theorem check_field_solve_1_ok (N : Nat) (s0 : St) (w0 : Value) (a0 : List U8) (h0 : V s0 w0 a0) (w1 : Value) (a1 : Int) (h1 : Ptr s0 w1 a1) (r : Bool) (hr : check_field_solve_1 N a0 a1 = some r) :
    Calls Try.prog 67 #[w0, w1] s0.w (Ret s0 fun v s => V s v r) := by
 unfold check_field_solve_1 at hr
 have j0 := Ext.refl s0
 refine Calls_of (n := 9) (args := [w0, w1]) Try.func67 rfl rfl (by simp) (sr (asg (rv (vb false)) (nn (sr (mv (rv w0) (li ty3 (rv w1) h1 ?_))))))
 obtain ⟨j1, j2, hr⟩ := bind_some hr
 refine ix Try.underlying22 ty5.inf (rv w0) h0 (rv (vi a1)) j2 (fun j3 j4 => L_load_u8 ty5 (rv j3) j4 (by decide) (ne (rv (Value.int .u8 (j1).n)) (rv (Value.int .u8 ((⟨0⟩ : U8)).n)) (asg (rv (vb (!decide (j1.n = (⟨0⟩ : U8).n)))) (nn (W_ret ?_)))))
 obtain rfl := Option.some.inj hr
 exact done1 (Or.inl rfl) Try.results67 rfl ⟨_, _, rfl, rfl, j0, Vbool⟩

theorem check_field_mul_ok (N : Nat) (s0 : St) (w0 : Value) (a0 : Field) (h0 : Ptr s0 w0 a0) (a1 : U8) (a2 : U8) (r : U8) (hr : check_field_mul N a0 a1 a2 = some r) :
    Calls Try.prog 89 #[w0, .int .u8 a1.n, .int .u8 a2.n] s0.w (Ret s0 fun v s => V s v r) := by
 unfold check_field_mul at hr
 have j0 := Ext.refl s0
 refine Calls_of (n := 31) (args := [w0, .int .u8 a1.n, .int .u8 a2.n]) Try.func89 rfl rfl (by simp) (sr (asg (rv (Value.int .u8 ((⟨0⟩ : U8)).n)) (nn (W_seq ?_))))
 obtain ⟨j1, j2, j3⟩ := bind_some hr
 refine W_seq_cut (fun f w => ∃ (s : St) (j4 : Bool), s.w = w ∧ Ext s0 s ∧ Le s0 s ∧ j4 = j1 ∧ f 12 = vb j4 ∧ f 0 = w0 ∧ f 1 = Value.int .u8 (a1).n ∧ f 2 = Value.int .u8 (a2).n) ?_ ?_
 ·have hr := j2
  refine W_region (mv (rv (Value.int .u8 (a1).n)) (el (rv (Value.int .u8 (a1).n)) (rv (Value.int .u8 ((⟨0⟩ : U8)).n)) (mv (rv (vb (decide (a1.n = (⟨0⟩ : U8).n)))) ?_)))
  rcases tf (decide (a1.n = (⟨0⟩ : U8).n)) with j5 | j5
  ·have hr := ite_t j5 hr; exact gf 9 (rv (vb (decide (a1.n = (⟨0⟩ : U8).n)))) j5 (gf 9 (rv (vb (decide (a1.n = (⟨0⟩ : U8).n)))) j5 (pt (rv (vb (decide (a1.n = (⟨0⟩ : U8).n)))) j5 (rv (vb true)) (nn ⟨s0, true, rfl, j0, (Le.refl _), Option.some.inj hr, rfl, rfl, rfl, rfl⟩)))
  ·have hr := ite_f j5 hr; exact gt 9 (rv (vb (decide (a1.n = (⟨0⟩ : U8).n)))) j5 (mv (rv (Value.int .u8 (a2).n)) (gt 9 (rv (vb (decide (a1.n = (⟨0⟩ : U8).n)))) j5 (el (rv (Value.int .u8 (a2).n)) (rv (Value.int .u8 ((⟨0⟩ : U8)).n)) (pf (rv (vb (decide (a1.n = (⟨0⟩ : U8).n)))) j5 (rv (vb (decide (a2.n = (⟨0⟩ : U8).n)))) (nn ⟨s0, (decide (a2.n = (⟨0⟩ : U8).n)), rfl, j0, (Le.refl _), Option.some.inj hr, rfl, rfl, rfl, rfl⟩)))))
 ·rintro j5 j6 ⟨j7, j4, rfl, j8, j9, j2, ja, jb, jc, jd⟩
  subst j2
  have hr := j3
  try dsimp only at hr
  refine W_cond _ ja (fun je => ?_) (fun je => ?_)
  ·have hr := ite_t je hr; refine sr (asg (rv (Value.int .u8 ((⟨0⟩ : U8)).n)) (nn (W_ret (then_r ?_)))); obtain rfl := Option.some.inj hr; exact done1 (Or.inl rfl) Try.results89 rfl ⟨_, _, rfl, rfl, j8, Vu8⟩
  ·have hr := ite_f je hr
   refine W_skip (then_n (W_seq ?_))
   obtain ⟨jf, jg, hr⟩ := bind_some hr
   obtain ⟨jh, ji, hr⟩ := bind_some hr
   obtain ⟨jj, hr⟩ := chk_some hr
   obtain ⟨jk, jl, hr⟩ := bind_some hr
   refine W_draws mixed (by kernel_rfl) [PV.ptr (a0 : Field), PV.ptr (a0 : Field), PV.eq (Value.int .u8 (a1).n), PV.ptr (a0 : Field), PV.ptr (a0.log : AV 256 Int), PV.ptr (jf : Int), PV.eq (vi jf), PV.ptr (a0 : Field), PV.eq (Value.int .u8 (a2).n), PV.ptr (a0 : Field), PV.ptr (a0.log : AV 256 Int), PV.ptr (jh : Int), PV.eq (vi jh), PV.eq (vi (jf + jh)), PV.ptr (a0 : Field), PV.ptr (a0.power : AV 510 U8), PV.ptr (jk : U8), PV.eq (Value.int .u8 (jk).n), PV.eq (Value.int .u8 (jk).n)] (Steps_cons ?_ (Steps_cons ?_ (Steps_cons ?_ (Steps_cons ?_ (Steps_cons ?_ (Steps_cons ?_ (Steps_cons ?_ (Steps_cons ?_ (Steps_cons ?_ (Steps_cons ?_ (Steps_cons ?_ (Steps_cons ?_ (Steps_cons ?_ (Steps_cons ?_ (Steps_cons ?_ (Steps_cons ?_ (Steps_cons ?_ (Steps_cons ?_ (Steps_cons ?_ Steps_nil))))))))))))))))))) ?_
   ·intro jm jn jo jp jq Q jr; have js : jm 0 = w0 := (jq 0 (by kernel_rfl)).trans jb; exact mv js (fin jr (h0.mono (j9.trans jo.le)))
   ·intro jm jn jo jp jq Q jr; have js : jm 0 = w0 := (jq 0 (by kernel_rfl)).trans jb; exact mv js (fin jr (h0.mono (j9.trans jo.le)))
   ·intro jm jn jo jp jq Q jr; have js : jm 1 = Value.int .u8 (a1).n := (jq 1 (by kernel_rfl)).trans jc; exact mv js (fin jr rfl)
   ·intro jm jn jo jp jq Q jr; have js : Ptr _ (jm 14) (a0 : Field) := jp 1 14 (by kernel_rfl) (by kernel_rfl); obtain ⟨jt, ju, jv⟩ : ∃ v, _ = v ∧ Ptr _ v _ := ⟨_, rfl, js⟩; exact L_nilCheck_ptr ju jv (by decide) (fin jr jv)
   ·intro jm jn jo jp jq Q jr; have js : Ptr _ (jm 16) (a0 : Field) := jp 3 16 (by kernel_rfl) (by kernel_rfl); obtain ⟨jt, ju, jv⟩ : ∃ v, _ = v ∧ Ptr _ v _ := ⟨_, rfl, js⟩; exact fa fld151_1 Field.of_log ju jv (fun jw jx => fin jr jx)
   ·intro jm jn jo jp jq Q jr; have js : jm 15 = Value.int .u8 (a1).n := jp 2 15 (by kernel_rfl) (by kernel_rfl); have jt : Ptr _ (jm 17) (a0.log : AV 256 Int) := jp 4 17 (by kernel_rfl) (by kernel_rfl); obtain ⟨ju, jv, jw⟩ : ∃ v, _ = v ∧ Ptr _ v _ := ⟨_, rfl, jt⟩; exact L_indexAV Try.underlying149 ty3.inf jv jw js jg (by decide) (fun jx jy => fin jr jy)
   ·intro jm jn jo jp jq Q jr; have js : Ptr _ (jm 18) (jf : Int) := jp 5 18 (by kernel_rfl) (by kernel_rfl); obtain ⟨jt, ju, jv⟩ : ∃ v, _ = v ∧ Ptr _ v _ := ⟨_, rfl, js⟩; exact li ty3 ju jv (fin jr rfl)
   ·intro jm jn jo jp jq Q jr; have js : jm 0 = w0 := (jq 0 (by kernel_rfl)).trans jb; exact mv js (fin jr (h0.mono (j9.trans jo.le)))
   ·intro jm jn jo jp jq Q jr; have js : jm 2 = Value.int .u8 (a2).n := (jq 2 (by kernel_rfl)).trans jd; exact mv js (fin jr rfl)
   ·intro jm jn jo jp jq Q jr; have js : Ptr _ (jm 20) (a0 : Field) := jp 7 20 (by kernel_rfl) (by kernel_rfl); obtain ⟨jt, ju, jv⟩ : ∃ v, _ = v ∧ Ptr _ v _ := ⟨_, rfl, js⟩; exact L_nilCheck_ptr ju jv (by decide) (fin jr jv)
   ·intro jm jn jo jp jq Q jr; have js : Ptr _ (jm 22) (a0 : Field) := jp 9 22 (by kernel_rfl) (by kernel_rfl); obtain ⟨jt, ju, jv⟩ : ∃ v, _ = v ∧ Ptr _ v _ := ⟨_, rfl, js⟩; exact fa fld151_1 Field.of_log ju jv (fun jw jx => fin jr jx)
   ·intro jm jn jo jp jq Q jr; have js : jm 21 = Value.int .u8 (a2).n := jp 8 21 (by kernel_rfl) (by kernel_rfl); have jt : Ptr _ (jm 23) (a0.log : AV 256 Int) := jp 10 23 (by kernel_rfl) (by kernel_rfl); obtain ⟨ju, jv, jw⟩ : ∃ v, _ = v ∧ Ptr _ v _ := ⟨_, rfl, jt⟩; exact L_indexAV Try.underlying149 ty3.inf jv jw js ji (by decide) (fun jx jy => fin jr jy)
   ·intro jm jn jo jp jq Q jr; have js : Ptr _ (jm 24) (jh : Int) := jp 11 24 (by kernel_rfl) (by kernel_rfl); obtain ⟨jt, ju, jv⟩ : ∃ v, _ = v ∧ Ptr _ v _ := ⟨_, rfl, js⟩; exact li ty3 ju jv (fin jr rfl)
   ·intro jm jn jo jp jq Q jr; have js : jm 19 = vi (jf) := jp 6 19 (by kernel_rfl) (by kernel_rfl); have jt : jm 25 = vi (jh) := jp 12 25 (by kernel_rfl) (by kernel_rfl); exact ad js jt jj (fin jr rfl)
   ·intro jm jn jo jp jq Q jr; have js : Ptr _ (jm 13) (a0 : Field) := jp 0 13 (by kernel_rfl) (by kernel_rfl); obtain ⟨jt, ju, jv⟩ : ∃ v, _ = v ∧ Ptr _ v _ := ⟨_, rfl, js⟩; exact L_nilCheck_ptr ju jv (by decide) (fin jr jv)
   ·intro jm jn jo jp jq Q jr; have js : Ptr _ (jm 27) (a0 : Field) := jp 14 27 (by kernel_rfl) (by kernel_rfl); obtain ⟨jt, ju, jv⟩ : ∃ v, _ = v ∧ Ptr _ v _ := ⟨_, rfl, js⟩; exact fa fld151_0 Field.of_power ju jv (fun jw jx => fin jr jx)
   ·intro jm jn jo jp jq Q jr; have js : jm 26 = vi (jf + jh) := jp 13 26 (by kernel_rfl) (by kernel_rfl); have jt : Ptr _ (jm 28) (a0.power : AV 510 U8) := jp 15 28 (by kernel_rfl) (by kernel_rfl); obtain ⟨ju, jv, jw⟩ : ∃ v, _ = v ∧ Ptr _ v _ := ⟨_, rfl, jt⟩; exact L_indexAV Try.underlying148 ty5.inf jv jw js jl (by decide) (fun jx jy => fin jr jy)
   ·intro jm jn jo jp jq Q jr; have js : Ptr _ (jm 29) (jk : U8) := jp 16 29 (by kernel_rfl) (by kernel_rfl); obtain ⟨jt, ju, jv⟩ : ∃ v, _ = v ∧ Ptr _ v _ := ⟨_, rfl, js⟩; exact L_load_u8 ty5 ju jv (by decide) (fin jr rfl)
   ·intro jm jn jo jp jq Q jr; have js : jm 30 = Value.int .u8 (jk).n := jp 17 30 (by kernel_rfl) (by kernel_rfl); exact asg js (fin jr rfl)
   ·intro jm jn jo jp jq; have jr := Tch.ext j8 jo; have js : jm 6 = Value.int .u8 (jk).n := jp 18 6 (by kernel_rfl); refine then_n (W_ret ?_); obtain rfl := Option.some.inj hr; exact done1 (Or.inl rfl) Try.results89 js ⟨_, _, rfl, rfl, jr, Vu8⟩

theorem check_field_row_okA (N : Nat) (s0 : St) (w0 : Value) (a0 : Field) (h0 : Ptr s0 w0 a0) (a1 : Int) (a2 : Int) (r : (List U8)) (hr : check_field_row N a0 a1 a2 = some r) :
    Calls Try.prog 65 #[w0, .int .i64 a1, .int .i64 a2] s0.w (Ret s0 fun v s => ArrR s0.w.heap.size 5 s v r) := by
 unfold check_field_row at hr
 have j0 := Ext.refl s0
 refine Calls_of (n := 37) (args := [w0, .int .i64 a1, .int .i64 a2]) Try.func65 rfl rfl (by simp) (sr (asg (rv (Value.slice none 0 0)) (nn (sr (mv (rv (vi a2)) ?_)))))
 obtain ⟨j1, hr⟩ := chk_some hr
 refine L_makeArr (x0 := (⟨0⟩ : U8)) Try.underlying22 tyz5 (rv (vi a2)) j1.1 j1.2.1 j1.2.2 (fun _ => rfl) (by decide) (fun j2 j3 j4 j5 j6 => ?_)
 have j7 := Tch.ext j0 j4
 refine asg (rv (Value.slice (some ⟨j3, 0, none⟩) (a2).toNat (a2).toNat)) (nn (W_seq (sr (mv (rv (vi a1)) (mv (rv (vi a2)) (ls (rv (vi a1)) (rv (vi a2)) (nn ?_)))))))
 refine W_cond _ (rv (vb (decide (a1 < a2)))) (fun j8 => ?_) (fun j8 => ?_)
 ·have hr := ite_t j8 hr; refine sr (mv (rv (Value.slice (some ⟨j3, 0, none⟩) (a2).toNat (a2).toNat)) (mv (rv (vi a1)) ?_)); obtain ⟨j9, ja, hr⟩ := bind_some hr; refine L_indexA (sz := 1) Try.underlying22 ty5.inf (rv (Value.slice (some ⟨j3, 0, none⟩) (a2).toNat (a2).toNat)) (rv (vi a1)) (idx_some ja).1 (by have := (idx_some ja).2.1; have := (j6).1; omega) (by decide) (L_storeA (xs := (List.replicate (a2).toNat (⟨0⟩ : U8))) ty5 (rv (Value.pointer (some ⟨j3, (a1).toNat * 1, none⟩))) (rv (Value.int .u8 ((⟨1⟩ : U8)).n)) Vu8 (j6) ja (fun jb jc jd => ?_)); have je := Tch.trans j7 jc (fun k hk => Or.inr (by subst hk; exact (Nat.le_trans j0.size j5))); refine nn (sr (mv (rv (Value.slice (some ⟨j3, 0, none⟩) (a2).toNat (a2).toNat)) (asg (rv (Value.slice (some ⟨j3, 0, none⟩) (a2).toNat (a2).toNat)) (nn (W_ret (then_r ?_)))))); obtain rfl := Option.some.inj hr; exact done1 (Or.inl rfl) Try.results65 rfl ⟨_, _, rfl, rfl, je, (jd).res (Nat.le_trans j0.size j5)⟩
 ·have hr := ite_f j8 hr
  refine W_skip (then_n (W_seq (sr (mv (rv (Value.slice (some ⟨j3, 0, none⟩) (a2).toNat (a2).toNat)) (L_lenA Try.underlying22 (rv (Value.slice (some ⟨j3, 0, none⟩) (a2).toNat (a2).toNat)) (by decide) (mv (rv (vi 0)) (nn ?_)))))))
  obtain ⟨j9, ja, jb⟩ := bind_some hr
  refine W_cut (fun f w => ∃ (s : St) (jc : List U8), s.w = w ∧ Ext s0 s ∧ Le j2 s ∧ jc = j9 ∧ f 7 = Value.slice (some ⟨j3, 0, none⟩) (a2).toNat (a2).toNat ∧ Arr s j3 5 (a2).toNat jc) ?_ ?_
  ·refine W_block (W_loop (fun m f w => ∃ (s : St) (jd : Int) (je : List U8), s.w = w ∧ Ext s0 s ∧ Le j2 s ∧ check_field_row_l1 N a0 a1 a2 m jd je = some j9 ∧ f 20 = vi jd ∧ f 0 = w0 ∧ f 1 = vi (a1) ∧ f 2 = vi (a2) ∧ f 7 = Value.slice (some ⟨j3, 0, none⟩) (a2).toNat (a2).toNat ∧ f 19 = vi ((((a2).toNat : Nat) : Int)) ∧ Arr s j3 5 (a2).toNat je) N ⟨j2, 0, (List.replicate (a2).toNat (⟨0⟩ : U8)), rfl, j7, (Le.refl _), ja, rfl, rfl, rfl, rfl, rfl, rfl, j6⟩ ?_)
   rintro jf jg jh ⟨ji, jd, je, rfl, jj, jk, hr, jl, jm, jn, jo, jp, jq, jr⟩
   cases jf with
   | zero => exact absurd hr (by simp [check_field_row_l1])
   | succ jf =>
    rw [check_field_row_l1.eq_2] at hr
    refine sr (ls jl jq (nn (W_seq ?_)))
    refine W_cond _ (rfl : _ = vb (decide (jd < (((a2).toNat : Nat) : Int)))) (fun js => ?_) (fun js => ?_)
    ·have hr := ite_t js hr; refine W_skip (then_n (W_seq (W_block (sr (mv jl (asg (rv (vi jd)) (nn (W_region (mv jp (mv (rv (vi jd)) (mv jm (mv jn (mv jo ?_))))))))))))); obtain ⟨jt, hr⟩ := chk_some hr; refine L_sub (rv (vi a1)) (rv (vi a2)) jt (by decide) (mv (rv (vi jd)) ?_); obtain ⟨ju, hr⟩ := chk_some hr; refine ad (rv (vi 16)) (rv (vi jd)) ju (L_xorK (rv (vi (a1 - a2))) (rv (vi (16 + jd))) (by decide) (L_convK Try.underlying3 Try.underlying5 (rv (vi (xorK .i64 (a1 - a2) (16 + jd)))) (by decide) ?_)); obtain ⟨jv, jw, hr⟩ := bind_some hr; refine L_calls cal68 (args2 (rv w0) (rv (Value.int .u8 ((⟨convK .u8 (xorK .i64 (a1 - a2) (16 + jd))⟩ : U8)).n))) (check_field_inverse_ok N _ _ _ (h0.mono (j4.le.trans jk)) (⟨convK .u8 (xorK .i64 (a1 - a2) (16 + jd))⟩ : U8) jv jw) (by decide) (fun jx jy jz k0 => ?_); have k1 := Tch.ext jj jz; obtain rfl := k0.u8; obtain ⟨k2, k3, hr⟩ := bind_some hr; refine L_indexA (sz := 1) Try.underlying22 ty5.inf (rv (Value.slice (some ⟨j3, 0, none⟩) (a2).toNat (a2).toNat)) (rv (vi jd)) (idx_some k3).1 (by have := (idx_some k3).2.1; have := ((jr).ext jz).1; omega) (by decide) (L_storeA (xs := je) ty5 (rv (Value.pointer (some ⟨j3, (jd).toNat * 1, none⟩))) (rv (Value.int .u8 (jv).n)) Vu8 ((jr).ext jz) k3 (fun k4 k5 k6 => ?_)); have k7 := Tch.trans k1 k5 (fun k hk => Or.inr (by subst hk; exact (Nat.le_trans j0.size j5))); refine L_nil (block_n (then_n (W_region ?_))); obtain ⟨k8, hr⟩ := chk_some hr; exact ad jl (rv (vi 1)) k8 (mv (rv (vi (jd + 1))) (nn ⟨jf, Nat.lt_succ_self _, ⟨k4, (jd + 1), (je.set (jd).toNat jv), rfl, k7, (jk.trans (jz.le.trans k5.le)), hr, rfl, jm, jn, jo, jp, jq, k6⟩⟩))
    ·have hr := ite_f js hr; refine W_exit (then_x (then_x (block_here ?_))); exact then_n ⟨ji, je, rfl, jj, jk, Option.some.inj hr, jp, jr⟩
  ·rintro jd je ⟨jf, jc, rfl, jg, jh, ja, ji, jj⟩; subst ja; have hr := jb; (try dsimp only at hr); refine then_n (sr (mv ji (asg (rv (Value.slice (some ⟨j3, 0, none⟩) (a2).toNat (a2).toNat)) (nn (W_ret ?_))))); obtain rfl := Option.some.inj hr; exact done1 (Or.inl rfl) Try.results65 rfl ⟨_, _, rfl, rfl, jg, (jj).res (Nat.le_trans j0.size j5)⟩

theorem slices_Clone_Lbyte_byte_okA (N : Nat) (s0 : St) (w0 : Value) (a0 : List U8) (h0 : V s0 w0 a0) (r : (List U8)) (hr : slices_Clone_Lbyte_byte N a0 = some r) :
    Calls Try.prog 44 #[w0] s0.w (Ret s0 fun v s => Bld s s0.w.heap.size 5 v r) := by
 unfold slices_Clone_Lbyte_byte at hr
 have j0 := Ext.refl s0
 refine Calls_of (n := 8) (args := [w0]) Try.func44 rfl rfl (by simp) (sr (asg (rv (Value.slice none 0 0)) (nn (W_seq (sr (mv (rv w0) (L_eqNil Try.underlying22 (rv w0) h0 (by decide) (fun j1 j2 => nn ?_))))))))
 refine W_cond _ (rv (vb j1)) (fun j3 => ?_) (fun _ => ?_)
 ·obtain rfl := j2 j3; obtain ⟨_, hr⟩ := chk_some hr; refine sr (asg (rv (Value.slice none 0 0)) (nn (W_ret (then_r ?_)))); obtain rfl := Option.some.inj hr; exact done1 (Or.inl rfl) Try.results44 rfl ⟨_, _, rfl, rfl, j0, Bld.nil⟩
 ·refine W_skip (then_n (sr (L_buildSlice (xs := ([] : List U8)) Try.underlying22 tyz5 Parts_nil Vs.nil rfl (by decide) (by decide) (fun j4 j5 j6 j7 j8 => ?_)))); have j9 := Tch.ext j0 j6; refine mv (rv w0) ?_; obtain ⟨ja, hr⟩ := chk_some hr; refine L_append (xs := ([] : List U8)) (B := s0.w.heap.size) Try.underlying22 tyz5 (rv j5) (rv w0) ((j7.base j0.size)) (j9.size) (h0.mono j6.le) ja.1 ja.2 (by decide) (fun jb jc jd => ?_); have je := jd.tchM ((j7.base j0.size)) j9 (Nat.le_refl _); refine asg (rv jb) (nn (W_ret ?_)); obtain rfl := Option.some.inj hr; exact done1 (Or.inl rfl) Try.results44 rfl ⟨_, _, rfl, rfl, je, jd.bld⟩

end Go.Arm
