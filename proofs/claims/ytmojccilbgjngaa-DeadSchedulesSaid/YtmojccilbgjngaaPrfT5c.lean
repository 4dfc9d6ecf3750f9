/- Each function of the program computes what its plain function says. -/
import Derived.Test.YtmojccilbgjngaaPrfT5b
namespace Go.Arm
open Go Go.RowKit Go.Proofs
theorem cal39 : Callee Try.prog 39 := ⟨_, Try.func39, by kernel_rfl, by kernel_rfl⟩
theorem dead_Narrow_ok (N : Nat) (s0 : St) (w0 : Value) (a0 : List (List Deed)) (h0 : V s0 w0 a0) (r : (List (List Deed)) × Bool × Int) (hr : dead_Narrow N a0 = some r) :
  Calls Try.prog 15 #[w0] s0.w (Ret s0 fun v s => ∃ a b c, v = .tuple #[a, b, c] ∧ V s a r.1 ∧ V s b r.2.1 ∧ V s c r.2.2) := by
 unfold dead_Narrow at hr
 have hE0 := Ext.refl s0
 refine Calls_of (n := 81) (args := [w0]) Try.func15 rfl rfl (by simp) ?_
 refine W_seq ?_
 refine W_region ?_
 refine L_assign (rfl : _ = Value.slice none 0 0) (by decide) ?_
 refine L_assign (rfl : _ = Value.bool false) (by decide) ?_
 refine L_assign (rfl : _ = Value.int .i64 (0)) (by decide) ?_
 refine L_nil ?_
 refine then_n ?_
 refine W_scope ?_
 repeat (first | with_reducible refine W_seq ?_ | with_reducible refine then_n ?_ | with_reducible refine block_n ?_)
 refine W_region ?_
 refine L_move (rfl : _ = w0) (by decide) ?_
 obtain ⟨y1, hy2, hr⟩ := bind_some hr
 refine L_calls cal27 (args1 (rfl : _ = w0)) (dead_Check_ok N _ _ _ h0 y1 hy2) (by decide) ?_
 intro v3 s6 e4 hv5
 have hE7 := Tch.ext hE0 e4
 obtain rfl := hv5.int
 refine L_assign (rfl : _ = Value.int .i64 (y1)) (by decide) ?_
 refine L_nil ?_
 repeat (first | with_reducible refine W_seq ?_ | with_reducible refine then_n ?_ | with_reducible refine block_n ?_)
 refine W_region ?_
 refine L_move (rfl : _ = Value.int .i64 (y1)) (by decide) ?_
 refine L_neq (rfl : _ = Value.int .i64 (y1)) (rfl : _ = Value.int .i64 (0)) (by decide) ?_
 refine L_nil ?_
 repeat (first | with_reducible refine W_seq ?_ | with_reducible refine then_n ?_ | with_reducible refine block_n ?_)
 refine W_cond _ (rfl : _ = Value.bool (!decide (y1 = 0))) (fun hb8 => ?_) (fun hb8 => ?_)
 ·have hr := ite_t hb8 hr
  refine W_seq ?_
  refine W_region ?_
  refine L_move (rfl : _ = Value.int .i64 (y1)) (by decide) ?_
  refine L_assign (rfl : _ = Value.slice none 0 0) (by decide) ?_
  refine L_assign (rfl : _ = Value.bool false) (by decide) ?_
  refine L_assign (rfl : _ = Value.int .i64 (y1)) (by decide) ?_
  refine L_nil ?_
  repeat (first | with_reducible refine W_seq ?_ | with_reducible refine then_n ?_ | with_reducible refine block_n ?_)
  refine W_ret ?_
  repeat (with_reducible refine then_r ?_)
  obtain rfl := Option.some.inj hr
  exact done3 (Or.inl rfl) Try.results15 rfl rfl rfl ⟨_, _, rfl, rfl, hE7, _, _, _, rfl, Vnil, Vbool, Vint⟩
 have hr := ite_f hb8 hr
 refine W_skip ?_
 repeat (first | with_reducible refine W_seq ?_ | with_reducible refine then_n ?_ | with_reducible refine block_n ?_)
 refine W_region ?_
 refine L_move (rfl : _ = w0) (by decide) ?_
 refine L_len Try.underlying29 (rfl : _ = w0) (h0.mono hE7.le) (by decide) ?_
 obtain ⟨hc9, hr⟩ := chk_some hr
 refine L_makeB (B := s0.w.heap.size) (E' := 64) Try.underlying29 tyz59 (rfl : _ = Value.int .i64 (a0.length : Int)) hc9.1 hc9.2.1 hc9.2.2 (by decide) hE7.size ?_
 intro s10 bA e10 hbA hA10
 have hE11 := Tch.ext hE7 e10
 have e12 : ((a0.length : Int)).toNat = a0.length := by omega
 refine L_assign (rfl : _ = Value.slice (some ⟨bA, 0, none⟩) (a0.length : Int).toNat (a0.length : Int).toNat) (by decide) ?_
 rw [e12]
 refine L_nil ?_
 repeat (first | with_reducible refine W_seq ?_ | with_reducible refine then_n ?_ | with_reducible refine block_n ?_)
 refine W_label ?_
 repeat (first | with_reducible refine W_seq ?_ | with_reducible refine then_n ?_ | with_reducible refine block_n ?_)
 refine W_region ?_
 refine L_move (rfl : _ = w0) (by decide) ?_
 refine L_len Try.underlying29 (rfl : _ = w0) (h0.mono hE11.le) (by decide) ?_
 refine L_move (rfl : _ = Value.int .i64 (0)) (by decide) ?_
 refine L_nil ?_
 repeat (first | with_reducible refine W_seq ?_ | with_reducible refine then_n ?_ | with_reducible refine block_n ?_)
 obtain ⟨o1, ho1, hq⟩ := bind_some hr
 refine W_cut (fun f w => ∃ (s : St), s.w = w ∧ Ext s0 s ∧ ((o1 = none ∧ f 6 = Value.slice none 0 0) ∨ ∃ vs out, o1 = some out ∧ ArrB s s0.w.heap.size 59 64 bA vs out ∧ out.length = a0.length ∧ f 6 = Value.slice (some ⟨bA, 0, none⟩) a0.length a0.length)) ?_ ?_
 ·refine W_block ?_
  refine W_loop (fun m f w => ∃ (s : St) (x1 : Int) (vs : List Value) (out : List (List Deed)), s.w = w ∧ Ext s0 s ∧ dead_Narrow_l1 N a0 m x1 out = some o1 ∧ ArrB s s0.w.heap.size 59 64 bA vs out ∧ out.length = a0.length ∧ f 24 = Value.int .i64 x1 ∧ f 0 = w0 ∧ f 6 = Value.slice (some ⟨bA, 0, none⟩) a0.length a0.length ∧ f 22 = w0 ∧ f 23 = Value.int .i64 (a0.length : Int)) N ⟨s10, 0, _, _, rfl, hE11, ho1, hA10, by simp, rfl, rfl, rfl, rfl, rfl⟩ ?_
  rintro m1 f1 w1 ⟨s, x1, vs, out, rfl, hE, hr, hA, hlo, g24, g0, g6, g22, g23⟩
  cases m1 with
  | zero => exact absurd hr (by simp [dead_Narrow_l1])
  | succ m1 =>
   rw [dead_Narrow_l1.eq_2] at hr
   refine W_seq ?_
   refine W_region ?_
   refine L_lss g24 g23 (by decide) ?_
   refine L_nil ?_
   repeat (first | with_reducible refine W_seq ?_ | with_reducible refine then_n ?_ | with_reducible refine block_n ?_)
   refine W_cond _ (rfl : _ = Value.bool (decide (x1 < (a0.length : Int)))) (fun hb => ?_) (fun hb => ?_)
   rotate_left
   ·have hr := ite_f hb hr
    refine W_exit ?_
    repeat (with_reducible refine then_x ?_)
    refine block_here ?_
    exact then_n ⟨s, rfl, hE, Or.inr ⟨vs, out, (Option.some.inj hr).symm, hA, hlo, g6⟩⟩
   have hr := ite_t hb hr
   refine W_skip ?_
   repeat (first | with_reducible refine W_seq ?_ | with_reducible refine then_n ?_ | with_reducible refine block_n ?_)
   refine W_block ?_
   repeat (first | with_reducible refine W_seq ?_ | with_reducible refine then_n ?_ | with_reducible refine block_n ?_)
   refine W_region ?_
   obtain ⟨y, hy, hr⟩ := bind_some hr
   refine L_move g24 (by decide) ?_
   refine L_index Try.underlying29 ty59.inf g22 (h0.mono hE.le) g24 hy (by decide) ?_
   intro py hpy
   refine L_load ty59 (rfl : _ = py) hpy (by decide) ?_
   intro vy hvy
   refine L_var ty3 zero3 (by decide) (rfl : _ = Value.int .i64 x1) Vint (by decide) ?_
   intro s2 p7 e2 hP7
   have hE2 := Tch.ext hE e2
   have hA2 := hA.ext e2
   refine L_assign (rfl : _ = vy) (by decide) ?_
   refine L_nil ?_
   repeat (first | with_reducible refine W_seq ?_ | with_reducible refine then_n ?_ | with_reducible refine block_n ?_)
   refine W_region ?_
   refine L_move (rfl : _ = vy) (by decide) ?_
   refine L_len Try.underlying59 (rfl : _ = vy) (hvy.mono e2.le) (by decide) ?_
   refine L_move (rfl : _ = Value.int .i64 (0)) (by decide) ?_
   refine L_nil ?_
   repeat (first | with_reducible refine W_seq ?_ | with_reducible refine then_n ?_ | with_reducible refine block_n ?_)
   obtain ⟨o2, ho2, hq2⟩ := bind_some hr
   refine W_cut (fun f w => ∃ (s : St) (vs : List Value) (out : List (List Deed)), s.w = w ∧ Ext s0 s ∧ o2 = some out ∧ ArrB s s0.w.heap.size 59 64 bA vs out ∧ out.length = a0.length ∧ f 24 = Value.int .i64 x1 ∧ f 0 = w0 ∧ f 6 = Value.slice (some ⟨bA, 0, none⟩) a0.length a0.length ∧ f 22 = w0 ∧ f 23 = Value.int .i64 (a0.length : Int)) ?_ ?_
   rotate_left
   ·rintro f3 w3 ⟨s, vs, out, rfl, hE, ho2, hA, hlo, g24, g0, g6, g22, g23⟩
    subst ho2
    have hr := hq2
    dsimp only at hr
    obtain ⟨hc, hr⟩ := chk_some hr
    repeat (first | with_reducible refine W_seq ?_ | with_reducible refine then_n ?_ | with_reducible refine block_n ?_)
    refine W_region ?_
    refine L_add g24 (rfl : _ = Value.int .i64 (1)) hc (by decide) ?_
    refine L_move (rfl : _ = Value.int .i64 (x1 + 1)) (by decide) ?_
    refine L_nil ?_
    exact then_n ⟨m1, Nat.lt_succ_self _, ⟨s, x1 + 1, vs, out, rfl, hE, hr, hA, hlo, rfl, g0, g6, g22, g23⟩⟩
   refine W_block ?_
   refine W_loop (fun m f w => ∃ (s : St) (x2 : Int) (vs : List Value) (out : List (List Deed)), s.w = w ∧ Ext s0 s ∧ dead_Narrow_l2 N a0 x1 y m x2 out = some o2 ∧ ArrB s s0.w.heap.size 59 64 bA vs out ∧ out.length = a0.length ∧ Ptr s p7 x1 ∧ V s vy y ∧ f 31 = Value.int .i64 x2 ∧ f 29 = vy ∧ f 30 = Value.int .i64 (y.length : Int) ∧ f 7 = p7 ∧ f 24 = Value.int .i64 x1 ∧ f 0 = w0 ∧ f 6 = Value.slice (some ⟨bA, 0, none⟩) a0.length a0.length ∧ f 22 = w0 ∧ f 23 = Value.int .i64 (a0.length : Int)) N ⟨s2, 0, vs, out, rfl, hE2, ho2, hA2, hlo, hP7, hvy.mono e2.le, rfl, rfl, rfl, rfl, g24, g0, g6, g22, g23⟩ ?_
   clear hr hA hE hA2 hE2 hP7 hvy g24 g0 g6 g22 g23 hlo
   rintro m2 f1 w1 ⟨s, x2, vs, out, rfl, hE, hr, hA, hlo, hP7, hvy, g31, g29, g30, g7, g24, g0, g6, g22, g23⟩
   cases m2 with
   | zero => exact absurd hr (by simp [dead_Narrow_l2])
   | succ m2 =>
    rw [dead_Narrow_l2.eq_2] at hr
    refine W_seq ?_
    refine W_region ?_
    refine L_lss g31 g30 (by decide) ?_
    refine L_nil ?_
    repeat (first | with_reducible refine W_seq ?_ | with_reducible refine then_n ?_ | with_reducible refine block_n ?_)
    refine W_cond _ (rfl : _ = Value.bool (decide (x2 < (y.length : Int)))) (fun hb => ?_) (fun hb => ?_)
    rotate_left
    ·have hr := ite_f hb hr
     refine W_exit ?_
     repeat (with_reducible refine then_x ?_)
     refine block_here ?_
     exact then_n ⟨s, vs, out, rfl, hE, (Option.some.inj hr).symm, hA, hlo, g24, g0, g6, g22, g23⟩
    have hr := ite_t hb hr
    refine W_skip ?_
    repeat (first | with_reducible refine W_seq ?_ | with_reducible refine then_n ?_ | with_reducible refine block_n ?_)
    refine W_block ?_
    repeat (first | with_reducible refine W_seq ?_ | with_reducible refine then_n ?_ | with_reducible refine block_n ?_)
    refine W_region ?_
    obtain ⟨dd, hdd, hr⟩ := bind_some hr
    refine L_index Try.underlying59 ty64.inf g29 hvy g31 hdd (by decide) ?_
    intro pd hpd
    refine L_load ty64 (rfl : _ = pd) hpd (by decide) ?_
    intro vd hvd
    refine L_alloc (α := Deed) (x := ⟨0, 0, 0, 0, false⟩) zero64 Deed.zero_rel (by decide) ?_
    intro s3 b10 e3 hb10 hx3
    have hE3 := Tch.ext hE e3
    have hA3 := hA.ext e3
    have hown : ∀ k, ownB bA vs k → ¬ k = b10 := fun k hk e => by have := (hA.lt hk).2; omega
    refine L_store ty64 (rfl : _ = Value.pointer (some ⟨b10, 0, none⟩)) (rfl : _ = vd) (hvd.mono e3.le) hx3 ?_
    intro s4 e4 hx4
    have hb10' : s0.w.heap.size ≤ b10 := Nat.le_trans hE.size hb10
    have hE4 := Tch.trans hE3 e4 (fun k hk => Or.inr (by subst hk; exact hb10'))
    have hA4 := hA3.tch e4 hown
    have hP4 := hP7.mono (e3.le.trans e4.le)
    have hvy4 := hvy.mono (e3.le.trans e4.le)
    refine L_nil ?_
    repeat (first | with_reducible refine W_seq ?_ | with_reducible refine then_n ?_ | with_reducible refine block_n ?_)
    refine W_region ?_
    refine L_load_var ty64 (rfl : _ = Value.pointer (some ⟨b10, 0, none⟩)) hx4 (by decide) ?_
    intro vd2 hvd2
    obtain ⟨oo, hoo, hr⟩ := bind_some hr
    refine L_calls cal37 (args1 (rfl : _ = vd2)) (dead_open_ok N _ _ _ hvd2 oo hoo) (by decide) ?_
    intro v5 s5 e5 hv5
    obtain rfl := hv5.bool
    have hE5 := Tch.ext hE4 e5
    have hA5 := hA4.ext e5
    have hx5 := hx4.ext e5
    have hP5 := hP4.mono e5.le
    have hvy5 := hvy4.mono e5.le
    clear hE hA hP7 hvy hE3 hA3 hE4 hA4 hx3 hx4 hvd hP4 hvy4
    refine L_not (rfl : _ = Value.bool (oo)) (by decide) ?_
    refine L_nil ?_
    repeat (first | with_reducible refine W_seq ?_ | with_reducible refine then_n ?_ | with_reducible refine block_n ?_)
    refine W_cond _ (rfl : _ = Value.bool (!oo)) (fun hb2 => ?_) (fun hb2 => ?_)
    ·have hr := ite_t hb2 hr
     obtain ⟨s6, ez6, e6, hP10⟩ := hx5.freeze
     have hE := Tch.trans hE5 e6 (fun k hk => Or.inr (by subst hk; exact hb10'))
     have hA := hA5.tch e6 hown
     have hP7 := hP5.mono e6.le
     have hvy := hvy5.mono e6.le
     rw [← ez6]
     repeat (first | with_reducible refine W_seq ?_ | with_reducible refine then_n ?_ | with_reducible refine block_n ?_)
     obtain ⟨z, hz, hr⟩ := bind_some hr
     obtain ⟨hc, hr⟩ := chk_some hr
     obtain ⟨hj0, hjl, hze⟩ := idx_some hz
     have hjv : x1.toNat < vs.length := by rw [hA.len]; omega
     obtain ⟨v0, hv0⟩ : ∃ v0, vs[x1.toNat]? = some v0 := ⟨_, List.getElem?_eq_getElem hjv⟩
     refine W_drawP mixed 11 [PX.eq (Value.slice (some ⟨bA, 0, none⟩) a0.length a0.length), PX.eq (Value.int .i64 x1), PX.eq (Value.slice (some ⟨bA, 0, none⟩) a0.length a0.length), PX.eq (Value.int .i64 x1), PX.eq (Value.pointer (some ⟨bA, x1.toNat * 1, none⟩)), PX.eq v0, PX.data (dd : Deed), PX.data [(dd : Deed)], PX.arrh s0.w.heap.size 59 64 bA vs out x1.toNat hjv (z ++ [(dd : Deed)]), PX.eq (Value.pointer (some ⟨bA, x1.toNat * 1, none⟩)), PX.arrc s0.w.heap.size 59 64 bA vs (out.set x1.toNat (z ++ [(dd : Deed)])) x1.toNat, PX.arrb s0.w.heap.size 59 64 bA vs out] [38, 39, 40, 41, 42, 43, 44, 45, 46, 47, 46, 6] [[], [], [], [], [], [], [], [], [11], [], [8]] rfl (by kernel_rfl) (ent1 rfl hA) (dis1 rfl) (StepsX_cons ?_ (StepsX_cons ?_ (StepsX_cons ?_ (StepsX_cons ?_ (StepsX_cons ?_ (StepsX_cons ?_ (StepsX_cons ?_ (StepsX_cons ?_ (StepsX_cons ?_ (StepsX_cons ?_ (StepsX_cons ?_ StepsX_nil))))))))))) ?_
     ·intro f' s' hT hX hB Q hk
      have ha : f' 6 = Value.slice (some ⟨bA, 0, none⟩) a0.length a0.length := (hB 6 (by kernel_rfl)).trans g6
      refine L_move ha (by decide) ?_
      exact L_nil (hk _ _ No (Ext.refl s') (fun _ h => h.elim) rfl (fun _ h => h.elim))
     ·intro f' s' hT hX hB Q hk
      have ha : f' 7 = p7 := (hB 7 (by kernel_rfl)).trans g7
      refine L_load_int ty3 ha (hP7.mono hT.le) (by decide) ?_
      exact L_nil (hk _ _ No (Ext.refl s') (fun _ h => h.elim) rfl (fun _ h => h.elim))
     ·intro f' s' hT hX hB Q hk
      have ha : f' 6 = Value.slice (some ⟨bA, 0, none⟩) a0.length a0.length := (hB 6 (by kernel_rfl)).trans g6
      refine L_move ha (by decide) ?_
      exact L_nil (hk _ _ No (Ext.refl s') (fun _ h => h.elim) rfl (fun _ h => h.elim))
     ·intro f' s' hT hX hB Q hk
      have ha : f' 7 = p7 := (hB 7 (by kernel_rfl)).trans g7
      refine L_load_int ty3 ha (hP7.mono hT.le) (by decide) ?_
      exact L_nil (hk _ _ No (Ext.refl s') (fun _ h => h.elim) rfl (fun _ h => h.elim))
     ·intro f' s' hT hX hB Q hk
      have ha : f' 40 = Value.slice (some ⟨bA, 0, none⟩) a0.length a0.length := hX 2 (by kernel_rfl) (by show _ < 12; decide)
      have hb : f' 41 = Value.int .i64 x1 := hX 3 (by kernel_rfl) (by show _ < 12; decide)
      refine L_indexA Try.underlying29 ty59.inf ha hb hj0 (by rw [← hlo]; omega) (by decide) ?_
      exact L_nil (hk _ _ No (Ext.refl s') (fun _ h => h.elim) rfl (fun _ h => h.elim))
     ·intro f' s' hT hX hB Q hk
      have ha : f' 42 = Value.pointer (some ⟨bA, x1.toNat * 1, none⟩) := hX 4 (by kernel_rfl) (by show _ < 12; decide)
      have hA' : ArrB s' s0.w.heap.size 59 64 bA vs out := hX 11 (by kernel_rfl) (by show _ < 12; decide)
      refine L_loadB ty59 (ha.trans (by rw [Nat.mul_one])) hA' hv0 (by decide) ?_
      exact L_nil (hk _ _ No (Ext.refl s') (fun _ h => h.elim) rfl (fun _ h => h.elim))
     ·intro f' s' hT hX hB Q hk
      have ha : f' 10 = Value.pointer (some ⟨b10, 0, none⟩) := (hB 10 (by kernel_rfl)).trans rfl
      refine L_load ty64 ha (hP10.mono hT.le) (by decide) ?_
      intro v hv
      exact L_nil (hk _ _ No (Ext.refl s') (fun _ h => h.elim) hv (fun _ h => h.elim))
     ·intro f' s' hT hX hB Q hk
      obtain ⟨vd, qd, hvd⟩ : ∃ v, f' 44 = v ∧ V s' v (dd : Deed) := ⟨_, rfl, hX 6 (by kernel_rfl) (by show _ < 12; decide)⟩
      refine L_buildSlice (xs := [(dd : Deed)]) Try.underlying59 tyz64 (Parts_cons rfl qd Parts_nil) (Vs.cons hvd Vs.nil) rfl (by decide) (by decide) ?_
      intro s2 v e2 hb2 hv2
      exact L_nil (hk _ _ No (Tch.ext (Ext.refl s') e2) (fun _ h => h.elim) hv2 (fun _ h => h.elim))
     ·intro f' s' hT hX hB Q hk
      have ha : f' 43 = v0 := hX 5 (by kernel_rfl) (by show _ < 12; decide)
      obtain ⟨vd, qd, hvd⟩ : ∃ v, f' 45 = v ∧ V s' v [(dd : Deed)] := ⟨_, rfl, hX 7 (by kernel_rfl) (by show _ < 12; decide)⟩
      have hA' : ArrB s' s0.w.heap.size 59 64 bA vs out := hX 11 (by kernel_rfl) (by show _ < 12; decide)
      refine L_append (xs := z) (B := s0.w.heap.size) Try.underlying59 tyz64 ha qd (hA'.bld x1.toNat v0 z hv0 hze) (Nat.le_trans hE.size hT.size) hvd hc.1 hc.2 (by decide) ?_
      intro v s2 g2
      refine L_nil (hk _ _ _ g2.tch (fun k h => ⟨11, (List.mem_singleton.2 rfl : (11 : Nat) ∈ [11]), Or.inr ⟨x1.toNat, v0, hv0, h⟩⟩) (hA'.grow hv0 hze g2) ?_)
      rintro k (rfl | ⟨i, u, hu, hk'⟩)
      ·exact Or.inl ⟨11, (List.mem_singleton.2 rfl : (11 : Nat) ∈ [11]), Or.inl rfl⟩
      ·rcases set_get hu with ⟨rfl, rfl⟩ | ⟨hi, hu⟩
       ·exact (g2.own k hk').imp (fun h => ⟨11, (List.mem_singleton.2 rfl : (11 : Nat) ∈ [11]), Or.inr ⟨_, v0, hv0, h⟩⟩) (fun h => h)
       ·exact Or.inl ⟨11, (List.mem_singleton.2 rfl : (11 : Nat) ∈ [11]), Or.inr ⟨i, u, hu, hk'⟩⟩
     ·intro f' s' hT hX hB Q hk
      have ha : f' 38 = Value.slice (some ⟨bA, 0, none⟩) a0.length a0.length := hX 0 (by kernel_rfl) (by show _ < 12; decide)
      have hb : f' 39 = Value.int .i64 x1 := hX 1 (by kernel_rfl) (by show _ < 12; decide)
      refine L_indexA Try.underlying29 ty59.inf ha hb hj0 (by rw [← hlo]; omega) (by decide) ?_
      exact L_nil (hk _ _ No (Ext.refl s') (fun _ h => h.elim) rfl (fun _ h => h.elim))
     ·intro f' s' hT hX hB Q hk
      have ha : f' 47 = Value.pointer (some ⟨bA, x1.toNat * 1, none⟩) := hX 9 (by kernel_rfl) (by show _ < 12; decide)
      obtain ⟨v, qv, hH⟩ : ∃ v, f' 46 = v ∧ ArrH s' s0.w.heap.size 59 64 bA vs out x1.toNat v (z ++ [(dd : Deed)]) := ⟨_, rfl, hX 8 (by kernel_rfl) (by show _ < 12; decide)⟩
      refine L_storeB ty59 (ha.trans (by rw [Nat.mul_one])) qv hH hjv ?_
      intro s2 t2 hA2
      exact L_nil (hk (.int .i64 0) s2 _ t2 (fun k h => ⟨8, (List.mem_singleton.2 rfl : (8 : Nat) ∈ [8]), Or.inl h⟩) (by show ArrB s2 _ _ _ _ (vs.set x1.toNat (f' 46)) _; rw [qv]; exact hA2) (fun k h => Or.inl ⟨8, (List.mem_singleton.2 rfl : (8 : Nat) ∈ [8]), h⟩))
     intro f' s' hT hX _ hB
     have hA' : ArrB s' s0.w.heap.size 59 64 bA (vs.set x1.toNat (f' 46)) (out.set x1.toNat (z ++ [(dd : Deed)])) := hX 10 (by show _ < 12; decide) (by kernel_rfl)
     have hE' : Ext s0 s' := Tch.trans hE hT (fun k hk => Or.inr ((hA.lt (ent_is rfl rfl hk)).1))
     repeat (first | with_reducible refine W_seq ?_ | with_reducible refine then_n ?_ | with_reducible refine block_n ?_)
     obtain ⟨hc3, hr⟩ := chk_some hr
     first | refine W_exit ?_ | skip
     repeat (first | with_reducible refine then_x ?_ | with_reducible refine block_here ?_ | with_reducible refine then_n ?_)
     refine W_region ?_
     refine L_add ((hB 31 (by kernel_rfl)).trans g31) (rfl : _ = Value.int .i64 (1)) hc3 (by decide) ?_
     refine L_move (rfl : _ = Value.int .i64 (x2 + 1)) (by decide) ?_
     refine L_nil ?_
     exact then_n ⟨m2, Nat.lt_succ_self _, ⟨s', x2 + 1, _, _, rfl, hE', hr, hA', by simp [hlo], hP7.mono hT.le, hvy.mono hT.le, rfl, (hB 29 (by kernel_rfl)).trans g29, (hB 30 (by kernel_rfl)).trans g30, (hB 7 (by kernel_rfl)).trans g7, (hB 24 (by kernel_rfl)).trans g24, (hB 0 (by kernel_rfl)).trans g0, (hB 6 (by kernel_rfl)).trans g6, (hB 22 (by kernel_rfl)).trans g22, (hB 23 (by kernel_rfl)).trans g23⟩⟩
    ·have hr := ite_f hb2 hr
     refine W_skip ?_
     repeat (first | with_reducible refine W_seq ?_ | with_reducible refine then_n ?_ | with_reducible refine block_n ?_)
     refine W_region ?_
     refine L_assign (rfl : _ = Value.int .i64 (-1)) (by decide) ?_
     refine L_nil ?_
     repeat (first | with_reducible refine W_seq ?_ | with_reducible refine then_n ?_ | with_reducible refine block_n ?_)
     refine W_region ?_
     refine L_move g0 (by decide) ?_
     refine L_len Try.underlying29 (rfl : _ = w0) (h0.mono hE5.le) (by decide) ?_
     refine L_move (rfl : _ = Value.int .i64 (0)) (by decide) ?_
     refine L_nil ?_
     repeat (first | with_reducible refine W_seq ?_ | with_reducible refine then_n ?_ | with_reducible refine block_n ?_)
     obtain ⟨o3, ho3, hq3⟩ := bind_some hr
     refine W_cut (fun f w => ∃ (s : St) (fr : Int), s.w = w ∧ Ext s0 s ∧ o3 = some fr ∧ ArrB s s0.w.heap.size 59 64 bA vs out ∧ Var s b10 64 dd ∧ Ptr s p7 x1 ∧ V s vy y ∧ f 11 = Value.int .i64 fr ∧ f 10 = Value.pointer (some ⟨b10, 0, none⟩) ∧ f 31 = Value.int .i64 x2 ∧ f 29 = vy ∧ f 30 = Value.int .i64 (y.length : Int) ∧ f 7 = p7 ∧ f 24 = Value.int .i64 x1 ∧ f 0 = w0 ∧ f 6 = Value.slice (some ⟨bA, 0, none⟩) a0.length a0.length ∧ f 22 = w0 ∧ f 23 = Value.int .i64 (a0.length : Int)) ?_ ?_
     rotate_left
     ·rintro f3 w3 ⟨s, fr, rfl, hE, ho3, hA, hx, hP7, hvy, g11, g10, g31, g29, g30, g7, g24, g0, g6, g22, g23⟩
      subst ho3
      have hr := hq3
      dsimp only at hr
      repeat (first | with_reducible refine W_seq ?_ | with_reducible refine then_n ?_ | with_reducible refine block_n ?_)
      refine W_region ?_
      refine L_move g11 (by decide) ?_
      refine L_max (rfl : _ = Value.int .i64 (0)) (rfl : _ = Value.int .i64 (fr)) (by decide) ?_
      refine L_fieldAddr_var fld64_1 g10 (by decide) ?_
      refine L_store_field ty3 Deed.set_Peer (rfl : _ = Value.pointer (some ⟨b10, 1, none⟩)) (rfl : _ = Value.int .i64 (max 0 fr)) Vint hx ?_
      intro s6 e6 hx6
      have hE6 := Tch.trans hE e6 (fun k hk => Or.inr (by subst hk; exact hb10'))
      have hA6 := hA.tch e6 hown
      have hP6 := hP7.mono e6.le
      have hvy6 := hvy.mono e6.le
      clear hE hA hP7 hvy hx
      refine L_nil ?_
      repeat (first | with_reducible refine W_seq ?_ | with_reducible refine then_n ?_ | with_reducible refine block_n ?_)
      obtain ⟨s7, ez7, e7, hP10⟩ := hx6.freeze
      have hE := Tch.trans hE6 e7 (fun k hk => Or.inr (by subst hk; exact hb10'))
      have hA := hA6.tch e7 hown
      have hP7 := hP6.mono e7.le
      have hvy := hvy6.mono e7.le
      rw [← ez7]
      obtain ⟨z, hz, hr⟩ := bind_some hr
      obtain ⟨hc, hr⟩ := chk_some hr
      obtain ⟨hj0, hjl, hze⟩ := idx_some hz
      have hjv : x1.toNat < vs.length := by rw [hA.len]; omega
      obtain ⟨v0, hv0⟩ : ∃ v0, vs[x1.toNat]? = some v0 := ⟨_, List.getElem?_eq_getElem hjv⟩
      refine W_drawP mixed 11 [PX.eq (Value.slice (some ⟨bA, 0, none⟩) a0.length a0.length), PX.eq (Value.int .i64 x1), PX.eq (Value.slice (some ⟨bA, 0, none⟩) a0.length a0.length), PX.eq (Value.int .i64 x1), PX.eq (Value.pointer (some ⟨bA, x1.toNat * 1, none⟩)), PX.eq v0, PX.data (Deed.with_Peer dd (max 0 fr) : Deed), PX.data [(Deed.with_Peer dd (max 0 fr) : Deed)], PX.arrh s0.w.heap.size 59 64 bA vs out x1.toNat hjv (z ++ [(Deed.with_Peer dd (max 0 fr) : Deed)]), PX.eq (Value.pointer (some ⟨bA, x1.toNat * 1, none⟩)), PX.arrc s0.w.heap.size 59 64 bA vs (out.set x1.toNat (z ++ [(Deed.with_Peer dd (max 0 fr) : Deed)])) x1.toNat, PX.arrb s0.w.heap.size 59 64 bA vs out] [66, 67, 68, 69, 70, 71, 72, 73, 74, 75, 74, 6] [[], [], [], [], [], [], [], [], [11], [], [8]] rfl (by kernel_rfl) (ent1 rfl hA) (dis1 rfl) (StepsX_cons ?_ (StepsX_cons ?_ (StepsX_cons ?_ (StepsX_cons ?_ (StepsX_cons ?_ (StepsX_cons ?_ (StepsX_cons ?_ (StepsX_cons ?_ (StepsX_cons ?_ (StepsX_cons ?_ (StepsX_cons ?_ StepsX_nil))))))))))) ?_
      ·intro f' s' hT hX hB Q hk
       have ha : f' 6 = Value.slice (some ⟨bA, 0, none⟩) a0.length a0.length := (hB 6 (by kernel_rfl)).trans g6
       refine L_move ha (by decide) ?_
       exact L_nil (hk _ _ No (Ext.refl s') (fun _ h => h.elim) rfl (fun _ h => h.elim))
      ·intro f' s' hT hX hB Q hk
       have ha : f' 7 = p7 := (hB 7 (by kernel_rfl)).trans g7
       refine L_load_int ty3 ha (hP7.mono hT.le) (by decide) ?_
       exact L_nil (hk _ _ No (Ext.refl s') (fun _ h => h.elim) rfl (fun _ h => h.elim))
      ·intro f' s' hT hX hB Q hk
       have ha : f' 6 = Value.slice (some ⟨bA, 0, none⟩) a0.length a0.length := (hB 6 (by kernel_rfl)).trans g6
       refine L_move ha (by decide) ?_
       exact L_nil (hk _ _ No (Ext.refl s') (fun _ h => h.elim) rfl (fun _ h => h.elim))
      ·intro f' s' hT hX hB Q hk
       have ha : f' 7 = p7 := (hB 7 (by kernel_rfl)).trans g7
       refine L_load_int ty3 ha (hP7.mono hT.le) (by decide) ?_
       exact L_nil (hk _ _ No (Ext.refl s') (fun _ h => h.elim) rfl (fun _ h => h.elim))
      ·intro f' s' hT hX hB Q hk
       have ha : f' 68 = Value.slice (some ⟨bA, 0, none⟩) a0.length a0.length := hX 2 (by kernel_rfl) (by show _ < 12; decide)
       have hb : f' 69 = Value.int .i64 x1 := hX 3 (by kernel_rfl) (by show _ < 12; decide)
       refine L_indexA Try.underlying29 ty59.inf ha hb hj0 (by rw [← hlo]; omega) (by decide) ?_
       exact L_nil (hk _ _ No (Ext.refl s') (fun _ h => h.elim) rfl (fun _ h => h.elim))
      ·intro f' s' hT hX hB Q hk
       have ha : f' 70 = Value.pointer (some ⟨bA, x1.toNat * 1, none⟩) := hX 4 (by kernel_rfl) (by show _ < 12; decide)
       have hA' : ArrB s' s0.w.heap.size 59 64 bA vs out := hX 11 (by kernel_rfl) (by show _ < 12; decide)
       refine L_loadB ty59 (ha.trans (by rw [Nat.mul_one])) hA' hv0 (by decide) ?_
       exact L_nil (hk _ _ No (Ext.refl s') (fun _ h => h.elim) rfl (fun _ h => h.elim))
      ·intro f' s' hT hX hB Q hk
       have ha : f' 10 = Value.pointer (some ⟨b10, 0, none⟩) := (hB 10 (by kernel_rfl)).trans g10
       refine L_load ty64 ha (hP10.mono hT.le) (by decide) ?_
       intro v hv
       exact L_nil (hk _ _ No (Ext.refl s') (fun _ h => h.elim) hv (fun _ h => h.elim))
      ·intro f' s' hT hX hB Q hk
       obtain ⟨vd, qd, hvd⟩ : ∃ v, f' 72 = v ∧ V s' v (Deed.with_Peer dd (max 0 fr) : Deed) := ⟨_, rfl, hX 6 (by kernel_rfl) (by show _ < 12; decide)⟩
       refine L_buildSlice (xs := [(Deed.with_Peer dd (max 0 fr) : Deed)]) Try.underlying59 tyz64 (Parts_cons rfl qd Parts_nil) (Vs.cons hvd Vs.nil) rfl (by decide) (by decide) ?_
       intro s2 v e2 hb2 hv2
       exact L_nil (hk _ _ No (Tch.ext (Ext.refl s') e2) (fun _ h => h.elim) hv2 (fun _ h => h.elim))
      ·intro f' s' hT hX hB Q hk
       have ha : f' 71 = v0 := hX 5 (by kernel_rfl) (by show _ < 12; decide)
       obtain ⟨vd, qd, hvd⟩ : ∃ v, f' 73 = v ∧ V s' v [(Deed.with_Peer dd (max 0 fr) : Deed)] := ⟨_, rfl, hX 7 (by kernel_rfl) (by show _ < 12; decide)⟩
       have hA' : ArrB s' s0.w.heap.size 59 64 bA vs out := hX 11 (by kernel_rfl) (by show _ < 12; decide)
       refine L_append (xs := z) (B := s0.w.heap.size) Try.underlying59 tyz64 ha qd (hA'.bld x1.toNat v0 z hv0 hze) (Nat.le_trans hE.size hT.size) hvd hc.1 hc.2 (by decide) ?_
       intro v s2 g2
       refine L_nil (hk _ _ _ g2.tch (fun k h => ⟨11, (List.mem_singleton.2 rfl : (11 : Nat) ∈ [11]), Or.inr ⟨x1.toNat, v0, hv0, h⟩⟩) (hA'.grow hv0 hze g2) ?_)
       rintro k (rfl | ⟨i, u, hu, hk'⟩)
       ·exact Or.inl ⟨11, (List.mem_singleton.2 rfl : (11 : Nat) ∈ [11]), Or.inl rfl⟩
       ·rcases set_get hu with ⟨rfl, rfl⟩ | ⟨hi, hu⟩
        ·exact (g2.own k hk').imp (fun h => ⟨11, (List.mem_singleton.2 rfl : (11 : Nat) ∈ [11]), Or.inr ⟨_, v0, hv0, h⟩⟩) (fun h => h)
        ·exact Or.inl ⟨11, (List.mem_singleton.2 rfl : (11 : Nat) ∈ [11]), Or.inr ⟨i, u, hu, hk'⟩⟩
      ·intro f' s' hT hX hB Q hk
       have ha : f' 66 = Value.slice (some ⟨bA, 0, none⟩) a0.length a0.length := hX 0 (by kernel_rfl) (by show _ < 12; decide)
       have hb : f' 67 = Value.int .i64 x1 := hX 1 (by kernel_rfl) (by show _ < 12; decide)
       refine L_indexA Try.underlying29 ty59.inf ha hb hj0 (by rw [← hlo]; omega) (by decide) ?_
       exact L_nil (hk _ _ No (Ext.refl s') (fun _ h => h.elim) rfl (fun _ h => h.elim))
      ·intro f' s' hT hX hB Q hk
       have ha : f' 75 = Value.pointer (some ⟨bA, x1.toNat * 1, none⟩) := hX 9 (by kernel_rfl) (by show _ < 12; decide)
       obtain ⟨v, qv, hH⟩ : ∃ v, f' 74 = v ∧ ArrH s' s0.w.heap.size 59 64 bA vs out x1.toNat v (z ++ [(Deed.with_Peer dd (max 0 fr) : Deed)]) := ⟨_, rfl, hX 8 (by kernel_rfl) (by show _ < 12; decide)⟩
       refine L_storeB ty59 (ha.trans (by rw [Nat.mul_one])) qv hH hjv ?_
       intro s2 t2 hA2
       exact L_nil (hk (.int .i64 0) s2 _ t2 (fun k h => ⟨8, (List.mem_singleton.2 rfl : (8 : Nat) ∈ [8]), Or.inl h⟩) (by show ArrB s2 _ _ _ _ (vs.set x1.toNat (f' 74)) _; rw [qv]; exact hA2) (fun k h => Or.inl ⟨8, (List.mem_singleton.2 rfl : (8 : Nat) ∈ [8]), h⟩))
      intro f' s' hT hX _ hB
      have hA' : ArrB s' s0.w.heap.size 59 64 bA (vs.set x1.toNat (f' 74)) (out.set x1.toNat (z ++ [(Deed.with_Peer dd (max 0 fr) : Deed)])) := hX 10 (by show _ < 12; decide) (by kernel_rfl)
      have hE' : Ext s0 s' := Tch.trans hE hT (fun k hk => Or.inr ((hA.lt (ent_is rfl rfl hk)).1))
      obtain ⟨hc3, hr⟩ := chk_some hr
      repeat (first | with_reducible refine W_seq ?_ | with_reducible refine then_n ?_ | with_reducible refine block_n ?_)
      refine W_region ?_
      refine L_add ((hB 31 (by kernel_rfl)).trans g31) (rfl : _ = Value.int .i64 (1)) hc3 (by decide) ?_
      refine L_move (rfl : _ = Value.int .i64 (x2 + 1)) (by decide) ?_
      refine L_nil ?_
      exact then_n ⟨m2, Nat.lt_succ_self _, ⟨s', x2 + 1, _, _, rfl, hE', hr, hA', by simp [hlo], hP7.mono hT.le, hvy.mono hT.le, rfl, (hB 29 (by kernel_rfl)).trans g29, (hB 30 (by kernel_rfl)).trans g30, (hB 7 (by kernel_rfl)).trans g7, (hB 24 (by kernel_rfl)).trans g24, (hB 0 (by kernel_rfl)).trans g0, (hB 6 (by kernel_rfl)).trans g6, (hB 22 (by kernel_rfl)).trans g22, (hB 23 (by kernel_rfl)).trans g23⟩⟩
     refine W_block ?_
     refine W_loop (fun m f w => ∃ (s : St) (x3 fr : Int), s.w = w ∧ Ext s0 s ∧ dead_Narrow_l3 N a0 x1 dd m x3 fr = some o3 ∧ ArrB s s0.w.heap.size 59 64 bA vs out ∧ Var s b10 64 dd ∧ Ptr s p7 x1 ∧ V s vy y ∧ f 50 = Value.int .i64 x3 ∧ f 48 = w0 ∧ f 49 = Value.int .i64 (a0.length : Int) ∧ f 11 = Value.int .i64 fr ∧ f 10 = Value.pointer (some ⟨b10, 0, none⟩) ∧ f 31 = Value.int .i64 x2 ∧ f 29 = vy ∧ f 30 = Value.int .i64 (y.length : Int) ∧ f 7 = p7 ∧ f 24 = Value.int .i64 x1 ∧ f 0 = w0 ∧ f 6 = Value.slice (some ⟨bA, 0, none⟩) a0.length a0.length ∧ f 22 = w0 ∧ f 23 = Value.int .i64 (a0.length : Int)) N ⟨s5, 0, -1, rfl, hE5, ho3, hA5, hx5, hP5, hvy5, rfl, rfl, rfl, rfl, rfl, g31, g29, g30, g7, g24, g0, g6, g22, g23⟩ ?_
     clear hr hA5 hE5 hx5 hP5 hvy5 g31 g29 g30 g7 g24 g0 g6 g22 g23
     rintro m3 f1 w1 ⟨s, x3, fr, rfl, hE, hr, hA, hx, hP7, hvy, g50, g48, g49, g11, g10, g31, g29, g30, g7, g24, g0, g6, g22, g23⟩
     cases m3 with
     | zero => exact absurd hr (by simp [dead_Narrow_l3])
     | succ m3 =>
      rw [dead_Narrow_l3.eq_2] at hr
      refine W_seq ?_
      refine W_region ?_
      refine L_lss g50 g49 (by decide) ?_
      refine L_nil ?_
      repeat (first | with_reducible refine W_seq ?_ | with_reducible refine then_n ?_ | with_reducible refine block_n ?_)
      refine W_cond _ (rfl : _ = Value.bool (decide (x3 < (a0.length : Int)))) (fun hb => ?_) (fun hb => ?_)
      rotate_left
      ·have hr := ite_f hb hr
       refine W_exit ?_
       repeat (with_reducible refine then_x ?_)
       refine block_here ?_
       exact then_n ⟨s, fr, rfl, hE, (Option.some.inj hr).symm, hA, hx, hP7, hvy, g11, g10, g31, g29, g30, g7, g24, g0, g6, g22, g23⟩
      have hr := ite_t hb hr
      refine W_skip ?_
      repeat (first | with_reducible refine W_seq ?_ | with_reducible refine then_n ?_ | with_reducible refine block_n ?_)
      refine W_block ?_
      repeat (first | with_reducible refine W_seq ?_ | with_reducible refine then_n ?_ | with_reducible refine block_n ?_)
      refine W_region ?_
      refine L_move g50 (by decide) ?_
      obtain ⟨y3, hy3, hr⟩ := bind_some hr
      refine L_index Try.underlying29 ty59.inf g48 (h0.mono hE.le) g50 hy3 (by decide) ?_
      intro p3 hp3
      refine L_load ty59 (rfl : _ = p3) hp3 (by decide) ?_
      intro v3 hv3
      refine L_assign (rfl : _ = Value.int .i64 x3) (by decide) ?_
      refine L_assign (rfl : _ = v3) (by decide) ?_
      refine L_nil ?_
      repeat (first | with_reducible refine W_seq ?_ | with_reducible refine then_n ?_ | with_reducible refine block_n ?_)
      refine W_region ?_
      refine L_move (rfl : _ = v3) (by decide) ?_
      refine L_makeFunc (args2 g7 g10) (by decide) ?_
      obtain ⟨bb, hbb, hr⟩ := bind_some hr
      obtain ⟨sz, ez, tz, fz⟩ := hx.freeze
      refine L_calls_fz cal38 (args2 (rfl : _ = v3) (rfl : _ = Value.func (.func 39) #[] #[p7, Value.pointer (some ⟨b10, 0, none⟩)])) ez tz (fun k hk => by have hk2 : k = b10 := hk; rw [hk2]; exact hx.g) (slices_ContainsFunc_Llang_Deed_lang_Deed_ok N _ _ _ (hv3.mono tz.le) _ (fun x => dead_Narrow_1 N x x1 dd) (Fn1.mk2 cal39 fun s' vx x r hl hv hr => dead_Narrow_1_ok N s' vx x hv _ _ ((hP7.mono tz.le).mono hl) _ _ (fz.mono hl) r hr) bb hbb) (by decide) ?_
      intro v4 s4' s4 ez4 e4 hv4
      obtain rfl := hv4.bool
      have hE4 := Tch.ext hE e4
      have hA4 := hA.ext e4
      have hx4 := hx.ext e4
      have hP4 := hP7.mono e4.le
      have hvy4 := hvy.mono e4.le
      refine L_not (rfl : _ = Value.bool (bb)) (by decide) ?_
      refine L_nil ?_
      repeat (first | with_reducible refine W_seq ?_ | with_reducible refine then_n ?_ | with_reducible refine block_n ?_)
      refine W_cond _ (rfl : _ = Value.bool (!bb)) (fun hb3 => ?_) (fun hb3 => ?_)
      ·have hr := ite_t hb3 hr
       obtain ⟨hc, hr⟩ := chk_some hr
       refine W_exit ?_
       repeat (first | with_reducible refine then_x ?_ | with_reducible refine block_here ?_ | with_reducible refine then_n ?_)
       refine W_region ?_
       refine L_add g50 (rfl : _ = Value.int .i64 (1)) hc (by decide) ?_
       refine L_move (rfl : _ = Value.int .i64 (x3 + 1)) (by decide) ?_
       refine L_nil ?_
       exact then_n ⟨m3, Nat.lt_succ_self _, ⟨s4, x3 + 1, fr, rfl, hE4, hr, hA4, hx4, hP4, hvy4, rfl, g48, g49, g11, g10, g31, g29, g30, g7, g24, g0, g6, g22, g23⟩⟩
      have hr := ite_f hb3 hr
      refine W_skip ?_
      repeat (first | with_reducible refine W_seq ?_ | with_reducible refine then_n ?_ | with_reducible refine block_n ?_)
      refine W_region ?_
      refine L_move g11 (by decide) ?_
      refine L_geq (rfl : _ = Value.int .i64 fr) (rfl : _ = Value.int .i64 (0)) (by decide) ?_
      refine L_nil ?_
      repeat (first | with_reducible refine W_seq ?_ | with_reducible refine then_n ?_ | with_reducible refine block_n ?_)
      refine W_cond _ (rfl : _ = Value.bool (decide (0 ≤ fr))) (fun hb4 => ?_) (fun hb4 => ?_)
      ·have hr := ite_t hb4 hr
       refine W_seq ?_
       refine W_region ?_
       refine L_assign (rfl : _ = Value.slice none 0 0) (by decide) ?_
       refine L_nil ?_
       repeat (first | with_reducible refine W_seq ?_ | with_reducible refine then_n ?_ | with_reducible refine block_n ?_)
       refine W_exit ?_
       obtain rfl := Option.some.inj hr
       dsimp only at hq3
       obtain rfl := Option.some.inj hq3
       dsimp only at hq2
       obtain rfl := Option.some.inj hq2
       repeat (first | with_reducible refine then_x ?_ | with_reducible refine block_here ?_ | with_reducible refine block_x (by decide) ?_)
       exact then_n ⟨s4, rfl, hE4, Or.inl ⟨rfl, rfl⟩⟩
      have hr := ite_f hb4 hr
      obtain ⟨hc, hr⟩ := chk_some hr
      refine W_skip ?_
      repeat (first | with_reducible refine W_seq ?_ | with_reducible refine then_n ?_ | with_reducible refine block_n ?_)
      refine W_region ?_
      refine L_move (rfl : _ = Value.int .i64 x3) (by decide) ?_
      refine L_assign (rfl : _ = Value.int .i64 x3) (by decide) ?_
      refine L_nil ?_
      repeat (first | with_reducible refine W_seq ?_ | with_reducible refine then_n ?_ | with_reducible refine block_n ?_)
      refine W_region ?_
      refine L_add g50 (rfl : _ = Value.int .i64 (1)) hc (by decide) ?_
      refine L_move (rfl : _ = Value.int .i64 (x3 + 1)) (by decide) ?_
      refine L_nil ?_
      exact then_n ⟨m3, Nat.lt_succ_self _, ⟨s4, x3 + 1, x3, rfl, hE4, hr, hA4, hx4, hP4, hvy4, rfl, g48, g49, rfl, g10, g31, g29, g30, g7, g24, g0, g6, g22, g23⟩⟩
 ·rintro f3 w3 ⟨s, rfl, hE, hh⟩
  repeat (first | with_reducible refine W_seq ?_ | with_reducible refine then_n ?_ | with_reducible refine block_n ?_)
  refine W_region ?_
  rcases hh with ⟨ho, g6⟩ | ⟨vs, out, ho, hA, hlo, g6⟩
  ·subst ho
   dsimp only at hq
   refine L_move g6 (by decide) ?_
   refine L_move g6 (by decide) ?_
   refine L_neqNil Try.underlying29 (rfl : _ = Value.slice none 0 0) (by decide) ?_
   refine L_assign (rfl : _ = Value.slice none 0 0) (by decide) ?_
   refine L_assign (rfl : _ = Value.bool false) (by decide) ?_
   refine L_assign (rfl : _ = Value.int .i64 (0)) (by decide) ?_
   refine L_nil ?_
   repeat (first | with_reducible refine W_seq ?_ | with_reducible refine then_n ?_ | with_reducible refine block_n ?_)
   refine W_ret ?_
   repeat (with_reducible refine then_r ?_)
   obtain rfl := Option.some.inj hq
   exact done3 (Or.inl rfl) Try.results15 rfl rfl rfl ⟨_, _, rfl, rfl, hE, _, _, _, rfl, Vnil, Vbool, Vint⟩
  ·subst ho
   dsimp only at hq
   obtain rfl := Option.some.inj hq
   refine L_move g6 (by decide) ?_
   refine L_move g6 (by decide) ?_
   refine L_neqNil Try.underlying29 (rfl : _ = Value.slice (some ⟨bA, 0, none⟩) a0.length a0.length) (by decide) ?_
   refine L_assign (rfl : _ = Value.slice (some ⟨bA, 0, none⟩) a0.length a0.length) (by decide) ?_
   refine L_assign (rfl : _ = Value.bool true) (by decide) ?_
   refine L_assign (rfl : _ = Value.int .i64 (0)) (by decide) ?_
   refine L_nil ?_
   repeat (first | with_reducible refine W_seq ?_ | with_reducible refine then_n ?_ | with_reducible refine block_n ?_)
   refine W_ret ?_
   repeat (with_reducible refine then_r ?_)
   obtain ⟨s9, ez9, t9, hV9⟩ := hA.toV
   rw [hlo] at hV9
   exact done3 (Or.inl rfl) Try.results15 rfl rfl rfl ⟨_, s9, rfl, ez9, Tch.trans hE t9 (fun k hk => Or.inr (by subst hk; exact hA.low)), _, _, _, rfl, hV9, Vbool, Vint⟩

theorem dead_run_finish_ok (N : Nat) (s0 : St) (w0 : Value) (bat : Nat) (a0 : Run) (h0 : Shell Run.with_at_ 2 s0 w0 bat (a0.at_).length a0) (hbat : Arr s0 bat 3 (a0.at_).length a0.at_) (r : (List Int) × (List Int)) (hr : dead_run_finish N a0 = some r) :
  Calls Try.prog 49 #[w0] s0.w (RetM (fun k => k = bat) s0 fun v s => V s v r.1 ∧ Arr s bat 3 (a0.at_).length r.2) := by
 unfold dead_run_finish at hr
 have hE0 := Tch.refl (fun k => k = bat) s0
 refine Calls_of (n := 25) (args := [w0]) Try.func49 rfl rfl (by simp) ?_
 refine W_seq ?_
 refine W_region ?_
 refine L_assign (rfl : _ = Value.slice none 0 0) (by decide) ?_
 refine L_nil ?_
 refine then_n ?_
 refine W_seq ?_
 refine W_region ?_
 refine L_assign (rfl : _ = Value.slice none 0 0) (by decide) ?_
 refine L_nil ?_
 refine then_n ?_
 refine W_seq ?_
 refine W_seq ?_
 refine W_region ?_
 refine L_move (rfl : _ = w0) (by decide) ?_
 obtain ⟨y5, hy6, hr⟩ := bind_some hr
 obtain ⟨s1, ez2, tz3, fz4⟩ := (hbat).freeze
 refine L_calls_fz cal33 (args1 (rfl : _ = w0)) ez2 tz3 (fun k hk => by have hk2 : k = bat := hk; rw [hk2]; exact (hbat).g) (dead_run_next_ok N _ _ _ ((h0.mono tz3.le).ptr fz4) y5 hy6) (by decide) ?_
 intro v7 s10 s12 ez11 e8 hv9
 have hE13 := Tch.ext hE0 e8
 obtain rfl := hv9.int
 refine L_assign (rfl : _ = Value.int .i64 (y5)) (by decide) ?_
 refine L_nil ?_
 refine then_n ?_
 obtain ⟨o21, ho22, hq24⟩ := bind_some hr
 refine W_cut (fun f w => ∃ (s : St) (v20 : Value) (x19 : List Int) (x18 : List Int), s.w = w ∧ Tch (fun k => k = bat) s0 s ∧ Le s12 s ∧ (x19, x18) = o21 ∧ f 3 = v20 ∧ Bld s s0.w.heap.size 3 v20 x19 ∧ Arr s bat 3 (a0.at_).length x18 ∧ (∀ k, (own v20) k → ¬ (fun k => k = bat) k)) ?_ ?_
 ·refine W_block ?_
  refine W_loop (fun m f w => ∃ (s : St) (v16 : Value) (x15 : List Int) (x17 : Int) (x14 : List Int), s.w = w ∧ Tch (fun k => k = bat) s0 s ∧ Le s12 s ∧ dead_run_finish_l1 N a0 m x15 x17 x14 = some o21 ∧ f 3 = v16 ∧ Bld s s0.w.heap.size 3 v16 x15 ∧ f 4 = Value.int .i64 x17 ∧ f 0 = w0 ∧ Arr s bat 3 (a0.at_).length x14 ∧ (∀ k, (own v16) k → ¬ (fun k => k = bat) k)) N ⟨s12, (Value.slice none 0 0), ([]), y5, a0.at_, rfl, hE13, (Le.refl _), ho22, rfl, Bld.nil, rfl, rfl, (hbat).ext e8, (fun k h => absurd h own_nil)⟩ ?_
  rintro m23 f74 w75 ⟨s26, v16, x15, x17, x14, rfl, hE28, l27, hr, g29_3, hb30, g29_4, g29_0, hx31, ap32⟩
  cases m23 with
  | zero => exact absurd hr (by simp [dead_run_finish_l1])
  | succ m23 =>
   rw [dead_run_finish_l1.eq_2] at hr
   refine W_seq ?_
   refine W_seq ?_
   refine W_region ?_
   refine L_move g29_4 (by decide) ?_
   refine L_geq (rfl : _ = Value.int .i64 (x17)) (rfl : _ = Value.int .i64 (0)) (by decide) ?_
   refine L_nil ?_
   refine then_n ?_
   refine W_cond _ (rfl : _ = Value.bool (decide (0 ≤ x17))) (fun hb33 => ?_) (fun hb33 => ?_)
   ·have hr := ite_t hb33 hr
    refine W_skip ?_
    refine then_n ?_
    refine W_seq ?_
    refine W_block ?_
    refine W_seq ?_
    refine W_region ?_
    refine L_move g29_0 (by decide) ?_
    refine L_nilCheck_shell (rfl : _ = w0) (h0.mono (e8.le.trans l27)) (by decide) ?_
    refine L_fieldAddr_shell fld72_2 (rfl : _ = w0) (h0.mono (e8.le.trans l27)) (by decide) ?_
    intro p34 hp35
    refine L_load_cell Try.underlying23 rfl (rfl : _ = p34) hp35 (by decide) ?_
    refine L_move g29_4 (by decide) ?_
    obtain ⟨y36, hy37, hr⟩ := bind_some hr
    refine L_indexA (sz := 1) Try.underlying23 ty3.inf (rfl : _ = Value.slice (some ⟨bat, 0, none⟩) (a0.at_).length (a0.at_).length) (rfl : _ = Value.int .i64 (x17)) (idx_some hy37).1 (by have := (idx_some hy37).2.1; have := (hx31).1; omega) (by decide) ?_
    refine L_loadA (xs := x14) ty3 (rfl : _ = Value.pointer (some ⟨bat, (x17).toNat * 1, none⟩)) (hx31) hy37 (by decide) ?_
    intro v38 hv39
    obtain rfl := hv39.int
    obtain ⟨hc40, hr⟩ := chk_some hr
    refine L_add (rfl : _ = Value.int .i64 (y36)) (rfl : _ = Value.int .i64 (1)) hc40 (by decide) ?_
    obtain ⟨y41, hy42, hr⟩ := bind_some hr
    refine L_indexA (sz := 1) Try.underlying23 ty3.inf (rfl : _ = Value.slice (some ⟨bat, 0, none⟩) (a0.at_).length (a0.at_).length) (rfl : _ = Value.int .i64 (x17)) (idx_some hy42).1 (by have := (idx_some hy42).2.1; have := (hx31).1; omega) (by decide) ?_
    refine L_storeA (xs := x14) ty3 (rfl : _ = Value.pointer (some ⟨bat, (x17).toNat * 1, none⟩)) (rfl : _ = Value.int .i64 (y36 + 1)) Vint (hx31) hy42 ?_
    intro s45 e43 hv44
    have hE46 := Tch.trans hE28 e43 (fun k hk => Or.inl hk)
    refine L_nil ?_
    refine then_n ?_
    refine W_region ?_
    refine L_move g29_3 (by decide) ?_
    refine L_move g29_4 (by decide) ?_
    refine L_buildSlice (xs := ([x17] : List Int)) Try.underlying23 tyz3 (Parts_cons rfl (rfl : _ = Value.int .i64 (x17)) Parts_nil) (Vs.cons Vint Vs.nil) rfl (by decide) (by decide) ?_
    intro s51 v48 e47 hb49 hv50
    have hE52 := Tch.ext hE46 e47
    obtain ⟨hc53, hr⟩ := chk_some hr
    refine L_append (xs := x15) (B := s0.w.heap.size) Try.underlying23 tyz3 (rfl : _ = v16) (rfl : _ = v48) (((hb30).tch e43 ap32).ext e47) (hE52.size) hv50 hc53.1 hc53.2 (by decide) ?_
    intro v54 s56 g55
    have hE57 := g55.tchM (((hb30).tch e43 ap32).ext e47) hE52 (Nat.le_refl _)
    have ap58 : ∀ k, (fun k => k = bat) k → ¬ own v54 k := fun k h1 h2 => by rcases g55.own k h2 with h3 | h3; exact (fun k hk hm => ap32 k hm hk) k h1 h3; have h4 := ((hv44).ext e47).lt; subst h1; omega
    refine L_assign (rfl : _ = v54) (by decide) ?_
    refine L_nil ?_
    refine block_n ?_
    refine then_n ?_
    refine W_region ?_
    refine L_move g29_0 (by decide) ?_
    obtain ⟨y63, hy64, hr⟩ := bind_some hr
    obtain ⟨s59, ez60, tz61, fz62⟩ := (((hv44).ext e47).tch g55.tch ((fun k hk hm => ap32 k hm hk) bat rfl)).freeze
    refine L_calls_fz cal33 (args1 (rfl : _ = w0)) ez60 tz61 (fun k hk => by have hk2 : k = bat := hk; rw [hk2]; exact (((hv44).ext e47).tch g55.tch ((fun k hk hm => ap32 k hm hk) bat rfl)).g) (dead_run_next_ok N _ _ _ ((h0.mono (e8.le.trans (l27.trans (e43.le.trans (e47.le.trans (g55.tch.le.trans tz61.le)))))).ptr fz62) y63 hy64) (by decide) ?_
    intro v65 s68 s70 ez69 e66 hv67
    have hE71 := Tch.ext hE57 e66
    obtain rfl := hv67.int
    refine L_assign (rfl : _ = Value.int .i64 (y63)) (by decide) ?_
    refine L_nil ?_
    exact then_n ⟨m23, Nat.lt_succ_self _, ⟨s70, v54, (x15 ++ ([x17] : List Int)), y63, (x14.set (x17).toNat (y36 + 1)), rfl, hE71, (l27.trans (e43.le.trans (e47.le.trans (g55.tch.le.trans e66.le)))), hr, rfl, (g55.bld).ext e66, rfl, g29_0, (((hv44).ext e47).tch g55.tch ((fun k hk hm => ap32 k hm hk) bat rfl)).ext e66, (fun k hk hm => ap58 k hm hk)⟩⟩
   ·have hr := ite_f hb33 hr
    refine W_exit ?_
    refine then_x ?_
    refine then_x ?_
    refine block_here ?_
    exact then_n ⟨s26, v16, x15, x14, rfl, hE28, l27, Option.some.inj hr, g29_3, hb30, hx31, ap32⟩
 ·rintro f72 w73 ⟨s76, v20, x19, x18, rfl, hE78, l77, ho22, g79_3, hb80, hx81, ap82⟩
  subst ho22
  have hr := hq24
  try dsimp only at hr
  refine then_n ?_
  refine W_seq ?_
  refine W_region ?_
  refine L_move g79_3 (by decide) ?_
  refine L_assign (rfl : _ = v20) (by decide) ?_
  refine L_nil ?_
  refine then_n ?_
  refine W_ret ?_
  obtain rfl := Option.some.inj hr
  exact done1 (Or.inl rfl) Try.results49 rfl ⟨_, _, rfl, rfl, hE78, (hb80).toV, hx81⟩

theorem dead_End_ok (N : Nat) (s0 : St) (w0 : Value) (a0 : List (List Deed)) (h0 : V s0 w0 a0) (a1 : Int) (r : (List Int) × Int) (hr : dead_End N a0 a1 = some r) :
  Calls Try.prog 30 #[w0, .int .i64 a1] s0.w (Ret s0 fun v s => ∃ a b, v = .tuple #[a, b] ∧ V s a r.1 ∧ V s b r.2) := by
 unfold dead_End at hr
 have hE0 := Ext.refl s0
 refine Calls_of (n := 23) (args := [w0, .int .i64 a1]) Try.func30 rfl rfl (by simp) ?_
 refine W_seq ?_
 refine W_region ?_
 refine L_assign (rfl : _ = Value.slice none 0 0) (by decide) ?_
 refine L_assign (rfl : _ = Value.int .i64 (0)) (by decide) ?_
 refine L_nil ?_
 refine then_n ?_
 refine W_seq ?_
 refine W_region ?_
 refine L_move (rfl : _ = w0) (by decide) ?_
 refine L_move (rfl : _ = Value.int .i64 (a1)) (by decide) ?_
 obtain ⟨y1, hy2, hr⟩ := bind_some hr
 refine L_calls cal31 (args2 (rfl : _ = w0) (rfl : _ = Value.int .i64 (a1))) (dead_newRun_ok N _ _ _ h0 a1 y1 hy2) (by decide) ?_
 intro v3 s6 e4 hv5
 have hE7 := Tch.ext hE0 e4
 obtain ⟨v8, v9, rfl, hv10, hv11⟩ := hv5
 obtain rfl := hv11.int
 refine L_move (rfl : _ = Value.tuple #[v8, Value.int .i64 (y1.2)]) (by decide) ?_
 refine L_extract (rfl : _ = Value.tuple #[v8, Value.int .i64 (y1.2)]) (k := 0) rfl (by decide) ?_
 refine L_extract (rfl : _ = Value.tuple #[v8, Value.int .i64 (y1.2)]) (k := 1) rfl (by decide) ?_
 refine L_assign (rfl : _ = v8) (by decide) ?_
 refine L_assign (rfl : _ = Value.int .i64 (y1.2)) (by decide) ?_
 refine L_nil ?_
 refine then_n ?_
 refine W_seq ?_
 refine W_seq ?_
 refine W_region ?_
 refine L_move (rfl : _ = Value.int .i64 (y1.2)) (by decide) ?_
 refine L_neq (rfl : _ = Value.int .i64 (y1.2)) (rfl : _ = Value.int .i64 (0)) (by decide) ?_
 refine L_nil ?_
 refine then_n ?_
 refine W_cond _ (rfl : _ = Value.bool (!decide (y1.2 = 0))) (fun hb12 => ?_) (fun hb12 => ?_)
 ·have hr := ite_t hb12 hr
  refine W_seq ?_
  refine W_region ?_
  refine L_move (rfl : _ = Value.int .i64 (y1.2)) (by decide) ?_
  refine L_assign (rfl : _ = Value.slice none 0 0) (by decide) ?_
  refine L_assign (rfl : _ = Value.int .i64 (y1.2)) (by decide) ?_
  refine L_nil ?_
  refine then_n ?_
  refine W_ret ?_
  refine then_r ?_
  obtain rfl := Option.some.inj hr
  exact done2 (Or.inl rfl) Try.results30 rfl rfl ⟨_, _, rfl, rfl, hE7, _, _, rfl, Vnil, Vint⟩
 ·have hr := ite_f hb12 hr
  refine W_skip ?_
  refine then_n ?_
  refine W_seq ?_
  refine W_region ?_
  refine L_move (rfl : _ = v8) (by decide) ?_
  obtain ⟨y13, hy14, hr⟩ := bind_some hr
  obtain ⟨b15, hb16, hs17, ha18⟩ := hv10.open hy14
  obtain ⟨y19, hy20, hr⟩ := bind_some hr
  refine L_calls_mut cal49 (args1 (rfl : _ = v8)) (dead_run_finish_ok N _ _ b15 (Run.with_at_ y13 y13.at_) (hs17.at (fun _ => rfl) (ha18)) (ha18).self y19 hy20) (by decide) ?_
  rintro v21 s25 e22 ⟨hv23, ha24⟩
  have hE26 := Tch.trans hE7 e22 (fun k hk => Or.inr (by subst hk; exact (Nat.le_trans hE0.size hb16)))
  have ha24 := (ha18).back ha24
  obtain ⟨s27, ez28, tz29, fz30⟩ := (ha24).freeze
  rw [← ez28]
  have hE31 := Tch.trans hE26 tz29 (fun k hk => Or.inr (by subst hk; exact (Nat.le_trans hE0.size hb16)))
  refine L_nil ?_
  refine then_n ?_
  refine W_seq ?_
  refine W_region ?_
  refine L_move (rfl : _ = v8) (by decide) ?_
  refine L_nilCheck_ptr (rfl : _ = v8) ((hs17.mono (e22.le.trans tz29.le)).ptr fz30) (by decide) ?_
  refine L_fieldAddr fld72_2 Run.of_at_ (rfl : _ = v8) ((hs17.mono (e22.le.trans tz29.le)).ptr fz30) (by decide) ?_
  intro p32 hp33
  refine L_load ty23 (rfl : _ = p32) hp33 (by decide) ?_
  intro v34 hv35
  refine L_assign (rfl : _ = v34) (by decide) ?_
  refine L_assign (rfl : _ = Value.int .i64 (0)) (by decide) ?_
  refine L_nil ?_
  refine then_n ?_
  refine W_ret ?_
  obtain rfl := Option.some.inj hr
  exact done2 (Or.inl rfl) Try.results30 rfl rfl ⟨_, _, rfl, rfl, hE31, _, _, rfl, hv35, Vint⟩

theorem dead_comes_ok (N : Nat) (s0 : St) (w0 : Value) (a0 : List (List Deed)) (h0 : V s0 w0 a0) (a1 : Int) (r : Bool) (hr : dead_comes N a0 a1 = some r) :
  Calls Try.prog 47 #[w0, .int .i64 a1] s0.w (Ret s0 fun v s => V s v r) := by
 unfold dead_comes at hr
 have hE0 := Ext.refl s0
 refine Calls_of (n := 30) (args := [w0, .int .i64 a1]) Try.func47 rfl rfl (by simp) ?_
 refine W_seq ?_
 refine W_region ?_
 refine L_assign (rfl : _ = Value.bool (false)) (by decide) ?_
 refine L_nil ?_
 refine then_n ?_
 refine W_seq ?_
 refine W_region ?_
 refine L_move (rfl : _ = w0) (by decide) ?_
 refine L_move (rfl : _ = Value.int .i64 (a1)) (by decide) ?_
 obtain ⟨y1, hy2, hr⟩ := bind_some hr
 refine L_calls cal30 (args2 (rfl : _ = w0) (rfl : _ = Value.int .i64 (a1))) (dead_End_ok N _ _ _ h0 a1 y1 hy2) (by decide) ?_
 intro v3 s6 e4 hv5
 have hE7 := Tch.ext hE0 e4
 obtain ⟨v8, v9, rfl, hv10, hv11⟩ := hv5
 obtain rfl := hv11.int
 refine L_move (rfl : _ = Value.tuple #[v8, Value.int .i64 (y1.2)]) (by decide) ?_
 refine L_extract (rfl : _ = Value.tuple #[v8, Value.int .i64 (y1.2)]) (k := 0) rfl (by decide) ?_
 refine L_extract (rfl : _ = Value.tuple #[v8, Value.int .i64 (y1.2)]) (k := 1) rfl (by decide) ?_
 refine L_assign (rfl : _ = v8) (by decide) ?_
 refine L_assign (rfl : _ = Value.int .i64 (y1.2)) (by decide) ?_
 refine L_nil ?_
 refine then_n ?_
 refine W_seq ?_
 refine W_seq ?_
 refine W_region ?_
 refine L_move (rfl : _ = v8) (by decide) ?_
 refine L_len Try.underlying23 (rfl : _ = v8) hv10 (by decide) ?_
 refine L_move (rfl : _ = Value.int .i64 (0)) (by decide) ?_
 refine L_nil ?_
 refine then_n ?_
 obtain ⟨o13, ho14, hq16⟩ := bind_some hr
 refine W_cut (fun f w => ∃ (s : St), s.w = w ∧ Ext s0 s ∧ Le s6 s ∧ Sum.inl () = o13) ?_ ?_
 ·refine W_block ?_
  refine W_loop (fun m f w => ∃ (s : St) (x12 : Int), s.w = w ∧ Ext s0 s ∧ Le s6 s ∧ dead_comes_l1 N a0 y1 m x12 = some o13 ∧ f 17 = Value.int .i64 x12 ∧ f 0 = w0 ∧ f 15 = v8 ∧ f 16 = Value.int .i64 ((y1.1.length : Int))) N ⟨s6, 0, rfl, hE7, (Le.refl _), ho14, rfl, rfl, rfl, rfl⟩ ?_
  rintro m15 f37 w38 ⟨s18, x12, rfl, hE20, l19, hr, g21_17, g21_0, g21_15, g21_16⟩
  cases m15 with
  | zero => exact absurd hr (by simp [dead_comes_l1])
  | succ m15 =>
   rw [dead_comes_l1.eq_2] at hr
   refine W_seq ?_
   refine W_region ?_
   refine L_lss g21_17 g21_16 (by decide) ?_
   refine L_nil ?_
   refine then_n ?_
   refine W_seq ?_
   refine W_cond _ (rfl : _ = Value.bool (decide (x12 < (y1.1.length : Int)))) (fun hb22 => ?_) (fun hb22 => ?_)
   ·have hr := ite_t hb22 hr
    refine W_skip ?_
    refine then_n ?_
    refine W_seq ?_
    refine W_block ?_
    refine W_seq ?_
    refine W_region ?_
    refine L_move g21_17 (by decide) ?_
    obtain ⟨y23, hy24, hr⟩ := bind_some hr
    refine L_index Try.underlying23 ty3.inf g21_15 (hv10.mono l19) g21_17 hy24 (by decide) ?_
    intro p25 hp26
    refine L_load_int ty3 (rfl : _ = p25) hp26 (by decide) ?_
    refine L_assign (rfl : _ = Value.int .i64 (x12)) (by decide) ?_
    refine L_assign (rfl : _ = Value.int .i64 (y23)) (by decide) ?_
    refine L_nil ?_
    refine then_n ?_
    refine W_seq ?_
    refine W_region ?_
    refine L_move (rfl : _ = Value.int .i64 (y23)) (by decide) ?_
    refine L_move g21_0 (by decide) ?_
    refine L_move (rfl : _ = Value.int .i64 (x12)) (by decide) ?_
    obtain ⟨y27, hy28, hr⟩ := bind_some hr
    refine L_index Try.underlying29 ty59.inf (rfl : _ = w0) (h0.mono (e4.le.trans l19)) (rfl : _ = Value.int .i64 (x12)) hy28 (by decide) ?_
    intro p29 hp30
    refine L_load ty59 (rfl : _ = p29) hp30 (by decide) ?_
    intro v31 hv32
    refine L_len Try.underlying59 (rfl : _ = v31) hv32 (by decide) ?_
    refine L_lss (rfl : _ = Value.int .i64 (y23)) (rfl : _ = Value.int .i64 ((y27.length : Int))) (by decide) ?_
    refine L_nil ?_
    refine then_n ?_
    refine W_cond _ (rfl : _ = Value.bool (decide (y23 < (y27.length : Int)))) (fun hb33 => ?_) (fun hb33 => ?_)
    ·have hr := ite_t hb33 hr
     refine W_seq ?_
     refine W_region ?_
     refine L_assign (rfl : _ = Value.bool (false)) (by decide) ?_
     refine L_nil ?_
     refine then_n ?_
     refine W_ret ?_
     refine block_r ?_
     refine then_r ?_
     refine then_r ?_
     refine block_r ?_
     obtain rfl := Option.some.inj hr
     have hr := hq16
     try dsimp only at hr
     refine then_r ?_
     refine then_r ?_
     obtain rfl := Option.some.inj hr
     exact done1 (Or.inl rfl) Try.results47 rfl ⟨_, _, rfl, rfl, hE20, Vbool⟩
    ·have hr := ite_f hb33 hr
     refine W_skip ?_
     refine block_n ?_
     refine then_n ?_
     refine W_region ?_
     obtain ⟨hc34, hr⟩ := chk_some hr
     refine L_add g21_17 (rfl : _ = Value.int .i64 (1)) hc34 (by decide) ?_
     refine L_move (rfl : _ = Value.int .i64 (x12 + 1)) (by decide) ?_
     refine L_nil ?_
     exact then_n ⟨m15, Nat.lt_succ_self _, ⟨s18, (x12 + 1), rfl, hE20, l19, hr, rfl, g21_0, g21_15, g21_16⟩⟩
   ·have hr := ite_f hb22 hr
    refine W_exit ?_
    refine then_x ?_
    refine then_x ?_
    refine block_here ?_
    exact then_n ⟨s18, rfl, hE20, l19, Option.some.inj hr⟩
 ·rintro f35 w36 ⟨s39, rfl, hE41, l40, ho14⟩
  subst ho14
  have hr := hq16
  try dsimp only at hr
  refine then_n ?_
  refine W_seq ?_
  refine W_region ?_
  refine L_assign (rfl : _ = Value.bool (true)) (by decide) ?_
  refine L_nil ?_
  refine then_n ?_
  refine W_ret ?_
  obtain rfl := Option.some.inj hr
  exact done1 (Or.inl rfl) Try.results47 rfl ⟨_, _, rfl, rfl, hE41, Vbool⟩

theorem dead_Decide_ok (N : Nat) (s0 : St) (w0 : Value) (a0 : List (List Deed)) (h0 : V s0 w0 a0) (r : Verdict × Int) (hr : dead_Decide N a0 = some r) :
  Calls Try.prog 18 #[w0] s0.w (Ret s0 fun v s => ∃ a b, v = .tuple #[a, b] ∧ V s a r.1 ∧ V s b r.2) := by
 unfold dead_Decide at hr
 have hE0 := Ext.refl s0
 refine Calls_of (n := 49) (args := [w0]) Try.func18 rfl rfl (by simp) ?_
 refine W_seq ?_
 refine W_region ?_
 refine L_alloc (α := Verdict) (x := ⟨0, 0⟩) zero40 Verdict.zero_rel (by decide) ?_
 intro s5 b2 e1 hb3 hv4
 have hE6 := Tch.ext hE0 e1
 refine L_assign (rfl : _ = Value.int .i64 (0)) (by decide) ?_
 refine L_nil ?_
 refine then_n ?_
 refine W_seq ?_
 refine W_region ?_
 refine L_move (rfl : _ = w0) (by decide) ?_
 obtain ⟨y7, hy8, hr⟩ := bind_some hr
 refine L_calls cal15 (args1 (rfl : _ = w0)) (dead_Narrow_ok N _ _ _ (h0.mono e1.le) y7 hy8) (by decide) ?_
 intro v9 s12 e10 hv11
 have hE13 := Tch.ext hE6 e10
 obtain ⟨v14, v15, v16, rfl, hv17, hv18, hv19⟩ := hv11
 obtain rfl := hv18.bool
 obtain rfl := hv19.int
 refine L_move (rfl : _ = Value.tuple #[v14, Value.bool (y7.2.1), Value.int .i64 (y7.2.2)]) (by decide) ?_
 refine L_extract (rfl : _ = Value.tuple #[v14, Value.bool (y7.2.1), Value.int .i64 (y7.2.2)]) (k := 0) rfl (by decide) ?_
 refine L_extract (rfl : _ = Value.tuple #[v14, Value.bool (y7.2.1), Value.int .i64 (y7.2.2)]) (k := 1) rfl (by decide) ?_
 refine L_extract (rfl : _ = Value.tuple #[v14, Value.bool (y7.2.1), Value.int .i64 (y7.2.2)]) (k := 2) rfl (by decide) ?_
 refine L_assign (rfl : _ = v14) (by decide) ?_
 refine L_assign (rfl : _ = Value.bool (y7.2.1)) (by decide) ?_
 refine L_assign (rfl : _ = Value.int .i64 (y7.2.2)) (by decide) ?_
 refine L_nil ?_
 refine then_n ?_
 obtain ⟨o21, ho22, hq23⟩ := bind_some hr
 refine W_seq_cut (fun f w => ∃ (s : St) (x20 : Verdict), s.w = w ∧ Ext s0 s ∧ Le s12 s ∧ Sum.inl x20 = o21 ∧ f 2 = Value.pointer (some ⟨b2, 0, none⟩) ∧ f 4 = v14 ∧ Var s b2 40 x20) ?_ ?_
 ·have hr := ho22
  refine W_block ?_
  refine W_seq ?_
  refine W_region ?_
  refine L_move (rfl : _ = Value.int .i64 (y7.2.2)) (by decide) ?_
  refine L_neq (rfl : _ = Value.int .i64 (y7.2.2)) (rfl : _ = Value.int .i64 (0)) (by decide) ?_
  refine L_assign (rfl : _ = Value.bool (!decide (y7.2.2 = 0))) (by decide) ?_
  refine L_nil ?_
  refine then_n ?_
  refine W_cond _ (rfl : _ = Value.bool (!decide (y7.2.2 = 0))) (fun hb24 => ?_) (fun hb24 => ?_)
  ·have hr := ite_t hb24 hr
   refine W_seq ?_
   refine W_region ?_
   refine L_bld40_ (s := s12)   (by decide) ?_
   intro v25 h26
   refine L_move (rfl : _ = Value.int .i64 (y7.2.2)) (by decide) ?_
   refine L_store ty40 (rfl : _ = Value.pointer (some ⟨b2, 0, none⟩)) (rfl : _ = v25) h26 ((hv4).ext e10) ?_
   intro s29 e27 hv28
   have hE30 := Tch.trans hE13 e27 (fun k hk => Or.inr (by subst hk; exact (Nat.le_trans hE0.size hb3)))
   refine L_assign (rfl : _ = Value.int .i64 (y7.2.2)) (by decide) ?_
   refine L_nil ?_
   refine then_n ?_
   refine W_ret ?_
   refine block_r ?_
   obtain rfl := Option.some.inj hr
   have hr := hq23
   try dsimp only at hr
   refine then_r ?_
   obtain rfl := Option.some.inj hr
   exact done_ct (Or.inl rfl) Try.results18 ty40 rfl (hv28) rfl (fun v hv => ⟨_, _, rfl, rfl, hE30, _, _, rfl, hv, Vint⟩)
  ·have hr := ite_f hb24 hr
   refine W_seq ?_
   refine W_region ?_
   refine L_move (rfl : _ = Value.bool (y7.2.1)) (by decide) ?_
   refine L_not (rfl : _ = Value.bool (y7.2.1)) (by decide) ?_
   refine L_assign (rfl : _ = Value.bool (!y7.2.1)) (by decide) ?_
   refine L_nil ?_
   refine then_n ?_
   refine W_cond _ (rfl : _ = Value.bool (!y7.2.1)) (fun hb31 => ?_) (fun hb31 => ?_)
   ·have hr := ite_t hb31 hr
    refine W_seq ?_
    refine W_region ?_
    refine L_bld40_0 (s := s12) (rfl : _ = Value.int .i64 (4)) (Vint : V _ _ (4 : Int)) (by decide) ?_
    intro v32 h33
    refine L_store ty40 (rfl : _ = Value.pointer (some ⟨b2, 0, none⟩)) (rfl : _ = v32) h33 ((hv4).ext e10) ?_
    intro s36 e34 hv35
    have hE37 := Tch.trans hE13 e34 (fun k hk => Or.inr (by subst hk; exact (Nat.le_trans hE0.size hb3)))
    refine L_assign (rfl : _ = Value.int .i64 (0)) (by decide) ?_
    refine L_nil ?_
    refine then_n ?_
    refine W_ret ?_
    refine block_r ?_
    obtain rfl := Option.some.inj hr
    have hr := hq23
    try dsimp only at hr
    refine then_r ?_
    obtain rfl := Option.some.inj hr
    exact done_ct (Or.inl rfl) Try.results18 ty40 rfl (hv35) rfl (fun v hv => ⟨_, _, rfl, rfl, hE37, _, _, rfl, hv, Vint⟩)
   ·have hr := ite_f hb31 hr
    refine W_seq ?_
    refine W_region ?_
    refine L_move (rfl : _ = v14) (by decide) ?_
    obtain ⟨y38, hy39, hr⟩ := bind_some hr
    refine L_calls cal47 (args2 (rfl : _ = v14) (rfl : _ = Value.int .i64 (0))) (dead_comes_ok N _ _ _ hv17 0 y38 hy39) (by decide) ?_
    intro v40 s43 e41 hv42
    have hE44 := Tch.ext hE13 e41
    obtain rfl := hv42.bool
    refine L_assign (rfl : _ = Value.bool (y38)) (by decide) ?_
    refine L_nil ?_
    refine then_n ?_
    refine W_cond _ (rfl : _ = Value.bool (y38)) (fun hb45 => ?_) (fun hb45 => ?_)
    ·have hr := ite_t hb45 hr
     refine W_seq ?_
     refine W_region ?_
     refine L_bld40_0 (s := s43) (rfl : _ = Value.int .i64 (1)) (Vint : V _ _ (1 : Int)) (by decide) ?_
     intro v46 h47
     refine L_store ty40 (rfl : _ = Value.pointer (some ⟨b2, 0, none⟩)) (rfl : _ = v46) h47 (((hv4).ext e10).ext e41) ?_
     intro s50 e48 hv49
     have hE51 := Tch.trans hE44 e48 (fun k hk => Or.inr (by subst hk; exact (Nat.le_trans hE0.size hb3)))
     refine L_assign (rfl : _ = Value.int .i64 (0)) (by decide) ?_
     refine L_nil ?_
     refine then_n ?_
     refine W_ret ?_
     refine block_r ?_
     obtain rfl := Option.some.inj hr
     have hr := hq23
     try dsimp only at hr
     refine then_r ?_
     obtain rfl := Option.some.inj hr
     exact done_ct (Or.inl rfl) Try.results18 ty40 rfl (hv49) rfl (fun v hv => ⟨_, _, rfl, rfl, hE51, _, _, rfl, hv, Vint⟩)
    ·have hr := ite_f hb45 hr
     refine W_seq ?_
     refine W_region ?_
     refine L_move (rfl : _ = v14) (by decide) ?_
     obtain ⟨y52, hy53, hr⟩ := bind_some hr
     refine L_calls cal47 (args2 (rfl : _ = v14) (rfl : _ = Value.int .i64 (200))) (dead_comes_ok N _ _ _ (hv17.mono e41.le) 200 y52 hy53) (by decide) ?_
     intro v54 s57 e55 hv56
     have hE58 := Tch.ext hE44 e55
     obtain rfl := hv56.bool
     refine L_not (rfl : _ = Value.bool (y52)) (by decide) ?_
     refine L_assign (rfl : _ = Value.bool (!y52)) (by decide) ?_
     refine L_nil ?_
     refine then_n ?_
     refine W_cond _ (rfl : _ = Value.bool (!y52)) (fun hb59 => ?_) (fun hb59 => ?_)
     ·have hr := ite_t hb59 hr
      refine W_seq ?_
      refine W_region ?_
      refine L_bld40_0 (s := s57) (rfl : _ = Value.int .i64 (3)) (Vint : V _ _ (3 : Int)) (by decide) ?_
      intro v60 h61
      refine L_store ty40 (rfl : _ = Value.pointer (some ⟨b2, 0, none⟩)) (rfl : _ = v60) h61 ((((hv4).ext e10).ext e41).ext e55) ?_
      intro s64 e62 hv63
      have hE65 := Tch.trans hE58 e62 (fun k hk => Or.inr (by subst hk; exact (Nat.le_trans hE0.size hb3)))
      refine L_assign (rfl : _ = Value.int .i64 (0)) (by decide) ?_
      refine L_nil ?_
      refine then_n ?_
      refine W_ret ?_
      refine block_r ?_
      obtain rfl := Option.some.inj hr
      have hr := hq23
      try dsimp only at hr
      refine then_r ?_
      obtain rfl := Option.some.inj hr
      exact done_ct (Or.inl rfl) Try.results18 ty40 rfl (hv63) rfl (fun v hv => ⟨_, _, rfl, rfl, hE65, _, _, rfl, hv, Vint⟩)
     ·have hr := ite_f hb59 hr
      refine W_skip ?_
      refine block_n ?_
      exact then_n ⟨s57, (⟨0, 0⟩ : Verdict), rfl, hE58, (e41.le.trans e55.le), Option.some.inj hr, rfl, rfl, (((hv4).ext e10).ext e41).ext e55⟩
 ·rintro f111 w112 ⟨s66, x20, rfl, hE68, l67, ho22, g69_2, g69_4, hx70⟩
  subst ho22
  have hr := hq23
  try dsimp only at hr
  refine W_seq ?_
  refine W_region ?_
  refine L_assign (rfl : _ = Value.int .i64 (0)) (by decide) ?_
  refine L_assign (rfl : _ = Value.int .i64 (200)) (by decide) ?_
  refine L_nil ?_
  refine then_n ?_
  refine W_seq ?_
  obtain ⟨o74, ho75, hq77⟩ := bind_some hr
  refine W_cut (fun f w => ∃ (s : St) (x73 : Int), s.w = w ∧ Ext s0 s ∧ Le s66 s ∧ x73 = o74 ∧ f 8 = Value.int .i64 x73 ∧ f 2 = Value.pointer (some ⟨b2, 0, none⟩) ∧ Var s b2 40 x20) ?_ ?_
  ·refine W_block ?_
   refine W_loop (fun m f w => ∃ (s : St) (x71 : Int) (x72 : Int), s.w = w ∧ Ext s0 s ∧ Le s66 s ∧ dead_Decide_l1 N y7 m x71 x72 = some o74 ∧ f 7 = Value.int .i64 x71 ∧ f 8 = Value.int .i64 x72 ∧ f 2 = Value.pointer (some ⟨b2, 0, none⟩) ∧ f 4 = v14 ∧ Var s b2 40 x20) N ⟨s66, 0, 200, rfl, hE68, (Le.refl _), ho75, rfl, rfl, g69_2, g69_4, hx70⟩ ?_
   rintro m76 f98 w99 ⟨s79, x71, x72, rfl, hE81, l80, hr, g82_7, g82_8, g82_2, g82_4, hx83⟩
   cases m76 with
   | zero => exact absurd hr (by simp [dead_Decide_l1])
   | succ m76 =>
    rw [dead_Decide_l1.eq_2] at hr
    refine W_seq ?_
    refine W_seq ?_
    refine W_region ?_
    refine L_move g82_8 (by decide) ?_
    refine L_move g82_7 (by decide) ?_
    obtain ⟨hc84, hr⟩ := chk_some hr
    refine L_sub (rfl : _ = Value.int .i64 (x72)) (rfl : _ = Value.int .i64 (x71)) hc84 (by decide) ?_
    refine L_gtr (rfl : _ = Value.int .i64 (x72 - x71)) (rfl : _ = Value.int .i64 (1)) (by decide) ?_
    refine L_nil ?_
    refine then_n ?_
    refine W_cond _ (rfl : _ = Value.bool (decide (1 < (x72 - x71)))) (fun hb85 => ?_) (fun hb85 => ?_)
    ·have hr := ite_t hb85 hr
     refine W_skip ?_
     refine then_n ?_
     refine W_block ?_
     refine W_seq ?_
     refine W_region ?_
     refine L_move g82_7 (by decide) ?_
     refine L_move g82_8 (by decide) ?_
     obtain ⟨hc86, hr⟩ := chk_some hr
     refine L_add (rfl : _ = Value.int .i64 (x71)) (rfl : _ = Value.int .i64 (x72)) hc86 (by decide) ?_
     obtain ⟨hc87, hr⟩ := chk_some hr
     refine L_quo (rfl : _ = Value.int .i64 (x71 + x72)) (rfl : _ = Value.int .i64 (2)) hc87.1 hc87.2 (by decide) ?_
     refine L_assign (rfl : _ = Value.int .i64 (Int.tdiv (x71 + x72) 2)) (by decide) ?_
     refine L_nil ?_
     refine then_n ?_
     refine W_seq ?_
     refine W_region ?_
     refine L_move g82_4 (by decide) ?_
     refine L_move (rfl : _ = Value.int .i64 (Int.tdiv (x71 + x72) 2)) (by decide) ?_
     obtain ⟨y88, hy89, hr⟩ := bind_some hr
     refine L_calls cal47 (args2 (rfl : _ = v14) (rfl : _ = Value.int .i64 (Int.tdiv (x71 + x72) 2))) (dead_comes_ok N _ _ _ (hv17.mono (l67.trans l80)) (Int.tdiv (x71 + x72) 2) y88 hy89) (by decide) ?_
     intro v90 s93 e91 hv92
     have hE94 := Tch.ext hE81 e91
     obtain rfl := hv92.bool
     refine L_nil ?_
     refine then_n ?_
     refine W_cond _ (rfl : _ = Value.bool (y88)) (fun hb95 => ?_) (fun hb95 => ?_)
     ·have hr := ite_t hb95 hr
      refine W_region ?_
      refine L_move (rfl : _ = Value.int .i64 (Int.tdiv (x71 + x72) 2)) (by decide) ?_
      refine L_assign (rfl : _ = Value.int .i64 (Int.tdiv (x71 + x72) 2)) (by decide) ?_
      refine L_nil ?_
      refine block_n ?_
      exact then_n ⟨m76, Nat.lt_succ_self _, ⟨s93, x71, (Int.tdiv (x71 + x72) 2), rfl, hE94, (l80.trans e91.le), hr, g82_7, rfl, g82_2, g82_4, (hx83).ext e91⟩⟩
     ·have hr := ite_f hb95 hr
      refine W_region ?_
      refine L_move (rfl : _ = Value.int .i64 (Int.tdiv (x71 + x72) 2)) (by decide) ?_
      refine L_assign (rfl : _ = Value.int .i64 (Int.tdiv (x71 + x72) 2)) (by decide) ?_
      refine L_nil ?_
      refine block_n ?_
      exact then_n ⟨m76, Nat.lt_succ_self _, ⟨s93, (Int.tdiv (x71 + x72) 2), x72, rfl, hE94, (l80.trans e91.le), hr, rfl, g82_8, g82_2, g82_4, (hx83).ext e91⟩⟩
    ·have hr := ite_f hb85 hr
     refine W_exit ?_
     refine then_x ?_
     refine then_x ?_
     refine block_here ?_
     exact then_n ⟨s79, x72, rfl, hE81, l80, Option.some.inj hr, g82_8, g82_2, hx83⟩
  ·rintro f96 w97 ⟨s100, x73, rfl, hE102, l101, ho75, g103_8, g103_2, hx104⟩
   subst ho75
   have hr := hq77
   try dsimp only at hr
   refine then_n ?_
   refine W_seq ?_
   refine W_region ?_
   refine L_move g103_8 (by decide) ?_
   refine L_bld40_0_1 (s := s100) (rfl : _ = Value.int .i64 (2)) (rfl : _ = Value.int .i64 (x73)) (Vint : V _ _ (2 : Int)) (Vint : V _ _ (x73 : Int)) (by decide) ?_
   intro v105 h106
   refine L_store ty40 g103_2 (rfl : _ = v105) h106 (hx104) ?_
   intro s109 e107 hv108
   have hE110 := Tch.trans hE102 e107 (fun k hk => Or.inr (by subst hk; exact (Nat.le_trans hE0.size hb3)))
   refine L_assign (rfl : _ = Value.int .i64 (0)) (by decide) ?_
   refine L_nil ?_
   refine then_n ?_
   refine W_ret ?_
   obtain rfl := Option.some.inj hr
   exact done_ct (Or.inl rfl) Try.results18 ty40 g103_2 (hv108) rfl (fun v hv => ⟨_, _, rfl, rfl, hE110, _, _, rfl, hv, Vint⟩)

theorem dead_Show_ok (N : Nat) (s0 : St) (w0 : Value) (a0 : List (List Deed)) (h0 : V s0 w0 a0) (a1 : Int) (r : (List Int) × Int) (hr : dead_Show N a0 a1 = some r) :
  Calls Try.prog 22 #[w0, .int .i64 a1] s0.w (Ret s0 fun v s => ∃ a b, v = .tuple #[a, b] ∧ V s a r.1 ∧ V s b r.2) := by
 unfold dead_Show at hr
 have hE0 := Ext.refl s0
 refine Calls_of (n := 19) (args := [w0, .int .i64 a1]) Try.func22 rfl rfl (by simp) ?_
 refine W_seq ?_
 refine W_region ?_
 refine L_assign (rfl : _ = Value.slice none 0 0) (by decide) ?_
 refine L_assign (rfl : _ = Value.int .i64 (0)) (by decide) ?_
 refine L_nil ?_
 refine then_n ?_
 refine W_seq ?_
 refine W_region ?_
 refine L_move (rfl : _ = w0) (by decide) ?_
 refine L_move (rfl : _ = Value.int .i64 (a1)) (by decide) ?_
 obtain ⟨y1, hy2, hr⟩ := bind_some hr
 refine L_calls cal31 (args2 (rfl : _ = w0) (rfl : _ = Value.int .i64 (a1))) (dead_newRun_ok N _ _ _ h0 a1 y1 hy2) (by decide) ?_
 intro v3 s6 e4 hv5
 have hE7 := Tch.ext hE0 e4
 obtain ⟨v8, v9, rfl, hv10, hv11⟩ := hv5
 obtain rfl := hv11.int
 refine L_move (rfl : _ = Value.tuple #[v8, Value.int .i64 (y1.2)]) (by decide) ?_
 refine L_extract (rfl : _ = Value.tuple #[v8, Value.int .i64 (y1.2)]) (k := 0) rfl (by decide) ?_
 refine L_extract (rfl : _ = Value.tuple #[v8, Value.int .i64 (y1.2)]) (k := 1) rfl (by decide) ?_
 refine L_assign (rfl : _ = v8) (by decide) ?_
 refine L_assign (rfl : _ = Value.int .i64 (y1.2)) (by decide) ?_
 refine L_nil ?_
 refine then_n ?_
 refine W_seq ?_
 refine W_seq ?_
 refine W_region ?_
 refine L_move (rfl : _ = Value.int .i64 (y1.2)) (by decide) ?_
 refine L_neq (rfl : _ = Value.int .i64 (y1.2)) (rfl : _ = Value.int .i64 (0)) (by decide) ?_
 refine L_nil ?_
 refine then_n ?_
 refine W_cond _ (rfl : _ = Value.bool (!decide (y1.2 = 0))) (fun hb12 => ?_) (fun hb12 => ?_)
 ·have hr := ite_t hb12 hr
  refine W_seq ?_
  refine W_region ?_
  refine L_move (rfl : _ = Value.int .i64 (y1.2)) (by decide) ?_
  refine L_assign (rfl : _ = Value.slice none 0 0) (by decide) ?_
  refine L_assign (rfl : _ = Value.int .i64 (y1.2)) (by decide) ?_
  refine L_nil ?_
  refine then_n ?_
  refine W_ret ?_
  refine then_r ?_
  obtain rfl := Option.some.inj hr
  exact done2 (Or.inl rfl) Try.results22 rfl rfl ⟨_, _, rfl, rfl, hE7, _, _, rfl, Vnil, Vint⟩
 ·have hr := ite_f hb12 hr
  refine W_skip ?_
  refine then_n ?_
  refine W_seq ?_
  refine W_region ?_
  refine L_move (rfl : _ = v8) (by decide) ?_
  obtain ⟨y13, hy14, hr⟩ := bind_some hr
  obtain ⟨b15, hb16, hs17, ha18⟩ := hv10.open hy14
  obtain ⟨y19, hy20, hr⟩ := bind_some hr
  refine L_calls_mut cal49 (args1 (rfl : _ = v8)) (dead_run_finish_ok N _ _ b15 (Run.with_at_ y13 y13.at_) (hs17.at (fun _ => rfl) (ha18)) (ha18).self y19 hy20) (by decide) ?_
  rintro v21 s25 e22 ⟨hv23, ha24⟩
  have hE26 := Tch.trans hE7 e22 (fun k hk => Or.inr (by subst hk; exact (Nat.le_trans hE0.size hb16)))
  have ha24 := (ha18).back ha24
  obtain ⟨s27, ez28, tz29, fz30⟩ := (ha24).freeze
  rw [← ez28]
  have hE31 := Tch.trans hE26 tz29 (fun k hk => Or.inr (by subst hk; exact (Nat.le_trans hE0.size hb16)))
  refine L_assign (rfl : _ = v21) (by decide) ?_
  refine L_assign (rfl : _ = Value.int .i64 (0)) (by decide) ?_
  refine L_nil ?_
  refine then_n ?_
  refine W_ret ?_
  obtain rfl := Option.some.inj hr
  exact done2 (Or.inl rfl) Try.results22 rfl rfl ⟨_, _, rfl, rfl, hE31, _, _, rfl, (hv23.mono tz29.le), Vint⟩

theorem dead_Blocks_ok (N : Nat) (s0 : St) (w0 : Value) (a0 : List (List Deed)) (h0 : V s0 w0 a0) (a1 : Int) (r : (List Block) × Int) (hr : dead_Blocks N a0 a1 = some r) :
  Calls Try.prog 24 #[w0, .int .i64 a1] s0.w (Ret s0 fun v s => ∃ a b, v = .tuple #[a, b] ∧ V s a r.1 ∧ V s b r.2) := by
 unfold dead_Blocks at hr
 have hE0 := Ext.refl s0
 refine Calls_of (n := 81) (args := [w0, .int .i64 a1]) Try.func24 rfl rfl (by simp) ?_
 refine W_seq ?_
 refine W_region ?_
 refine L_assign (rfl : _ = Value.slice none 0 0) (by decide) ?_
 refine L_assign (rfl : _ = Value.int .i64 (0)) (by decide) ?_
 refine L_nil ?_
 refine then_n ?_
 refine W_seq ?_
 refine W_region ?_
 refine L_move (rfl : _ = w0) (by decide) ?_
 refine L_move (rfl : _ = Value.int .i64 (a1)) (by decide) ?_
 obtain ⟨y1, hy2, hr⟩ := bind_some hr
 refine L_calls cal31 (args2 (rfl : _ = w0) (rfl : _ = Value.int .i64 (a1))) (dead_newRun_ok N _ _ _ h0 a1 y1 hy2) (by decide) ?_
 intro v3 s6 e4 hv5
 have hE7 := Tch.ext hE0 e4
 obtain ⟨v8, v9, rfl, hv10, hv11⟩ := hv5
 obtain rfl := hv11.int
 refine L_move (rfl : _ = Value.tuple #[v8, Value.int .i64 (y1.2)]) (by decide) ?_
 refine L_extract (rfl : _ = Value.tuple #[v8, Value.int .i64 (y1.2)]) (k := 0) rfl (by decide) ?_
 refine L_extract (rfl : _ = Value.tuple #[v8, Value.int .i64 (y1.2)]) (k := 1) rfl (by decide) ?_
 refine L_assign (rfl : _ = v8) (by decide) ?_
 refine L_assign (rfl : _ = Value.int .i64 (y1.2)) (by decide) ?_
 refine L_nil ?_
 refine then_n ?_
 refine W_seq ?_
 refine W_seq ?_
 refine W_region ?_
 refine L_move (rfl : _ = Value.int .i64 (y1.2)) (by decide) ?_
 refine L_neq (rfl : _ = Value.int .i64 (y1.2)) (rfl : _ = Value.int .i64 (0)) (by decide) ?_
 refine L_nil ?_
 refine then_n ?_
 refine W_cond _ (rfl : _ = Value.bool (!decide (y1.2 = 0))) (fun hb12 => ?_) (fun hb12 => ?_)
 ·have hr := ite_t hb12 hr
  refine W_seq ?_
  refine W_region ?_
  refine L_move (rfl : _ = Value.int .i64 (y1.2)) (by decide) ?_
  refine L_assign (rfl : _ = Value.slice none 0 0) (by decide) ?_
  refine L_assign (rfl : _ = Value.int .i64 (y1.2)) (by decide) ?_
  refine L_nil ?_
  refine then_n ?_
  refine W_ret ?_
  refine then_r ?_
  obtain rfl := Option.some.inj hr
  exact done2 (Or.inl rfl) Try.results24 rfl rfl ⟨_, _, rfl, rfl, hE7, _, _, rfl, Vnil, Vint⟩
 ·have hr := ite_f hb12 hr
  refine W_skip ?_
  refine then_n ?_
  refine W_seq ?_
  refine W_region ?_
  refine L_move (rfl : _ = v8) (by decide) ?_
  obtain ⟨y13, hy14, hr⟩ := bind_some hr
  obtain ⟨b15, hb16, hs17, ha18⟩ := hv10.open hy14
  obtain ⟨y19, hy20, hr⟩ := bind_some hr
  refine L_calls_mut cal49 (args1 (rfl : _ = v8)) (dead_run_finish_ok N _ _ b15 (Run.with_at_ y13 y13.at_) (hs17.at (fun _ => rfl) (ha18)) (ha18).self y19 hy20) (by decide) ?_
  rintro v21 s25 e22 ⟨hv23, ha24⟩
  have hE26 := Tch.trans hE7 e22 (fun k hk => Or.inr (by subst hk; exact (Nat.le_trans hE0.size hb16)))
  have ha24 := (ha18).back ha24
  obtain ⟨s27, ez28, tz29, fz30⟩ := (ha24).freeze
  rw [← ez28]
  have hE31 := Tch.trans hE26 tz29 (fun k hk => Or.inr (by subst hk; exact (Nat.le_trans hE0.size hb16)))
  refine L_nil ?_
  refine then_n ?_
  refine W_seq ?_
  refine W_region ?_
  refine L_assign (rfl : _ = Value.slice none 0 0) (by decide) ?_
  refine L_nil ?_
  refine then_n ?_
  refine W_seq ?_
  refine W_seq ?_
  refine W_region ?_
  refine L_move (rfl : _ = v8) (by decide) ?_
  refine L_nilCheck_ptr (rfl : _ = v8) ((hs17.mono (e22.le.trans tz29.le)).ptr fz30) (by decide) ?_
  refine L_fieldAddr fld72_2 Run.of_at_ (rfl : _ = v8) ((hs17.mono (e22.le.trans tz29.le)).ptr fz30) (by decide) ?_
  intro p32 hp33
  refine L_load ty23 (rfl : _ = p32) hp33 (by decide) ?_
  intro v34 hv35
  refine L_len Try.underlying23 (rfl : _ = v34) hv35 (by decide) ?_
  refine L_move (rfl : _ = Value.int .i64 (0)) (by decide) ?_
  refine L_nil ?_
  refine then_n ?_
  obtain ⟨o41, ho42, hq44⟩ := bind_some hr
  refine W_cut (fun f w => ∃ (s : St) (v40 : Value) (x39 : List Block), s.w = w ∧ Ext s0 s ∧ Le s27 s ∧ x39 = o41 ∧ f 8 = v40 ∧ Bld s s0.w.heap.size 58 v40 x39) ?_ ?_
  ·refine W_block ?_
   refine W_loop (fun m f w => ∃ (s : St) (v37 : Value) (x36 : List Block) (x38 : Int), s.w = w ∧ Ext s0 s ∧ Le s27 s ∧ dead_Blocks_l1 N a0 y13 y19 m x36 x38 = some o41 ∧ f 8 = v37 ∧ Bld s s0.w.heap.size 58 v37 x36 ∧ f 29 = Value.int .i64 x38 ∧ f 0 = w0 ∧ f 6 = v8 ∧ f 27 = v34 ∧ f 28 = Value.int .i64 ((((Run.with_at_ y13 y19.2).at_).length : Int))) N ⟨s27, (Value.slice none 0 0), ([]), 0, rfl, hE31, (Le.refl _), ho42, rfl, Bld.nil, rfl, rfl, rfl, rfl, rfl⟩ ?_
   rintro m43 f396 w397 ⟨s46, v37, x36, x38, rfl, hE48, l47, hr, g49_8, hb50, g49_29, g49_0, g49_6, g49_27, g49_28⟩
   cases m43 with
   | zero => exact absurd hr (by simp [dead_Blocks_l1])
   | succ m43 =>
    rw [dead_Blocks_l1.eq_2] at hr
    refine W_seq ?_
    refine W_region ?_
    refine L_lss g49_29 g49_28 (by decide) ?_
    refine L_nil ?_
    refine then_n ?_
    refine W_seq ?_
    refine W_cond _ (rfl : _ = Value.bool (decide (x38 < (((Run.with_at_ y13 y19.2).at_).length : Int)))) (fun hb51 => ?_) (fun hb51 => ?_)
    ·have hr := ite_t hb51 hr
     refine W_skip ?_
     refine then_n ?_
     refine W_seq ?_
     refine W_block ?_
     refine W_seq ?_
     refine W_region ?_
     refine L_move g49_29 (by decide) ?_
     obtain ⟨y52, hy53, hr⟩ := bind_some hr
     refine L_index Try.underlying23 ty3.inf g49_27 (hv35.mono l47) g49_29 hy53 (by decide) ?_
     intro p54 hp55
     refine L_load_int ty3 (rfl : _ = p54) hp55 (by decide) ?_
     refine L_assign (rfl : _ = Value.int .i64 (x38)) (by decide) ?_
     refine L_assign (rfl : _ = Value.int .i64 (y52)) (by decide) ?_
     refine L_nil ?_
     refine then_n ?_
     refine W_seq ?_
     refine W_seq ?_
     refine W_region ?_
     refine L_move (rfl : _ = Value.int .i64 (y52)) (by decide) ?_
     refine L_move g49_0 (by decide) ?_
     refine L_move (rfl : _ = Value.int .i64 (x38)) (by decide) ?_
     obtain ⟨y56, hy57, hr⟩ := bind_some hr
     refine L_index Try.underlying29 ty59.inf (rfl : _ = w0) (h0.mono (e4.le.trans (e22.le.trans (tz29.le.trans l47)))) (rfl : _ = Value.int .i64 (x38)) hy57 (by decide) ?_
     intro p58 hp59
     refine L_load ty59 (rfl : _ = p58) hp59 (by decide) ?_
     intro v60 hv61
     refine L_len Try.underlying59 (rfl : _ = v60) hv61 (by decide) ?_
     refine L_eql (rfl : _ = Value.int .i64 (y52)) (rfl : _ = Value.int .i64 ((y56.length : Int))) (by decide) ?_
     refine L_nil ?_
     refine then_n ?_
     refine W_cond _ (rfl : _ = Value.bool (decide (y52 = (y56.length : Int)))) (fun hb62 => ?_) (fun hb62 => ?_)
     ·have hr := ite_t hb62 hr
      refine W_exit ?_
      refine then_x ?_
      refine block_here ?_
      refine then_n ?_
      refine W_region ?_
      obtain ⟨hc63, hr⟩ := chk_some hr
      refine L_add g49_29 (rfl : _ = Value.int .i64 (1)) hc63 (by decide) ?_
      refine L_move (rfl : _ = Value.int .i64 (x38 + 1)) (by decide) ?_
      refine L_nil ?_
      exact then_n ⟨m43, Nat.lt_succ_self _, ⟨s46, v37, x36, (x38 + 1), rfl, hE48, l47, hr, g49_8, hb50, rfl, g49_0, g49_6, g49_27, g49_28⟩⟩
     ·have hr := ite_f hb62 hr
      refine W_skip ?_
      refine then_n ?_
      refine W_seq ?_
      refine W_region ?_
      refine L_move g49_0 (by decide) ?_
      refine L_move (rfl : _ = Value.int .i64 (x38)) (by decide) ?_
      obtain ⟨y64, hy65, hr⟩ := bind_some hr
      refine L_index Try.underlying29 ty59.inf (rfl : _ = w0) (h0.mono (e4.le.trans (e22.le.trans (tz29.le.trans l47)))) (rfl : _ = Value.int .i64 (x38)) hy65 (by decide) ?_
      intro p66 hp67
      refine L_load ty59 (rfl : _ = p66) hp67 (by decide) ?_
      intro v68 hv69
      refine L_move (rfl : _ = Value.int .i64 (y52)) (by decide) ?_
      obtain ⟨y70, hy71, hr⟩ := bind_some hr
      refine L_index Try.underlying59 ty64.inf (rfl : _ = v68) hv69 (rfl : _ = Value.int .i64 (y52)) hy71 (by decide) ?_
      intro p72 hp73
      refine L_load ty64 (rfl : _ = p72) hp73 (by decide) ?_
      intro v74 hv75
      refine L_alloc (α := Deed) (x := ⟨0, 0, 0, 0, false⟩) zero64 Deed.zero_rel (by decide) ?_
      intro s80 b77 e76 hb78 hv79
      have hE81 := Tch.ext hE48 e76
      have ap82 : ∀ k, (own v37) k → ¬ (fun k => k = b77) k := fun k h1 h2 => by have h3 := (fun k hk => ((hb50).lt hk).2) k h1; have h4 := hb78; subst h2; omega
      refine L_store ty64 (rfl : _ = Value.pointer (some ⟨b77, 0, none⟩)) (rfl : _ = v74) (hv75.mono e76.le) (hv79) ?_
      intro s85 e83 hv84
      have hE86 := Tch.trans hE81 e83 (fun k hk => Or.inr (by subst hk; exact (Nat.le_trans hE48.size hb78)))
      refine L_nil ?_
      refine then_n ?_
      refine W_seq ?_
      refine W_seq ?_
      refine W_region ?_
      refine L_fieldAddr_var fld64_0 (rfl : _ = Value.pointer (some ⟨b77, 0, none⟩)) (by decide) ?_
      refine L_load_field ty3 Deed.of_Kind (rfl : _ = Value.pointer (some ⟨b77, 0, none⟩)) (hv84) (by decide) ?_
      intro v87 hv88
      obtain rfl := hv88.int
      refine L_eql (rfl : _ = Value.int .i64 (y70.Kind)) (rfl : _ = Value.int .i64 (5)) (by decide) ?_
      refine L_nil ?_
      refine then_n ?_
      refine W_cond _ (rfl : _ = Value.bool (decide (y70.Kind = 5))) (fun hb89 => ?_) (fun hb89 => ?_)
      ·have hr := ite_t hb89 hr
       obtain ⟨y90, hy91, hr⟩ := bind_some hr
       obtain ⟨y98, hy99, hr⟩ := bind_some hr
       obtain ⟨y105, hy106, hr⟩ := bind_some hr
       refine W_drawP mixed 12 [PX.data (a0 : List (List Deed)), PX.eq (Value.int .i64 (x38)), PX.ptr (y90 : List Deed), PX.data (y90 : List Deed), PX.ptr ((Run.with_at_ y13 y19.2) : Run), PX.eq (Value.int .i64 (x38)), PX.eq (Value.pointer (some ⟨b77, 3, none⟩)), PX.eq (Value.int .i64 (y70.Req)), PX.eq (Value.int .i64 (y98)), PX.ptr (y105 : Deed), PX.data (y105 : Deed), PX.var s0.w.heap.size 64 (y105 : Deed), PX.var s0.w.heap.size 64 (y70 : Deed)] [51, 52, 53, 54, 55, 56, 57, 58, 59, 60, 61, 11, 11] [[], [], [], [], [], [], [], [], [], [], [], [12]] rfl (by kernel_rfl) (ent1 rfl ⟨b77, rfl, (Nat.le_trans hE48.size hb78), hv84⟩) (dis1 rfl) (StepsX_cons ?_ (StepsX_cons ?_ (StepsX_cons ?_ (StepsX_cons ?_ (StepsX_cons ?_ (StepsX_cons ?_ (StepsX_cons ?_ (StepsX_cons ?_ (StepsX_cons ?_ (StepsX_cons ?_ (StepsX_cons ?_ (StepsX_cons ?_ StepsX_nil)))))))))))) ?_
       ·intro f117 s115 hT116 hA118 hB119 Q hk120
        have ha121 : f117 0 = w0 := (hB119 0 (by kernel_rfl)).trans g49_0
        refine L_move ha121 (by decide) ?_
        exact L_nil (hk120 _ _ No (Ext.refl s115) (fun _ h => h.elim) (h0.mono (e4.le.trans (e22.le.trans (tz29.le.trans (l47.trans (e76.le.trans (e83.le.trans hT116.le))))))) (fun _ h => h.elim))
       ·intro f124 s122 hT123 hA125 hB126 Q hk127
        have ha128 : f124 9 = Value.int .i64 (x38) := (hB126 9 (by kernel_rfl)).trans rfl
        refine L_move ha128 (by decide) ?_
        exact L_nil (hk127 _ _ No (Ext.refl s122) (fun _ h => h.elim) rfl (fun _ h => h.elim))
       ·intro f131 s129 hT130 hA132 hB133 Q hk134
        have ha135 : V _ (f131 51) (a0 : List (List Deed)) := hA132 0 (by kernel_rfl) (by show _ < 13; decide)
        obtain ⟨v136, q137, hv138⟩ : ∃ v, _ = v ∧ V _ v _ := ⟨_, rfl, ha135⟩
        have ha139 : f131 52 = Value.int .i64 (x38) := hA132 1 (by kernel_rfl) (by show _ < 13; decide)
        refine L_index Try.underlying29 ty59.inf q137 hv138 ha139 hy91 (by decide) ?_
        intro p92 hp93
        exact L_nil (hk134 _ _ No (Ext.refl s129) (fun _ h => h.elim) hp93 (fun _ h => h.elim))
       ·intro f142 s140 hT141 hA143 hB144 Q hk145
        have ha146 : Ptr _ (f142 53) (y90 : List Deed) := hA143 2 (by kernel_rfl) (by show _ < 13; decide)
        obtain ⟨v147, q148, hv149⟩ : ∃ v, _ = v ∧ Ptr _ v _ := ⟨_, rfl, ha146⟩
        refine L_load ty59 q148 hv149 (by decide) ?_
        intro v94 hv95
        exact L_nil (hk145 _ _ No (Ext.refl s140) (fun _ h => h.elim) hv95 (fun _ h => h.elim))
       ·intro f152 s150 hT151 hA153 hB154 Q hk155
        have ha156 : f152 6 = v8 := (hB154 6 (by kernel_rfl)).trans g49_6
        refine L_move ha156 (by decide) ?_
        exact L_nil (hk155 _ _ No (Ext.refl s150) (fun _ h => h.elim) (((hs17.mono (e22.le.trans tz29.le)).ptr fz30).mono (l47.trans (e76.le.trans (e83.le.trans hT151.le)))) (fun _ h => h.elim))
       ·intro f159 s157 hT158 hA160 hB161 Q hk162
        have ha163 : f159 9 = Value.int .i64 (x38) := (hB161 9 (by kernel_rfl)).trans rfl
        refine L_move ha163 (by decide) ?_
        exact L_nil (hk162 _ _ No (Ext.refl s157) (fun _ h => h.elim) rfl (fun _ h => h.elim))
       ·intro f166 s164 hT165 hA167 hB168 Q hk169
        obtain ⟨b171, q172, hb173, hv174⟩ : ∃ b, f166 11 = Value.pointer (some ⟨b, 0, none⟩) ∧ s0.w.heap.size ≤ b ∧ Var s164 b 64 (y70 : Deed) := hA167 12 (by kernel_rfl) (by show _ < 13; decide)
        have ha175 : f166 11 = Value.pointer (some ⟨b77, 0, none⟩) := (hB168 11 (by kernel_rfl)).trans rfl
        have ha175e : b171 = b77 := by have h3 := q172.symm.trans ha175; cases h3; rfl
        rw [ha175e] at hb173 hv174
        refine L_fieldAddr_var fld64_3 ha175 (by decide) ?_
        exact L_nil (hk169 _ _ No (Ext.refl s164) (fun _ h => h.elim) rfl (fun _ h => h.elim))
       ·intro f178 s176 hT177 hA179 hB180 Q hk181
        obtain ⟨b183, q184, hb185, hv186⟩ : ∃ b, f178 11 = Value.pointer (some ⟨b, 0, none⟩) ∧ s0.w.heap.size ≤ b ∧ Var s176 b 64 (y70 : Deed) := hA179 12 (by kernel_rfl) (by show _ < 13; decide)
        have ha187 : f178 11 = Value.pointer (some ⟨b77, 0, none⟩) := (hB180 11 (by kernel_rfl)).trans rfl
        have ha187e : b183 = b77 := by have h3 := q184.symm.trans ha187; cases h3; rfl
        rw [ha187e] at hb185 hv186
        have ha188 : f178 57 = Value.pointer (some ⟨b77, 3, none⟩) := hA179 6 (by kernel_rfl) (by show _ < 13; decide)
        refine L_load_field ty3 Deed.of_Req ha188 (hv186) (by decide) ?_
        intro v96 hv97
        obtain rfl := hv97.int
        exact L_nil (hk181 _ _ No (Ext.refl s176) (fun _ h => h.elim) rfl (fun _ h => h.elim))
       ·intro f191 s189 hT190 hA192 hB193 Q hk194
        have ha195 : Ptr _ (f191 55) ((Run.with_at_ y13 y19.2) : Run) := hA192 4 (by kernel_rfl) (by show _ < 13; decide)
        obtain ⟨v196, q197, hv198⟩ : ∃ v, _ = v ∧ Ptr _ v _ := ⟨_, rfl, ha195⟩
        have ha199 : f191 56 = Value.int .i64 (x38) := hA192 5 (by kernel_rfl) (by show _ < 13; decide)
        have ha200 : f191 58 = Value.int .i64 (y70.Req) := hA192 7 (by kernel_rfl) (by show _ < 13; decide)
        refine L_calls cal50 (args3 q197 ha199 ha200) (dead_run_request_ok N _ _ _ hv198 x38 y70.Req y98 hy99) (by decide) ?_
        intro v100 s103 e101 hv102
        have hE104 := Tch.ext (Ext.refl s189) e101
        obtain rfl := hv102.int
        exact L_nil (hk194 _ _ No hE104 (fun _ h => h.elim) rfl (fun _ h => h.elim))
       ·intro f203 s201 hT202 hA204 hB205 Q hk206
        have ha207 : V _ (f203 54) (y90 : List Deed) := hA204 3 (by kernel_rfl) (by show _ < 13; decide)
        obtain ⟨v208, q209, hv210⟩ : ∃ v, _ = v ∧ V _ v _ := ⟨_, rfl, ha207⟩
        have ha211 : f203 59 = Value.int .i64 (y98) := hA204 8 (by kernel_rfl) (by show _ < 13; decide)
        refine L_index Try.underlying59 ty64.inf q209 hv210 ha211 hy106 (by decide) ?_
        intro p107 hp108
        exact L_nil (hk206 _ _ No (Ext.refl s201) (fun _ h => h.elim) hp108 (fun _ h => h.elim))
       ·intro f214 s212 hT213 hA215 hB216 Q hk217
        have ha218 : Ptr _ (f214 60) (y105 : Deed) := hA215 9 (by kernel_rfl) (by show _ < 13; decide)
        obtain ⟨v219, q220, hv221⟩ : ∃ v, _ = v ∧ Ptr _ v _ := ⟨_, rfl, ha218⟩
        refine L_load ty64 q220 hv221 (by decide) ?_
        intro v109 hv110
        exact L_nil (hk217 _ _ No (Ext.refl s212) (fun _ h => h.elim) hv110 (fun _ h => h.elim))
       ·intro f224 s222 hT223 hA225 hB226 Q hk227
        obtain ⟨b229, q230, hb231, hv232⟩ : ∃ b, f224 11 = Value.pointer (some ⟨b, 0, none⟩) ∧ s0.w.heap.size ≤ b ∧ Var s222 b 64 (y70 : Deed) := hA225 12 (by kernel_rfl) (by show _ < 13; decide)
        have ha233 : f224 11 = Value.pointer (some ⟨b77, 0, none⟩) := (hB226 11 (by kernel_rfl)).trans rfl
        have ha233e : b229 = b77 := by have h3 := q230.symm.trans ha233; cases h3; rfl
        rw [ha233e] at hb231 hv232
        have ha234 : V _ (f224 61) (y105 : Deed) := hA225 10 (by kernel_rfl) (by show _ < 13; decide)
        obtain ⟨v235, q236, hv237⟩ : ∃ v, _ = v ∧ V _ v _ := ⟨_, rfl, ha234⟩
        refine L_store ty64 ha233 q236 hv237 (hv232) ?_
        intro s113 e111 hv112
        exact L_nil (hk227 undef _ _ e111 (fun k h => ⟨12, (List.mem_singleton.2 rfl : (12 : Nat) ∈ [12]), (by show ownP (f224 11) k; rw [ha233]; exact congrArg (fun z => Value.pointer (some ⟨z, 0, none⟩)) h.symm)⟩) ⟨_, ha233, hb231, hv112⟩ (fun k h => Or.inl ⟨12, (List.mem_singleton.2 rfl : (12 : Nat) ∈ [12]), h⟩))
       ·intro f240 s238 hT239 hP241 hD242 hB243
        have hE244 := Tch.trans hE86 hT239 (fun k h => Or.inr (by have h2 := ent_is (k := 12) rfl rfl h; have h3 := Eq.mp (congrArg (fun v => ownP v k) (rfl : _ = Value.pointer (some ⟨b77, 0, none⟩))) h2; cases h3; exact (Nat.le_trans hE48.size hb78)))
        obtain ⟨b245, q246, hb247, hv248⟩ : ∃ b, f240 11 = Value.pointer (some ⟨b, 0, none⟩) ∧ s0.w.heap.size ≤ b ∧ Var s238 b 64 (y105 : Deed) := hP241 11 (by show _ < 13; decide) (by kernel_rfl)
        have ha249 : f240 11 = Value.pointer (some ⟨b77, 0, none⟩) := (hB243 11 (by kernel_rfl)).trans rfl
        have ha249e : b245 = b77 := by have h3 := q246.symm.trans ha249; cases h3; rfl
        rw [ha249e] at hb247 hv248
        have ha250 : f240 0 = w0 := (hB243 0 (by kernel_rfl)).trans g49_0
        have ha251 : f240 6 = v8 := (hB243 6 (by kernel_rfl)).trans g49_6
        have ha252 : f240 8 = v37 := (hB243 8 (by kernel_rfl)).trans g49_8
        have ha253 : f240 9 = Value.int .i64 (x38) := (hB243 9 (by kernel_rfl)).trans rfl
        have ha254 : f240 10 = Value.int .i64 (y52) := (hB243 10 (by kernel_rfl)).trans rfl
        have ha255 : f240 27 = v34 := (hB243 27 (by kernel_rfl)).trans g49_27
        have ha256 : f240 28 = Value.int .i64 ((((Run.with_at_ y13 y19.2).at_).length : Int)) := (hB243 28 (by kernel_rfl)).trans g49_28
        have ha257 : f240 29 = Value.int .i64 (x38) := (hB243 29 (by kernel_rfl)).trans g49_29
        refine then_n ?_
        refine W_seq ?_
        refine W_region ?_
        refine L_move ha253 (by decide) ?_
        refine L_move ha254 (by decide) ?_
        refine L_fieldAddr_var fld64_1 ha249 (by decide) ?_
        refine L_load_field ty3 Deed.of_Peer (rfl : _ = Value.pointer (some ⟨b77, 1, none⟩)) (hv248) (by decide) ?_
        intro v258 hv259
        obtain rfl := hv259.int
        refine L_buildSlice (xs := ([y105.Peer] : List Int)) Try.underlying23 tyz3 (Parts_cons rfl (rfl : _ = Value.int .i64 (y105.Peer)) Parts_nil) (Vs.cons Vint Vs.nil) rfl (by decide) (by decide) ?_
        intro s264 v261 e260 hb262 hv263
        have hE265 := Tch.ext hE244 e260
        refine L_bld58_0_1_2 (s := s264) (rfl : _ = Value.int .i64 (x38)) (rfl : _ = Value.int .i64 (y52)) (rfl : _ = v261) (Vint : V _ _ (x38 : Int)) (Vint : V _ _ (y52 : Int)) (hv263 : V _ _ (([y105.Peer] : List Int) : List Int)) (by decide) ?_
        intro v266 h267
        refine L_alloc (α := Block) (x := ⟨0, 0, []⟩) zero58 Block.zero_rel (by decide) ?_
        intro s272 b269 e268 hb270 hv271
        have hE273 := Tch.ext hE265 e268
        have ap274 : ∀ k, (own v37) k → ¬ (fun k => k = b269) k := fun k h1 h2 => by have h3 := (fun k hk => ((((((hb50).ext e76).tch e83 (fun k hk => ap82 k hk)).tch hT239 (fun k hx => ent_one (k := 12) rfl rfl (fun h2 => by have h3 := Eq.mp (congrArg (fun v => ownP v k) (rfl : _ = Value.pointer (some ⟨b77, 0, none⟩))) h2; cases h3; exact (fun k hk => ap82 k hk) _ hx rfl))).ext e260).lt hk).2) k h1; have h4 := hb270; subst h2; omega
        have ap275 : ∀ k, (fun k => k = b77) k → ¬ (fun k => k = b269) k := fun k h1 h2 => by have h3 := (fun k (hk : k = b77) => lt_at hk ((hv248).ext e260).lt) k h1; have h4 := hb270; subst h2; omega
        refine L_store ty58 (rfl : _ = Value.pointer (some ⟨b269, 0, none⟩)) (rfl : _ = v266) (h267.mono e268.le) (hv271) ?_
        intro s278 e276 hv277
        have hE279 := Tch.trans hE273 e276 (fun k hk => Or.inr (by subst hk; exact (Nat.le_trans hE265.size hb270)))
        refine L_nil ?_
        refine then_n ?_
        refine W_seq ?_
        refine W_seq ?_
        refine W_region ?_
        refine L_fieldAddr_var fld64_0 ha249 (by decide) ?_
        refine L_load_field ty3 Deed.of_Kind (rfl : _ = Value.pointer (some ⟨b77, 0, none⟩)) ((((hv248).ext e260).ext e268).tch e276 ((fun k hk => ap275 k hk) b77 rfl)) (by decide) ?_
        intro v280 hv281
        obtain rfl := hv281.int
        refine L_eql (rfl : _ = Value.int .i64 (y105.Kind)) (rfl : _ = Value.int .i64 (6)) (by decide) ?_
        refine L_nil ?_
        refine then_n ?_
        refine W_cond _ (rfl : _ = Value.bool (decide (y105.Kind = 6))) (fun hb282 => ?_) (fun hb282 => ?_)
        ·have hr := ite_t hb282 hr
         refine W_region ?_
         refine L_move ha251 (by decide) ?_
         refine L_move ha253 (by decide) ?_
         obtain ⟨y283, hy284, hr⟩ := bind_some hr
         refine L_calls cal51 (args2 (rfl : _ = v8) (rfl : _ = Value.int .i64 (x38))) (dead_run_late_ok N _ _ _ (((hs17.mono (e22.le.trans tz29.le)).ptr fz30).mono (l47.trans (e76.le.trans (e83.le.trans (hT239.le.trans (e260.le.trans (e268.le.trans e276.le))))))) x38 y283 hy284) (by decide) ?_
         intro v285 s288 e286 hv287
         have hE289 := Tch.ext hE279 e286
         refine L_fieldAddr_var fld58_2 (rfl : _ = Value.pointer (some ⟨b269, 0, none⟩)) (by decide) ?_
         refine L_store_field ty23 Block.set_For (rfl : _ = Value.pointer (some ⟨b269, 2, none⟩)) (rfl : _ = v285) hv287 ((hv277).ext e286) ?_
         intro s292 e290 hv291
         have hE293 := Tch.trans hE289 e290 (fun k hk => Or.inr (by subst hk; exact (Nat.le_trans hE265.size hb270)))
         refine L_nil ?_
         refine then_n ?_
         refine W_region ?_
         refine L_move ha252 (by decide) ?_
         refine L_load_var ty58 (rfl : _ = Value.pointer (some ⟨b269, 0, none⟩)) (hv291) (by decide) ?_
         intro v294 hv295
         refine L_buildSlice (xs := ([(Block.with_For (⟨x38, y52, ([y105.Peer] : List Int)⟩ : Block) y283)] : List Block)) Try.underlying53 tyz58 (Parts_cons rfl (rfl : _ = v294) Parts_nil) (Vs.cons hv295 Vs.nil) rfl (by decide) (by decide) ?_
         intro s300 v297 e296 hb298 hv299
         have hE301 := Tch.ext hE293 e296
         obtain ⟨hc302, hr⟩ := chk_some hr
         refine L_append (xs := x36) (B := s0.w.heap.size) Try.underlying53 tyz58 (rfl : _ = v37) (rfl : _ = v297) ((((((((((hb50).ext e76).tch e83 (fun k hk => ap82 k hk)).tch hT239 (fun k hx => ent_one (k := 12) rfl rfl (fun h2 => by have h3 := Eq.mp (congrArg (fun v => ownP v k) (rfl : _ = Value.pointer (some ⟨b77, 0, none⟩))) h2; cases h3; exact (fun k hk => ap82 k hk) _ hx rfl))).ext e260).ext e268).tch e276 (fun k hk => ap274 k hk)).ext e286).tch e290 (fun k hk => ap274 k hk)).ext e296) (hE301.size) hv299 hc302.1 hc302.2 (by decide) ?_
         intro v303 s305 g304
         have hE306 := g304.tchM ((((((((((hb50).ext e76).tch e83 (fun k hk => ap82 k hk)).tch hT239 (fun k hx => ent_one (k := 12) rfl rfl (fun h2 => by have h3 := Eq.mp (congrArg (fun v => ownP v k) (rfl : _ = Value.pointer (some ⟨b77, 0, none⟩))) h2; cases h3; exact (fun k hk => ap82 k hk) _ hx rfl))).ext e260).ext e268).tch e276 (fun k hk => ap274 k hk)).ext e286).tch e290 (fun k hk => ap274 k hk)).ext e296) hE301 (Nat.le_refl _)
         refine L_assign (rfl : _ = v303) (by decide) ?_
         refine L_nil ?_
         refine block_n ?_
         refine then_n ?_
         refine W_region ?_
         obtain ⟨hc309, hr⟩ := chk_some hr
         refine L_add ha257 (rfl : _ = Value.int .i64 (1)) hc309 (by decide) ?_
         refine L_move (rfl : _ = Value.int .i64 (x38 + 1)) (by decide) ?_
         refine L_nil ?_
         exact then_n ⟨m43, Nat.lt_succ_self _, ⟨s305, v303, (x36 ++ ([(Block.with_For (⟨x38, y52, ([y105.Peer] : List Int)⟩ : Block) y283)] : List Block)), (x38 + 1), rfl, hE306, (l47.trans (e76.le.trans (e83.le.trans (hT239.le.trans (e260.le.trans (e268.le.trans (e276.le.trans (e286.le.trans (e290.le.trans (e296.le.trans g304.tch.le)))))))))), hr, rfl, g304.bld, rfl, ha250, ha251, ha255, ha256⟩⟩
        ·have hr := ite_f hb282 hr
         refine W_skip ?_
         refine then_n ?_
         refine W_region ?_
         refine L_move ha252 (by decide) ?_
         refine L_load_var ty58 (rfl : _ = Value.pointer (some ⟨b269, 0, none⟩)) (hv277) (by decide) ?_
         intro v310 hv311
         refine L_buildSlice (xs := ([(⟨x38, y52, ([y105.Peer] : List Int)⟩ : Block)] : List Block)) Try.underlying53 tyz58 (Parts_cons rfl (rfl : _ = v310) Parts_nil) (Vs.cons hv311 Vs.nil) rfl (by decide) (by decide) ?_
         intro s316 v313 e312 hb314 hv315
         have hE317 := Tch.ext hE279 e312
         obtain ⟨hc318, hr⟩ := chk_some hr
         refine L_append (xs := x36) (B := s0.w.heap.size) Try.underlying53 tyz58 (rfl : _ = v37) (rfl : _ = v313) ((((((((hb50).ext e76).tch e83 (fun k hk => ap82 k hk)).tch hT239 (fun k hx => ent_one (k := 12) rfl rfl (fun h2 => by have h3 := Eq.mp (congrArg (fun v => ownP v k) (rfl : _ = Value.pointer (some ⟨b77, 0, none⟩))) h2; cases h3; exact (fun k hk => ap82 k hk) _ hx rfl))).ext e260).ext e268).tch e276 (fun k hk => ap274 k hk)).ext e312) (hE317.size) hv315 hc318.1 hc318.2 (by decide) ?_
         intro v319 s321 g320
         have hE322 := g320.tchM ((((((((hb50).ext e76).tch e83 (fun k hk => ap82 k hk)).tch hT239 (fun k hx => ent_one (k := 12) rfl rfl (fun h2 => by have h3 := Eq.mp (congrArg (fun v => ownP v k) (rfl : _ = Value.pointer (some ⟨b77, 0, none⟩))) h2; cases h3; exact (fun k hk => ap82 k hk) _ hx rfl))).ext e260).ext e268).tch e276 (fun k hk => ap274 k hk)).ext e312) hE317 (Nat.le_refl _)
         refine L_assign (rfl : _ = v319) (by decide) ?_
         refine L_nil ?_
         refine block_n ?_
         refine then_n ?_
         refine W_region ?_
         obtain ⟨hc325, hr⟩ := chk_some hr
         refine L_add ha257 (rfl : _ = Value.int .i64 (1)) hc325 (by decide) ?_
         refine L_move (rfl : _ = Value.int .i64 (x38 + 1)) (by decide) ?_
         refine L_nil ?_
         exact then_n ⟨m43, Nat.lt_succ_self _, ⟨s321, v319, (x36 ++ ([(⟨x38, y52, ([y105.Peer] : List Int)⟩ : Block)] : List Block)), (x38 + 1), rfl, hE322, (l47.trans (e76.le.trans (e83.le.trans (hT239.le.trans (e260.le.trans (e268.le.trans (e276.le.trans (e312.le.trans g320.tch.le)))))))), hr, rfl, g320.bld, rfl, ha250, ha251, ha255, ha256⟩⟩
      ·have hr := ite_f hb89 hr
       refine W_skip ?_
       refine then_n ?_
       refine W_seq ?_
       refine W_region ?_
       refine L_move (rfl : _ = Value.int .i64 (x38)) (by decide) ?_
       refine L_move (rfl : _ = Value.int .i64 (y52)) (by decide) ?_
       refine L_fieldAddr_var fld64_1 (rfl : _ = Value.pointer (some ⟨b77, 0, none⟩)) (by decide) ?_
       refine L_load_field ty3 Deed.of_Peer (rfl : _ = Value.pointer (some ⟨b77, 1, none⟩)) (hv84) (by decide) ?_
       intro v326 hv327
       obtain rfl := hv327.int
       refine L_buildSlice (xs := ([y70.Peer] : List Int)) Try.underlying23 tyz3 (Parts_cons rfl (rfl : _ = Value.int .i64 (y70.Peer)) Parts_nil) (Vs.cons Vint Vs.nil) rfl (by decide) (by decide) ?_
       intro s332 v329 e328 hb330 hv331
       have hE333 := Tch.ext hE86 e328
       refine L_bld58_0_1_2 (s := s332) (rfl : _ = Value.int .i64 (x38)) (rfl : _ = Value.int .i64 (y52)) (rfl : _ = v329) (Vint : V _ _ (x38 : Int)) (Vint : V _ _ (y52 : Int)) (hv331 : V _ _ (([y70.Peer] : List Int) : List Int)) (by decide) ?_
       intro v334 h335
       refine L_alloc (α := Block) (x := ⟨0, 0, []⟩) zero58 Block.zero_rel (by decide) ?_
       intro s340 b337 e336 hb338 hv339
       have hE341 := Tch.ext hE333 e336
       have ap342 : ∀ k, (own v37) k → ¬ (fun k => k = b337) k := fun k h1 h2 => by have h3 := (fun k hk => (((((hb50).ext e76).tch e83 (fun k hk => ap82 k hk)).ext e328).lt hk).2) k h1; have h4 := hb338; subst h2; omega
       have ap343 : ∀ k, (fun k => k = b77) k → ¬ (fun k => k = b337) k := fun k h1 h2 => by have h3 := (fun k (hk : k = b77) => lt_at hk ((hv84).ext e328).lt) k h1; have h4 := hb338; subst h2; omega
       refine L_store ty58 (rfl : _ = Value.pointer (some ⟨b337, 0, none⟩)) (rfl : _ = v334) (h335.mono e336.le) (hv339) ?_
       intro s346 e344 hv345
       have hE347 := Tch.trans hE341 e344 (fun k hk => Or.inr (by subst hk; exact (Nat.le_trans hE333.size hb338)))
       refine L_nil ?_
       refine then_n ?_
       refine W_seq ?_
       refine W_seq ?_
       refine W_region ?_
       refine L_fieldAddr_var fld64_0 (rfl : _ = Value.pointer (some ⟨b77, 0, none⟩)) (by decide) ?_
       refine L_load_field ty3 Deed.of_Kind (rfl : _ = Value.pointer (some ⟨b77, 0, none⟩)) ((((hv84).ext e328).ext e336).tch e344 ((fun k hk => ap343 k hk) b77 rfl)) (by decide) ?_
       intro v348 hv349
       obtain rfl := hv349.int
       refine L_eql (rfl : _ = Value.int .i64 (y70.Kind)) (rfl : _ = Value.int .i64 (6)) (by decide) ?_
       refine L_nil ?_
       refine then_n ?_
       refine W_cond _ (rfl : _ = Value.bool (decide (y70.Kind = 6))) (fun hb350 => ?_) (fun hb350 => ?_)
       ·have hr := ite_t hb350 hr
        refine W_region ?_
        refine L_move g49_6 (by decide) ?_
        refine L_move (rfl : _ = Value.int .i64 (x38)) (by decide) ?_
        obtain ⟨y351, hy352, hr⟩ := bind_some hr
        refine L_calls cal51 (args2 (rfl : _ = v8) (rfl : _ = Value.int .i64 (x38))) (dead_run_late_ok N _ _ _ (((hs17.mono (e22.le.trans tz29.le)).ptr fz30).mono (l47.trans (e76.le.trans (e83.le.trans (e328.le.trans (e336.le.trans e344.le)))))) x38 y351 hy352) (by decide) ?_
        intro v353 s356 e354 hv355
        have hE357 := Tch.ext hE347 e354
        refine L_fieldAddr_var fld58_2 (rfl : _ = Value.pointer (some ⟨b337, 0, none⟩)) (by decide) ?_
        refine L_store_field ty23 Block.set_For (rfl : _ = Value.pointer (some ⟨b337, 2, none⟩)) (rfl : _ = v353) hv355 ((hv345).ext e354) ?_
        intro s360 e358 hv359
        have hE361 := Tch.trans hE357 e358 (fun k hk => Or.inr (by subst hk; exact (Nat.le_trans hE333.size hb338)))
        refine L_nil ?_
        refine then_n ?_
        refine W_region ?_
        refine L_move g49_8 (by decide) ?_
        refine L_load_var ty58 (rfl : _ = Value.pointer (some ⟨b337, 0, none⟩)) (hv359) (by decide) ?_
        intro v362 hv363
        refine L_buildSlice (xs := ([(Block.with_For (⟨x38, y52, ([y70.Peer] : List Int)⟩ : Block) y351)] : List Block)) Try.underlying53 tyz58 (Parts_cons rfl (rfl : _ = v362) Parts_nil) (Vs.cons hv363 Vs.nil) rfl (by decide) (by decide) ?_
        intro s368 v365 e364 hb366 hv367
        have hE369 := Tch.ext hE361 e364
        obtain ⟨hc370, hr⟩ := chk_some hr
        refine L_append (xs := x36) (B := s0.w.heap.size) Try.underlying53 tyz58 (rfl : _ = v37) (rfl : _ = v365) (((((((((hb50).ext e76).tch e83 (fun k hk => ap82 k hk)).ext e328).ext e336).tch e344 (fun k hk => ap342 k hk)).ext e354).tch e358 (fun k hk => ap342 k hk)).ext e364) (hE369.size) hv367 hc370.1 hc370.2 (by decide) ?_
        intro v371 s373 g372
        have hE374 := g372.tchM (((((((((hb50).ext e76).tch e83 (fun k hk => ap82 k hk)).ext e328).ext e336).tch e344 (fun k hk => ap342 k hk)).ext e354).tch e358 (fun k hk => ap342 k hk)).ext e364) hE369 (Nat.le_refl _)
        refine L_assign (rfl : _ = v371) (by decide) ?_
        refine L_nil ?_
        refine block_n ?_
        refine then_n ?_
        refine W_region ?_
        obtain ⟨hc377, hr⟩ := chk_some hr
        refine L_add g49_29 (rfl : _ = Value.int .i64 (1)) hc377 (by decide) ?_
        refine L_move (rfl : _ = Value.int .i64 (x38 + 1)) (by decide) ?_
        refine L_nil ?_
        exact then_n ⟨m43, Nat.lt_succ_self _, ⟨s373, v371, (x36 ++ ([(Block.with_For (⟨x38, y52, ([y70.Peer] : List Int)⟩ : Block) y351)] : List Block)), (x38 + 1), rfl, hE374, (l47.trans (e76.le.trans (e83.le.trans (e328.le.trans (e336.le.trans (e344.le.trans (e354.le.trans (e358.le.trans (e364.le.trans g372.tch.le))))))))), hr, rfl, g372.bld, rfl, g49_0, g49_6, g49_27, g49_28⟩⟩
       ·have hr := ite_f hb350 hr
        refine W_skip ?_
        refine then_n ?_
        refine W_region ?_
        refine L_move g49_8 (by decide) ?_
        refine L_load_var ty58 (rfl : _ = Value.pointer (some ⟨b337, 0, none⟩)) (hv345) (by decide) ?_
        intro v378 hv379
        refine L_buildSlice (xs := ([(⟨x38, y52, ([y70.Peer] : List Int)⟩ : Block)] : List Block)) Try.underlying53 tyz58 (Parts_cons rfl (rfl : _ = v378) Parts_nil) (Vs.cons hv379 Vs.nil) rfl (by decide) (by decide) ?_
        intro s384 v381 e380 hb382 hv383
        have hE385 := Tch.ext hE347 e380
        obtain ⟨hc386, hr⟩ := chk_some hr
        refine L_append (xs := x36) (B := s0.w.heap.size) Try.underlying53 tyz58 (rfl : _ = v37) (rfl : _ = v381) (((((((hb50).ext e76).tch e83 (fun k hk => ap82 k hk)).ext e328).ext e336).tch e344 (fun k hk => ap342 k hk)).ext e380) (hE385.size) hv383 hc386.1 hc386.2 (by decide) ?_
        intro v387 s389 g388
        have hE390 := g388.tchM (((((((hb50).ext e76).tch e83 (fun k hk => ap82 k hk)).ext e328).ext e336).tch e344 (fun k hk => ap342 k hk)).ext e380) hE385 (Nat.le_refl _)
        refine L_assign (rfl : _ = v387) (by decide) ?_
        refine L_nil ?_
        refine block_n ?_
        refine then_n ?_
        refine W_region ?_
        obtain ⟨hc393, hr⟩ := chk_some hr
        refine L_add g49_29 (rfl : _ = Value.int .i64 (1)) hc393 (by decide) ?_
        refine L_move (rfl : _ = Value.int .i64 (x38 + 1)) (by decide) ?_
        refine L_nil ?_
        exact then_n ⟨m43, Nat.lt_succ_self _, ⟨s389, v387, (x36 ++ ([(⟨x38, y52, ([y70.Peer] : List Int)⟩ : Block)] : List Block)), (x38 + 1), rfl, hE390, (l47.trans (e76.le.trans (e83.le.trans (e328.le.trans (e336.le.trans (e344.le.trans (e380.le.trans g388.tch.le))))))), hr, rfl, g388.bld, rfl, g49_0, g49_6, g49_27, g49_28⟩⟩
    ·have hr := ite_f hb51 hr
     refine W_exit ?_
     refine then_x ?_
     refine then_x ?_
     refine block_here ?_
     exact then_n ⟨s46, v37, x36, rfl, hE48, l47, Option.some.inj hr, g49_8, hb50⟩
  ·rintro f394 w395 ⟨s398, v40, x39, rfl, hE400, l399, ho42, g401_8, hb402⟩
   subst ho42
   have hr := hq44
   try dsimp only at hr
   refine then_n ?_
   refine W_seq ?_
   refine W_region ?_
   refine L_move g401_8 (by decide) ?_
   refine L_assign (rfl : _ = v40) (by decide) ?_
   refine L_assign (rfl : _ = Value.int .i64 (0)) (by decide) ?_
   refine L_nil ?_
   refine then_n ?_
   refine W_ret ?_
   obtain rfl := Option.some.inj hr
   exact done2 (Or.inl rfl) Try.results24 rfl rfl ⟨_, _, rfl, rfl, hE400, _, _, rfl, (hb402).toV, Vint⟩

theorem slices_IndexFunc_Ldead_Block_dead_Block_ok (N : Nat) (s0 : St) (w0 : Value) (a0 : List Block) (h0 : V s0 w0 a0) (w1 : Value) (a1 : Block → Option Bool) (h1 : Fn1 Try.prog s0 w1 a1) (r : Int) (hr : slices_IndexFunc_Ldead_Block_dead_Block N a0 a1 = some r) :
  Calls Try.prog 77 #[w0, w1] s0.w (Ret s0 fun v s => V s v r) := by
 unfold slices_IndexFunc_Ldead_Block_dead_Block at hr
 have hE0 := Ext.refl s0
 refine Calls_of (n := 19) (args := [w0, w1]) Try.func77 rfl rfl (by simp) ?_
 refine W_seq ?_
 refine W_region ?_
 refine L_assign (rfl : _ = Value.int .i64 (0)) (by decide) ?_
 refine L_nil ?_
 refine then_n ?_
 refine W_seq ?_
 refine W_seq ?_
 refine W_region ?_
 refine L_move (rfl : _ = w0) (by decide) ?_
 refine L_len Try.underlying53 (rfl : _ = w0) h0 (by decide) ?_
 refine L_move (rfl : _ = Value.int .i64 (0)) (by decide) ?_
 refine L_nil ?_
 refine then_n ?_
 obtain ⟨o2, ho3, hq5⟩ := bind_some hr
 refine W_cut (fun f w => ∃ (s : St), s.w = w ∧ Ext s0 s ∧ Le s0 s ∧ Sum.inl () = o2) ?_ ?_
 ·refine W_block ?_
  refine W_loop (fun m f w => ∃ (s : St) (x1 : Int), s.w = w ∧ Ext s0 s ∧ Le s0 s ∧ slices_IndexFunc_Ldead_Block_dead_Block_l1 N a0 a1 m x1 = some o2 ∧ f 8 = Value.int .i64 x1 ∧ f 0 = w0 ∧ f 1 = w1 ∧ f 7 = Value.int .i64 ((a0.length : Int))) N ⟨s0, 0, rfl, hE0, (Le.refl _), ho3, rfl, rfl, rfl, rfl⟩ ?_
  rintro m4 f29 w30 ⟨s7, x1, rfl, hE9, l8, hr, g10_8, g10_0, g10_1, g10_7⟩
  cases m4 with
  | zero => exact absurd hr (by simp [slices_IndexFunc_Ldead_Block_dead_Block_l1])
  | succ m4 =>
   rw [slices_IndexFunc_Ldead_Block_dead_Block_l1.eq_2] at hr
   refine W_seq ?_
   refine W_region ?_
   refine L_lss g10_8 g10_7 (by decide) ?_
   refine L_nil ?_
   refine then_n ?_
   refine W_seq ?_
   refine W_cond _ (rfl : _ = Value.bool (decide (x1 < (a0.length : Int)))) (fun hb11 => ?_) (fun hb11 => ?_)
   ·have hr := ite_t hb11 hr
    refine W_skip ?_
    refine then_n ?_
    refine W_seq ?_
    refine W_block ?_
    refine W_seq ?_
    refine W_region ?_
    refine L_move g10_8 (by decide) ?_
    refine L_assign (rfl : _ = Value.int .i64 (x1)) (by decide) ?_
    refine L_nil ?_
    refine then_n ?_
    refine W_seq ?_
    refine W_region ?_
    refine L_move g10_1 (by decide) ?_
    refine L_move g10_0 (by decide) ?_
    refine L_move (rfl : _ = Value.int .i64 (x1)) (by decide) ?_
    obtain ⟨y12, hy13, hr⟩ := bind_some hr
    refine L_index Try.underlying53 ty58.inf (rfl : _ = w0) (h0.mono l8) (rfl : _ = Value.int .i64 (x1)) hy13 (by decide) ?_
    intro p14 hp15
    refine L_load ty58 (rfl : _ = p14) hp15 (by decide) ?_
    intro v16 hv17
    obtain ⟨y18, hy19, hr⟩ := bind_some hr
    refine L_call1 (rfl : _ = w1) (h1.mono l8) (rfl : _ = v16) hv17 hy19 (by decide) ?_
    intro v20 s23 e21 hv22
    have hE24 := Tch.ext hE9 e21
    obtain rfl := hv22.bool
    refine L_nil ?_
    refine then_n ?_
    refine W_cond _ (rfl : _ = Value.bool (y18)) (fun hb25 => ?_) (fun hb25 => ?_)
    ·have hr := ite_t hb25 hr
     refine W_seq ?_
     refine W_region ?_
     refine L_move (rfl : _ = Value.int .i64 (x1)) (by decide) ?_
     refine L_assign (rfl : _ = Value.int .i64 (x1)) (by decide) ?_
     refine L_nil ?_
     refine then_n ?_
     refine W_ret ?_
     refine block_r ?_
     refine then_r ?_
     refine then_r ?_
     refine block_r ?_
     obtain rfl := Option.some.inj hr
     have hr := hq5
     try dsimp only at hr
     refine then_r ?_
     refine then_r ?_
     obtain rfl := Option.some.inj hr
     exact done1 (Or.inl rfl) Try.results77 rfl ⟨_, _, rfl, rfl, hE24, Vint⟩
    ·have hr := ite_f hb25 hr
     refine W_skip ?_
     refine block_n ?_
     refine then_n ?_
     refine W_region ?_
     obtain ⟨hc26, hr⟩ := chk_some hr
     refine L_add g10_8 (rfl : _ = Value.int .i64 (1)) hc26 (by decide) ?_
     refine L_move (rfl : _ = Value.int .i64 (x1 + 1)) (by decide) ?_
     refine L_nil ?_
     exact then_n ⟨m4, Nat.lt_succ_self _, ⟨s23, (x1 + 1), rfl, hE24, (l8.trans e21.le), hr, rfl, g10_0, g10_1, g10_7⟩⟩
   ·have hr := ite_f hb11 hr
    refine W_exit ?_
    refine then_x ?_
    refine then_x ?_
    refine block_here ?_
    exact then_n ⟨s7, rfl, hE9, l8, Option.some.inj hr⟩
 ·rintro f27 w28 ⟨s31, rfl, hE33, l32, ho3⟩
  subst ho3
  have hr := hq5
  try dsimp only at hr
  refine then_n ?_
  refine W_seq ?_
  refine W_region ?_
  refine L_assign (rfl : _ = Value.int .i64 (-1)) (by decide) ?_
  refine L_nil ?_
  refine then_n ?_
  refine W_ret ?_
  obtain rfl := Option.some.inj hr
  exact done1 (Or.inl rfl) Try.results77 rfl ⟨_, _, rfl, rfl, hE33, Vint⟩

theorem slices_ContainsFunc_Ldead_Block_dead_Block_ok (N : Nat) (s0 : St) (w0 : Value) (a0 : List Block) (h0 : V s0 w0 a0) (w1 : Value) (a1 : Block → Option Bool) (h1 : Fn1 Try.prog s0 w1 a1) (r : Bool) (hr : slices_ContainsFunc_Ldead_Block_dead_Block N a0 a1 = some r) :
  Calls Try.prog 52 #[w0, w1] s0.w (Ret s0 fun v s => V s v r) := by
 unfold slices_ContainsFunc_Ldead_Block_dead_Block at hr
 have hE0 := Ext.refl s0
 refine Calls_of (n := 9) (args := [w0, w1]) Try.func52 rfl rfl (by simp) ?_
 refine W_seq ?_
 refine W_region ?_
 refine L_assign (rfl : _ = Value.bool (false)) (by decide) ?_
 refine L_nil ?_
 refine then_n ?_
 refine W_seq ?_
 refine W_region ?_
 refine L_move (rfl : _ = w0) (by decide) ?_
 refine L_move (rfl : _ = w1) (by decide) ?_
 obtain ⟨y1, hy2, hr⟩ := bind_some hr
 refine L_calls cal77 (args2 (rfl : _ = w0) (rfl : _ = w1)) (slices_IndexFunc_Ldead_Block_dead_Block_ok N _ _ _ h0 _ a1 h1 y1 hy2) (by decide) ?_
 intro v3 s6 e4 hv5
 have hE7 := Tch.ext hE0 e4
 obtain rfl := hv5.int
 refine L_geq (rfl : _ = Value.int .i64 (y1)) (rfl : _ = Value.int .i64 (0)) (by decide) ?_
 refine L_assign (rfl : _ = Value.bool (decide (0 ≤ y1))) (by decide) ?_
 refine L_nil ?_
 refine then_n ?_
 refine W_ret ?_
 obtain rfl := Option.some.inj hr
 exact done1 (Or.inl rfl) Try.results52 rfl ⟨_, _, rfl, rfl, hE7, Vbool⟩

theorem dead_Cycle_1_ok (N : Nat) (s0 : St) (w0 : Value) (a0 : Block) (h0 : V s0 w0 a0) (w1 : Value) (a1 : Int) (h1 : Ptr s0 w1 a1) (r : Bool) (hr : dead_Cycle_1 N a0 a1 = some r) :
  Calls Try.prog 53 #[w0, w1] s0.w (Ret s0 fun v s => V s v r) := by
 unfold dead_Cycle_1 at hr
 have hE0 := Ext.refl s0
 refine Calls_of (n := 8) (args := [w0, w1]) Try.func53 rfl rfl (by simp) ?_
 refine W_seq ?_
 refine W_region ?_
 refine L_box (rfl : _ = w0) h0 (by decide) ?_
 intro s4 p2 e1 hp3
 have hE5 := Tch.ext hE0 e1
 refine L_assign (rfl : _ = Value.bool (false)) (by decide) ?_
 refine L_nil ?_
 refine then_n ?_
 refine W_seq ?_
 refine W_region ?_
 refine L_fieldAddr fld58_0 Block.of_Process (rfl : _ = p2) hp3 (by decide) ?_
 intro p6 hp7
 refine L_load_int ty3 (rfl : _ = p6) hp7 (by decide) ?_
 refine L_load_int ty3 (rfl : _ = w1) (h1.mono e1.le) (by decide) ?_
 refine L_eql (rfl : _ = Value.int .i64 (a0.Proc)) (rfl : _ = Value.int .i64 (a1)) (by decide) ?_
 refine L_assign (rfl : _ = Value.bool (decide (a0.Proc = a1))) (by decide) ?_
 refine L_nil ?_
 refine then_n ?_
 refine W_ret ?_
 obtain rfl := Option.some.inj hr
 exact done1 (Or.inl rfl) Try.results53 rfl ⟨_, _, rfl, rfl, hE5, Vbool⟩

theorem slices_Index_Lint_int_ok (N : Nat) (s0 : St) (w0 : Value) (a0 : List Int) (h0 : V s0 w0 a0) (a1 : Int) (r : Int) (hr : slices_Index_Lint_int N a0 a1 = some r) :
  Calls Try.prog 55 #[w0, .int .i64 a1] s0.w (Ret s0 fun v s => V s v r) := by
 unfold slices_Index_Lint_int at hr
 have hE0 := Ext.refl s0
 refine Calls_of (n := 19) (args := [w0, .int .i64 a1]) Try.func55 rfl rfl (by simp) ?_
 refine W_seq ?_
 refine W_region ?_
 refine L_assign (rfl : _ = Value.int .i64 (0)) (by decide) ?_
 refine L_nil ?_
 refine then_n ?_
 refine W_seq ?_
 refine W_seq ?_
 refine W_region ?_
 refine L_move (rfl : _ = w0) (by decide) ?_
 refine L_len Try.underlying23 (rfl : _ = w0) h0 (by decide) ?_
 refine L_move (rfl : _ = Value.int .i64 (0)) (by decide) ?_
 refine L_nil ?_
 refine then_n ?_
 obtain ⟨o2, ho3, hq5⟩ := bind_some hr
 refine W_cut (fun f w => ∃ (s : St), s.w = w ∧ Ext s0 s ∧ Le s0 s ∧ Sum.inl () = o2) ?_ ?_
 ·refine W_block ?_
  refine W_loop (fun m f w => ∃ (s : St) (x1 : Int), s.w = w ∧ Ext s0 s ∧ Le s0 s ∧ slices_Index_Lint_int_l1 N a0 a1 m x1 = some o2 ∧ f 8 = Value.int .i64 x1 ∧ f 0 = w0 ∧ f 1 = Value.int .i64 (a1) ∧ f 7 = Value.int .i64 ((a0.length : Int))) N ⟨s0, 0, rfl, hE0, (Le.refl _), ho3, rfl, rfl, rfl, rfl⟩ ?_
  rintro m4 f20 w21 ⟨s7, x1, rfl, hE9, l8, hr, g10_8, g10_0, g10_1, g10_7⟩
  cases m4 with
  | zero => exact absurd hr (by simp [slices_Index_Lint_int_l1])
  | succ m4 =>
   rw [slices_Index_Lint_int_l1.eq_2] at hr
   refine W_seq ?_
   refine W_region ?_
   refine L_lss g10_8 g10_7 (by decide) ?_
   refine L_nil ?_
   refine then_n ?_
   refine W_seq ?_
   refine W_cond _ (rfl : _ = Value.bool (decide (x1 < (a0.length : Int)))) (fun hb11 => ?_) (fun hb11 => ?_)
   ·have hr := ite_t hb11 hr
    refine W_skip ?_
    refine then_n ?_
    refine W_seq ?_
    refine W_block ?_
    refine W_seq ?_
    refine W_region ?_
    refine L_move g10_8 (by decide) ?_
    refine L_assign (rfl : _ = Value.int .i64 (x1)) (by decide) ?_
    refine L_nil ?_
    refine then_n ?_
    refine W_seq ?_
    refine W_region ?_
    refine L_move g10_1 (by decide) ?_
    refine L_move g10_0 (by decide) ?_
    refine L_move (rfl : _ = Value.int .i64 (x1)) (by decide) ?_
    obtain ⟨y12, hy13, hr⟩ := bind_some hr
    refine L_index Try.underlying23 ty3.inf (rfl : _ = w0) (h0.mono l8) (rfl : _ = Value.int .i64 (x1)) hy13 (by decide) ?_
    intro p14 hp15
    refine L_load_int ty3 (rfl : _ = p14) hp15 (by decide) ?_
    refine L_eql (rfl : _ = Value.int .i64 (a1)) (rfl : _ = Value.int .i64 (y12)) (by decide) ?_
    refine L_nil ?_
    refine then_n ?_
    refine W_cond _ (rfl : _ = Value.bool (decide (a1 = y12))) (fun hb16 => ?_) (fun hb16 => ?_)
    ·have hr := ite_t hb16 hr
     refine W_seq ?_
     refine W_region ?_
     refine L_move (rfl : _ = Value.int .i64 (x1)) (by decide) ?_
     refine L_assign (rfl : _ = Value.int .i64 (x1)) (by decide) ?_
     refine L_nil ?_
     refine then_n ?_
     refine W_ret ?_
     refine block_r ?_
     refine then_r ?_
     refine then_r ?_
     refine block_r ?_
     obtain rfl := Option.some.inj hr
     have hr := hq5
     try dsimp only at hr
     refine then_r ?_
     refine then_r ?_
     obtain rfl := Option.some.inj hr
     exact done1 (Or.inl rfl) Try.results55 rfl ⟨_, _, rfl, rfl, hE9, Vint⟩
    ·have hr := ite_f hb16 hr
     refine W_skip ?_
     refine block_n ?_
     refine then_n ?_
     refine W_region ?_
     obtain ⟨hc17, hr⟩ := chk_some hr
     refine L_add g10_8 (rfl : _ = Value.int .i64 (1)) hc17 (by decide) ?_
     refine L_move (rfl : _ = Value.int .i64 (x1 + 1)) (by decide) ?_
     refine L_nil ?_
     exact then_n ⟨m4, Nat.lt_succ_self _, ⟨s7, (x1 + 1), rfl, hE9, l8, hr, rfl, g10_0, g10_1, g10_7⟩⟩
   ·have hr := ite_f hb11 hr
    refine W_exit ?_
    refine then_x ?_
    refine then_x ?_
    refine block_here ?_
    exact then_n ⟨s7, rfl, hE9, l8, Option.some.inj hr⟩
 ·rintro f18 w19 ⟨s22, rfl, hE24, l23, ho3⟩
  subst ho3
  have hr := hq5
  try dsimp only at hr
  refine then_n ?_
  refine W_seq ?_
  refine W_region ?_
  refine L_assign (rfl : _ = Value.int .i64 (-1)) (by decide) ?_
  refine L_nil ?_
  refine then_n ?_
  refine W_ret ?_
  obtain rfl := Option.some.inj hr
  exact done1 (Or.inl rfl) Try.results55 rfl ⟨_, _, rfl, rfl, hE24, Vint⟩

theorem slices_Contains_Lint_int_ok (N : Nat) (s0 : St) (w0 : Value) (a0 : List Int) (h0 : V s0 w0 a0) (a1 : Int) (r : Bool) (hr : slices_Contains_Lint_int N a0 a1 = some r) :
  Calls Try.prog 54 #[w0, .int .i64 a1] s0.w (Ret s0 fun v s => V s v r) := by
 unfold slices_Contains_Lint_int at hr
 have hE0 := Ext.refl s0
 refine Calls_of (n := 9) (args := [w0, .int .i64 a1]) Try.func54 rfl rfl (by simp) ?_
 refine W_seq ?_
 refine W_region ?_
 refine L_assign (rfl : _ = Value.bool (false)) (by decide) ?_
 refine L_nil ?_
 refine then_n ?_
 refine W_seq ?_
 refine W_region ?_
 refine L_move (rfl : _ = w0) (by decide) ?_
 refine L_move (rfl : _ = Value.int .i64 (a1)) (by decide) ?_
 obtain ⟨y1, hy2, hr⟩ := bind_some hr
 refine L_calls cal55 (args2 (rfl : _ = w0) (rfl : _ = Value.int .i64 (a1))) (slices_Index_Lint_int_ok N _ _ _ h0 a1 y1 hy2) (by decide) ?_
 intro v3 s6 e4 hv5
 have hE7 := Tch.ext hE0 e4
 obtain rfl := hv5.int
 refine L_geq (rfl : _ = Value.int .i64 (y1)) (rfl : _ = Value.int .i64 (0)) (by decide) ?_
 refine L_assign (rfl : _ = Value.bool (decide (0 ≤ y1))) (by decide) ?_
 refine L_nil ?_
 refine then_n ?_
 refine W_ret ?_
 obtain rfl := Option.some.inj hr
 exact done1 (Or.inl rfl) Try.results54 rfl ⟨_, _, rfl, rfl, hE7, Vbool⟩

theorem slices_Min_Lint_int_ok (N : Nat) (s0 : St) (w0 : Value) (a0 : List Int) (h0 : V s0 w0 a0) (r : Int) (hr : slices_Min_Lint_int N a0 = some r) :
  Calls Try.prog 56 #[w0] s0.w (Ret s0 fun v s => V s v r) := by
 unfold slices_Min_Lint_int at hr
 have hE0 := Ext.refl s0
 refine Calls_of (n := 25) (args := [w0]) Try.func56 rfl rfl (by simp) ?_
 refine W_seq ?_
 refine W_region ?_
 refine L_assign (rfl : _ = Value.int .i64 (0)) (by decide) ?_
 refine L_nil ?_
 refine then_n ?_
 refine W_seq ?_
 refine W_seq ?_
 refine W_region ?_
 refine L_move (rfl : _ = w0) (by decide) ?_
 refine L_len Try.underlying23 (rfl : _ = w0) h0 (by decide) ?_
 refine L_lss (rfl : _ = Value.int .i64 ((a0.length : Int))) (rfl : _ = Value.int .i64 (1)) (by decide) ?_
 refine L_nil ?_
 refine then_n ?_
 refine W_cond _ (rfl : _ = Value.bool (decide ((a0.length : Int) < 1))) (fun hb1 => ?_) (fun hb1 => ?_)
 ·have hr := ite_t hb1 hr
  refine W_region ?_
  cases hr
 ·have hr := ite_f hb1 hr
  refine W_skip ?_
  refine then_n ?_
  refine W_seq ?_
  refine W_region ?_
  refine L_move (rfl : _ = w0) (by decide) ?_
  obtain ⟨y2, hy3, hr⟩ := bind_some hr
  refine L_index Try.underlying23 ty3.inf (rfl : _ = w0) h0 (rfl : _ = Value.int .i64 (0)) hy3 (by decide) ?_
  intro p4 hp5
  refine L_load_int ty3 (rfl : _ = p4) hp5 (by decide) ?_
  refine L_assign (rfl : _ = Value.int .i64 (y2)) (by decide) ?_
  refine L_nil ?_
  refine then_n ?_
  refine W_seq ?_
  refine W_seq ?_
  refine W_region ?_
  refine L_assign (rfl : _ = Value.int .i64 (1)) (by decide) ?_
  refine L_nil ?_
  refine then_n ?_
  obtain ⟨o9, ho10, hq12⟩ := bind_some hr
  refine W_cut (fun f w => ∃ (s : St) (x8 : Int), s.w = w ∧ Ext s0 s ∧ Le s0 s ∧ x8 = o9 ∧ f 3 = Value.int .i64 x8) ?_ ?_
  ·refine W_block ?_
   refine W_loop (fun m f w => ∃ (s : St) (x6 : Int) (x7 : Int), s.w = w ∧ Ext s0 s ∧ Le s0 s ∧ slices_Min_Lint_int_l1 N a0 m x6 x7 = some o9 ∧ f 3 = Value.int .i64 x6 ∧ f 4 = Value.int .i64 x7 ∧ f 0 = w0) N ⟨s0, y2, 1, rfl, hE0, (Le.refl _), ho10, rfl, rfl, rfl⟩ ?_
   rintro m11 f26 w27 ⟨s14, x6, x7, rfl, hE16, l15, hr, g17_3, g17_4, g17_0⟩
   cases m11 with
   | zero => exact absurd hr (by simp [slices_Min_Lint_int_l1])
   | succ m11 =>
    rw [slices_Min_Lint_int_l1.eq_2] at hr
    refine W_seq ?_
    refine W_seq ?_
    refine W_region ?_
    refine L_move g17_4 (by decide) ?_
    refine L_move g17_0 (by decide) ?_
    refine L_len Try.underlying23 (rfl : _ = w0) (h0.mono l15) (by decide) ?_
    refine L_lss (rfl : _ = Value.int .i64 (x7)) (rfl : _ = Value.int .i64 ((a0.length : Int))) (by decide) ?_
    refine L_nil ?_
    refine then_n ?_
    refine W_cond _ (rfl : _ = Value.bool (decide (x7 < (a0.length : Int)))) (fun hb18 => ?_) (fun hb18 => ?_)
    ·have hr := ite_t hb18 hr
     refine W_skip ?_
     refine then_n ?_
     refine W_seq ?_
     refine W_block ?_
     refine W_region ?_
     refine L_move g17_3 (by decide) ?_
     refine L_move g17_0 (by decide) ?_
     refine L_move g17_4 (by decide) ?_
     obtain ⟨y19, hy20, hr⟩ := bind_some hr
     refine L_index Try.underlying23 ty3.inf (rfl : _ = w0) (h0.mono l15) (rfl : _ = Value.int .i64 (x7)) hy20 (by decide) ?_
     intro p21 hp22
     refine L_load_int ty3 (rfl : _ = p21) hp22 (by decide) ?_
     refine L_min (rfl : _ = Value.int .i64 (x6)) (rfl : _ = Value.int .i64 (y19)) (by decide) ?_
     refine L_assign (rfl : _ = Value.int .i64 (min x6 y19)) (by decide) ?_
     refine L_nil ?_
     refine block_n ?_
     refine then_n ?_
     refine W_region ?_
     refine L_move g17_4 (by decide) ?_
     obtain ⟨hc23, hr⟩ := chk_some hr
     refine L_add (rfl : _ = Value.int .i64 (x7)) (rfl : _ = Value.int .i64 (1)) hc23 (by decide) ?_
     refine L_assign (rfl : _ = Value.int .i64 (x7 + 1)) (by decide) ?_
     refine L_nil ?_
     exact then_n ⟨m11, Nat.lt_succ_self _, ⟨s14, (min x6 y19), (x7 + 1), rfl, hE16, l15, hr, rfl, rfl, g17_0⟩⟩
    ·have hr := ite_f hb18 hr
     refine W_exit ?_
     refine then_x ?_
     refine then_x ?_
     refine block_here ?_
     exact then_n ⟨s14, x6, rfl, hE16, l15, Option.some.inj hr, g17_3⟩
  ·rintro f24 w25 ⟨s28, x8, rfl, hE30, l29, ho10, g31_3⟩
   subst ho10
   have hr := hq12
   try dsimp only at hr
   refine then_n ?_
   refine W_seq ?_
   refine W_region ?_
   refine L_move g31_3 (by decide) ?_
   refine L_assign (rfl : _ = Value.int .i64 (x8)) (by decide) ?_
   refine L_nil ?_
   refine then_n ?_
   refine W_ret ?_
   obtain rfl := Option.some.inj hr
   exact done1 (Or.inl rfl) Try.results56 rfl ⟨_, _, rfl, rfl, hE30, Vint⟩

theorem slices_Grow_Lint_int_ok (N : Nat) (s0 : St) (a1 : Int) (r : (List Int)) (hr : slices_Grow_Lint_int N a1 = some r) :
  Calls Try.prog 78 #[.slice none 0 0, .int .i64 a1] s0.w (Ret s0 fun v s => Bld s s0.w.heap.size 3 v r) := by
 unfold slices_Grow_Lint_int at hr
 have hE0 := Ext.refl s0
 refine Calls_of (n := 27) (args := [.slice none 0 0, .int .i64 a1]) Try.func78 rfl rfl (by simp) ?_
 refine W_seq ?_
 refine W_region ?_
 refine L_assign (rfl : _ = Value.slice none 0 0) (by decide) ?_
 refine L_nil ?_
 refine then_n ?_
 refine W_seq ?_
 refine W_seq ?_
 refine W_region ?_
 refine L_move (rfl : _ = Value.int .i64 (a1)) (by decide) ?_
 refine L_lss (rfl : _ = Value.int .i64 (a1)) (rfl : _ = Value.int .i64 (0)) (by decide) ?_
 refine L_nil ?_
 refine then_n ?_
 refine W_cond _ (rfl : _ = Value.bool (decide (a1 < 0))) (fun hb1 => ?_) (fun hb1 => ?_)
 ·have hr := ite_t hb1 hr
  refine W_region ?_
  cases hr
 ·have hr := ite_f hb1 hr
  refine W_skip ?_
  refine then_n ?_
  refine W_seq ?_
  refine W_seq ?_
  refine W_region ?_
  refine L_move (rfl : _ = Value.int .i64 (a1)) (by decide) ?_
  refine L_move (rfl : _ = Value.slice none 0 0) (by decide) ?_
  refine L_capNil Try.underlying23 (rfl : _ = Value.slice none 0 0) (by decide) ?_
  refine L_move (rfl : _ = Value.slice none 0 0) (by decide) ?_
  refine L_lenA Try.underlying23 (rfl : _ = Value.slice none 0 0) (by decide) ?_
  obtain ⟨hc2, hr⟩ := chk_some hr
  refine L_sub (rfl : _ = Value.int .i64 (0)) (rfl : _ = Value.int .i64 (((0 : Nat) : Int))) hc2 (by decide) ?_
  obtain ⟨hc3, hr⟩ := chk_some hr
  refine L_sub (rfl : _ = Value.int .i64 (a1)) (rfl : _ = Value.int .i64 (0 - ((0 : Nat) : Int))) hc3 (by decide) ?_
  refine L_assign (rfl : _ = Value.int .i64 (a1 - (0 - ((0 : Nat) : Int)))) (by decide) ?_
  refine L_nil ?_
  refine then_n ?_
  refine W_seq ?_
  refine W_region ?_
  refine L_move (rfl : _ = Value.int .i64 (a1 - (0 - ((0 : Nat) : Int)))) (by decide) ?_
  refine L_gtr (rfl : _ = Value.int .i64 (a1 - (0 - ((0 : Nat) : Int)))) (rfl : _ = Value.int .i64 (0)) (by decide) ?_
  refine L_nil ?_
  refine then_n ?_
  refine W_cond _ (rfl : _ = Value.bool (decide (0 < (a1 - (0 - ((0 : Nat) : Int)))))) (fun hb4 => ?_) (fun hb4 => ?_)
  ·have hr := ite_t hb4 hr
   refine W_region ?_
   refine L_move (rfl : _ = Value.slice none 0 0) (by decide) ?_
   refine L_move (rfl : _ = Value.slice none 0 0) (by decide) ?_
   refine L_capNil Try.underlying23 (rfl : _ = Value.slice none 0 0) (by decide) ?_
   obtain ⟨hc9, hr⟩ := chk_some hr
   refine L_sliceNil Try.underlying23 ty3.inf (rfl : _ = Value.slice none 0 0) (rfl : _ = Value.int .i64 (0)) hc9 (by decide) ?_
   refine L_move (rfl : _ = Value.int .i64 (a1 - (0 - ((0 : Nat) : Int)))) (by decide) ?_
   obtain ⟨hc10, hr⟩ := chk_some hr
   refine L_growNil (α := Int) Try.underlying23 Try.underlying3 tyz3 (rfl : _ = Value.slice none 0 0) (rfl : _ = Value.int .i64 (a1 - (0 - ((0 : Nat) : Int)))) hc10.1 hc10.2.1 hc10.2.2 (by decide) ?_
   intro s15 b11 c12 e13 hb14
   have hE16 := Tch.ext hE0 e13
   refine L_move (rfl : _ = Value.slice none 0 0) (by decide) ?_
   refine L_lenA Try.underlying23 (rfl : _ = Value.slice none 0 0) (by decide) ?_
   obtain ⟨hc21, hr⟩ := chk_some hr
   refine L_slice0 Try.underlying23 ty3.inf (rfl : _ = (Value.slice (some ⟨b11, 0, none⟩) (a1 - (0 - ((0 : Nat) : Int))).toNat c12)) (rfl : _ = Value.int .i64 (((0 : Nat) : Int))) hc21 (by decide) ?_
   refine L_assign (rfl : _ = (Value.slice (some ⟨b11, 0, none⟩) 0 c12)) (by decide) ?_
   refine L_nil ?_
   refine then_n ?_
   refine W_seq ?_
   refine W_region ?_
   refine L_move (rfl : _ = (Value.slice (some ⟨b11, 0, none⟩) 0 c12)) (by decide) ?_
   refine L_assign (rfl : _ = (Value.slice (some ⟨b11, 0, none⟩) 0 c12)) (by decide) ?_
   refine L_nil ?_
   refine then_n ?_
   refine W_ret ?_
   obtain rfl := Option.some.inj hr
   exact done1 (Or.inl rfl) Try.results78 rfl ⟨_, _, rfl, rfl, hE16, (hb14.base hE0.size)⟩
  ·have hr := ite_f hb4 hr
   refine W_skip ?_
   refine then_n ?_
   refine W_seq ?_
   refine W_region ?_
   refine L_move (rfl : _ = Value.slice none 0 0) (by decide) ?_
   refine L_assign (rfl : _ = Value.slice none 0 0) (by decide) ?_
   refine L_nil ?_
   refine then_n ?_
   refine W_ret ?_
   obtain rfl := Option.some.inj hr
   exact done1 (Or.inl rfl) Try.results78 rfl ⟨_, _, rfl, rfl, hE0, Bld.nil⟩

theorem slices_Concat_Lint_int_ok (N : Nat) (s0 : St) (w0 : Value) (a0 : List (List Int)) (h0 : V s0 w0 a0) (r : (List Int)) (hr : slices_Concat_Lint_int N a0 = some r) :
  Calls Try.prog 57 #[w0] s0.w (Ret s0 fun v s => V s v r) := by
 unfold slices_Concat_Lint_int at hr
 have hE0 := Ext.refl s0
 refine Calls_of (n := 36) (args := [w0]) Try.func57 rfl rfl (by simp) ?_
 refine W_seq ?_
 refine W_region ?_
 refine L_assign (rfl : _ = Value.slice none 0 0) (by decide) ?_
 refine L_nil ?_
 refine then_n ?_
 refine W_seq ?_
 refine W_region ?_
 refine L_assign (rfl : _ = Value.int .i64 (0)) (by decide) ?_
 refine L_nil ?_
 refine then_n ?_
 refine W_seq ?_
 refine W_seq ?_
 refine W_region ?_
 refine L_move (rfl : _ = w0) (by decide) ?_
 refine L_len Try.underlying108 (rfl : _ = w0) h0 (by decide) ?_
 refine L_move (rfl : _ = Value.int .i64 (0)) (by decide) ?_
 refine L_nil ?_
 refine then_n ?_
 obtain ⟨o4, ho5, hq7⟩ := bind_some hr
 refine W_cut (fun f w => ∃ (s : St) (x3 : Int), s.w = w ∧ Ext s0 s ∧ Le s0 s ∧ x3 = o4 ∧ f 3 = Value.int .i64 x3 ∧ f 0 = w0) ?_ ?_
 ·refine W_block ?_
  refine W_loop (fun m f w => ∃ (s : St) (x1 : Int) (x2 : Int), s.w = w ∧ Ext s0 s ∧ Le s0 s ∧ slices_Concat_Lint_int_l1 N a0 m x1 x2 = some o4 ∧ f 3 = Value.int .i64 x1 ∧ f 11 = Value.int .i64 x2 ∧ f 0 = w0 ∧ f 9 = w0 ∧ f 10 = Value.int .i64 ((a0.length : Int))) N ⟨s0, 0, 0, rfl, hE0, (Le.refl _), ho5, rfl, rfl, rfl, rfl, rfl⟩ ?_
  rintro m6 f25 w26 ⟨s9, x1, x2, rfl, hE11, l10, hr, g12_3, g12_11, g12_0, g12_9, g12_10⟩
  cases m6 with
  | zero => exact absurd hr (by simp [slices_Concat_Lint_int_l1])
  | succ m6 =>
   rw [slices_Concat_Lint_int_l1.eq_2] at hr
   refine W_seq ?_
   refine W_region ?_
   refine L_lss g12_11 g12_10 (by decide) ?_
   refine L_nil ?_
   refine then_n ?_
   refine W_seq ?_
   refine W_cond _ (rfl : _ = Value.bool (decide (x2 < (a0.length : Int)))) (fun hb13 => ?_) (fun hb13 => ?_)
   ·have hr := ite_t hb13 hr
    refine W_skip ?_
    refine then_n ?_
    refine W_seq ?_
    refine W_block ?_
    refine W_seq ?_
    refine W_region ?_
    obtain ⟨y14, hy15, hr⟩ := bind_some hr
    refine L_index Try.underlying108 ty23.inf g12_9 (h0.mono l10) g12_11 hy15 (by decide) ?_
    intro p16 hp17
    refine L_load ty23 (rfl : _ = p16) hp17 (by decide) ?_
    intro v18 hv19
    refine L_assign (rfl : _ = v18) (by decide) ?_
    refine L_nil ?_
    refine then_n ?_
    refine W_seq ?_
    refine W_region ?_
    refine L_move g12_3 (by decide) ?_
    refine L_move (rfl : _ = v18) (by decide) ?_
    refine L_len Try.underlying23 (rfl : _ = v18) hv19 (by decide) ?_
    obtain ⟨hc20, hr⟩ := chk_some hr
    refine L_add (rfl : _ = Value.int .i64 (x1)) (rfl : _ = Value.int .i64 ((y14.length : Int))) hc20 (by decide) ?_
    refine L_assign (rfl : _ = Value.int .i64 (x1 + (y14.length : Int))) (by decide) ?_
    refine L_nil ?_
    refine then_n ?_
    refine W_seq ?_
    refine W_region ?_
    refine L_move (rfl : _ = Value.int .i64 (x1 + (y14.length : Int))) (by decide) ?_
    refine L_lss (rfl : _ = Value.int .i64 (x1 + (y14.length : Int))) (rfl : _ = Value.int .i64 (0)) (by decide) ?_
    refine L_nil ?_
    refine then_n ?_
    refine W_cond _ (rfl : _ = Value.bool (decide ((x1 + (y14.length : Int)) < 0))) (fun hb21 => ?_) (fun hb21 => ?_)
    ·have hr := ite_t hb21 hr
     refine W_region ?_
     cases hr
    ·have hr := ite_f hb21 hr
     refine W_skip ?_
     refine block_n ?_
     refine then_n ?_
     refine W_region ?_
     obtain ⟨hc22, hr⟩ := chk_some hr
     refine L_add g12_11 (rfl : _ = Value.int .i64 (1)) hc22 (by decide) ?_
     refine L_move (rfl : _ = Value.int .i64 (x2 + 1)) (by decide) ?_
     refine L_nil ?_
     exact then_n ⟨m6, Nat.lt_succ_self _, ⟨s9, (x1 + (y14.length : Int)), (x2 + 1), rfl, hE11, l10, hr, rfl, rfl, g12_0, g12_9, g12_10⟩⟩
   ·have hr := ite_f hb13 hr
    refine W_exit ?_
    refine then_x ?_
    refine then_x ?_
    refine block_here ?_
    exact then_n ⟨s9, x1, rfl, hE11, l10, Option.some.inj hr, g12_3, g12_0⟩
 ·rintro f23 w24 ⟨s27, x3, rfl, hE29, l28, ho5, g30_3, g30_0⟩
  subst ho5
  have hr := hq7
  try dsimp only at hr
  refine then_n ?_
  refine W_seq ?_
  refine W_region ?_
  refine L_move g30_3 (by decide) ?_
  obtain ⟨y31, hy32, hr⟩ := bind_some hr
  refine L_calls cal78 (args2 (rfl : _ = Value.slice none 0 0) (rfl : _ = Value.int .i64 (x3))) (slices_Grow_Lint_int_ok N _ x3 y31 hy32) (by decide) ?_
  intro v33 s36 e34 hv35
  have hE37 := Tch.ext hE29 e34
  refine L_assign (rfl : _ = v33) (by decide) ?_
  refine L_nil ?_
  refine then_n ?_
  refine W_seq ?_
  refine W_seq ?_
  refine W_region ?_
  refine L_move g30_0 (by decide) ?_
  refine L_len Try.underlying108 (rfl : _ = w0) (h0.mono (l28.trans e34.le)) (by decide) ?_
  refine L_move (rfl : _ = Value.int .i64 (0)) (by decide) ?_
  refine L_nil ?_
  refine then_n ?_
  obtain ⟨o43, ho44, hq46⟩ := bind_some hr
  refine W_cut (fun f w => ∃ (s : St) (v42 : Value) (x41 : List Int), s.w = w ∧ Ext s0 s ∧ Le s36 s ∧ x41 = o43 ∧ f 6 = v42 ∧ Bld s s0.w.heap.size 3 v42 x41) ?_ ?_
  ·refine W_block ?_
   refine W_loop (fun m f w => ∃ (s : St) (v39 : Value) (x38 : List Int) (x40 : Int), s.w = w ∧ Ext s0 s ∧ Le s36 s ∧ slices_Concat_Lint_int_l2 N a0 m x38 x40 = some o43 ∧ f 6 = v39 ∧ Bld s s0.w.heap.size 3 v39 x38 ∧ f 27 = Value.int .i64 x40 ∧ f 25 = w0 ∧ f 26 = Value.int .i64 ((a0.length : Int))) N ⟨s36, v33, y31, 0, rfl, hE37, (Le.refl _), ho44, rfl, (hv35.base hE29.size), rfl, rfl, rfl⟩ ?_
   rintro m45 f68 w69 ⟨s48, v39, x38, x40, rfl, hE50, l49, hr, g51_6, hb52, g51_27, g51_25, g51_26⟩
   cases m45 with
   | zero => exact absurd hr (by simp [slices_Concat_Lint_int_l2])
   | succ m45 =>
    rw [slices_Concat_Lint_int_l2.eq_2] at hr
    refine W_seq ?_
    refine W_region ?_
    refine L_lss g51_27 g51_26 (by decide) ?_
    refine L_nil ?_
    refine then_n ?_
    refine W_seq ?_
    refine W_cond _ (rfl : _ = Value.bool (decide (x40 < (a0.length : Int)))) (fun hb53 => ?_) (fun hb53 => ?_)
    ·have hr := ite_t hb53 hr
     refine W_skip ?_
     refine then_n ?_
     refine W_seq ?_
     refine W_block ?_
     refine W_seq ?_
     refine W_region ?_
     obtain ⟨y54, hy55, hr⟩ := bind_some hr
     refine L_index Try.underlying108 ty23.inf g51_25 (h0.mono (l28.trans (e34.le.trans l49))) g51_27 hy55 (by decide) ?_
     intro p56 hp57
     refine L_load ty23 (rfl : _ = p56) hp57 (by decide) ?_
     intro v58 hv59
     refine L_assign (rfl : _ = v58) (by decide) ?_
     refine L_nil ?_
     refine then_n ?_
     refine W_region ?_
     refine L_move g51_6 (by decide) ?_
     refine L_move (rfl : _ = v58) (by decide) ?_
     obtain ⟨hc60, hr⟩ := chk_some hr
     refine L_append (xs := x38) (B := s0.w.heap.size) Try.underlying23 tyz3 (rfl : _ = v39) (rfl : _ = v58) (hb52) (hE50.size) hv59 hc60.1 hc60.2 (by decide) ?_
     intro v61 s63 g62
     have hE64 := g62.tchM (hb52) hE50 (Nat.le_refl _)
     refine L_assign (rfl : _ = v61) (by decide) ?_
     refine L_nil ?_
     refine block_n ?_
     refine then_n ?_
     refine W_region ?_
     obtain ⟨hc65, hr⟩ := chk_some hr
     refine L_add g51_27 (rfl : _ = Value.int .i64 (1)) hc65 (by decide) ?_
     refine L_move (rfl : _ = Value.int .i64 (x40 + 1)) (by decide) ?_
     refine L_nil ?_
     exact then_n ⟨m45, Nat.lt_succ_self _, ⟨s63, v61, (x38 ++ y54), (x40 + 1), rfl, hE64, (l49.trans g62.tch.le), hr, rfl, g62.bld, rfl, g51_25, g51_26⟩⟩
    ·have hr := ite_f hb53 hr
     refine W_exit ?_
     refine then_x ?_
     refine then_x ?_
     refine block_here ?_
     exact then_n ⟨s48, v39, x38, rfl, hE50, l49, Option.some.inj hr, g51_6, hb52⟩
  ·rintro f66 w67 ⟨s70, v42, x41, rfl, hE72, l71, ho44, g73_6, hb74⟩
   subst ho44
   have hr := hq46
   try dsimp only at hr
   refine then_n ?_
   refine W_seq ?_
   refine W_region ?_
   refine L_move g73_6 (by decide) ?_
   refine L_assign (rfl : _ = v42) (by decide) ?_
   refine L_nil ?_
   refine then_n ?_
   refine W_ret ?_
   obtain rfl := Option.some.inj hr
   exact done1 (Or.inl rfl) Try.results57 rfl ⟨_, _, rfl, rfl, hE72, (hb74).toV⟩

theorem dead_Cycle_ok (N : Nat) (s0 : St) (w0 : Value) (a0 : List (List Deed)) (h0 : V s0 w0 a0) (a1 : Int) (r : (List Int) × Int) (hr : dead_Cycle N a0 a1 = some r) :
  Calls Try.prog 25 #[w0, .int .i64 a1] s0.w (Ret s0 fun v s => ∃ a b, v = .tuple #[a, b] ∧ V s a r.1 ∧ V s b r.2) := by
 unfold dead_Cycle at hr
 have hE0 := Ext.refl s0
 refine Calls_of (n := 95) (args := [w0, .int .i64 a1]) Try.func25 rfl rfl (by simp) ?_
 refine W_seq ?_
 refine W_region ?_
 refine L_assign (rfl : _ = Value.slice none 0 0) (by decide) ?_
 refine L_assign (rfl : _ = Value.int .i64 (0)) (by decide) ?_
 refine L_nil ?_
 refine then_n ?_
 refine W_seq ?_
 refine W_region ?_
 refine L_move (rfl : _ = w0) (by decide) ?_
 refine L_move (rfl : _ = Value.int .i64 (a1)) (by decide) ?_
 obtain ⟨y1, hy2, hr⟩ := bind_some hr
 refine L_calls cal24 (args2 (rfl : _ = w0) (rfl : _ = Value.int .i64 (a1))) (dead_Blocks_ok N _ _ _ h0 a1 y1 hy2) (by decide) ?_
 intro v3 s6 e4 hv5
 have hE7 := Tch.ext hE0 e4
 obtain ⟨v8, v9, rfl, hv10, hv11⟩ := hv5
 obtain rfl := hv11.int
 refine L_move (rfl : _ = Value.tuple #[v8, Value.int .i64 (y1.2)]) (by decide) ?_
 refine L_extract (rfl : _ = Value.tuple #[v8, Value.int .i64 (y1.2)]) (k := 0) rfl (by decide) ?_
 refine L_extract (rfl : _ = Value.tuple #[v8, Value.int .i64 (y1.2)]) (k := 1) rfl (by decide) ?_
 refine L_assign (rfl : _ = v8) (by decide) ?_
 refine L_assign (rfl : _ = Value.int .i64 (y1.2)) (by decide) ?_
 refine L_nil ?_
 refine then_n ?_
 refine W_seq ?_
 refine W_seq ?_
 refine W_region ?_
 refine L_move (rfl : _ = Value.int .i64 (y1.2)) (by decide) ?_
 refine L_neq (rfl : _ = Value.int .i64 (y1.2)) (rfl : _ = Value.int .i64 (0)) (by decide) ?_
 refine L_nil ?_
 refine then_n ?_
 refine W_cond _ (rfl : _ = Value.bool (!decide (y1.2 = 0))) (fun hb12 => ?_) (fun hb12 => ?_)
 ·have hr := ite_t hb12 hr
  refine W_seq ?_
  refine W_region ?_
  refine L_move (rfl : _ = Value.int .i64 (y1.2)) (by decide) ?_
  refine L_assign (rfl : _ = Value.slice none 0 0) (by decide) ?_
  refine L_assign (rfl : _ = Value.int .i64 (y1.2)) (by decide) ?_
  refine L_nil ?_
  refine then_n ?_
  refine W_ret ?_
  refine then_r ?_
  obtain rfl := Option.some.inj hr
  exact done2 (Or.inl rfl) Try.results25 rfl rfl ⟨_, _, rfl, rfl, hE7, _, _, rfl, Vnil, Vint⟩
 ·have hr := ite_f hb12 hr
  refine W_skip ?_
  refine then_n ?_
  refine W_seq ?_
  refine W_region ?_
  refine L_makeMap (β := Int) (by decide) ?_
  intro s17 b14 e13 hb15 hv16
  have hE18 := Tch.ext hE7 e13
  refine L_assign (rfl : _ = Value.map (some b14)) (by decide) ?_
  refine L_nil ?_
  refine then_n ?_
  refine W_seq ?_
  refine W_seq ?_
  refine W_region ?_
  refine L_move (rfl : _ = v8) (by decide) ?_
  refine L_len Try.underlying53 (rfl : _ = v8) (hv10.mono e13.le) (by decide) ?_
  refine L_move (rfl : _ = Value.int .i64 (0)) (by decide) ?_
  refine L_nil ?_
  refine then_n ?_
  obtain ⟨o22, ho23, hq25⟩ := bind_some hr
  refine W_cut (fun f w => ∃ (s : St) (x21 : List (Int × Int)), s.w = w ∧ Ext s0 s ∧ Le s17 s ∧ x21 = o22 ∧ f 6 = v8 ∧ f 8 = Value.map (some b14) ∧ MapX s b14 x21) ?_ ?_
  ·refine W_block ?_
   refine W_loop (fun m f w => ∃ (s : St) (x20 : Int) (x19 : List (Int × Int)), s.w = w ∧ Ext s0 s ∧ Le s17 s ∧ dead_Cycle_l1 N y1 m x20 x19 = some o22 ∧ f 31 = Value.int .i64 x20 ∧ f 6 = v8 ∧ f 8 = Value.map (some b14) ∧ f 29 = v8 ∧ f 30 = Value.int .i64 ((y1.1.length : Int)) ∧ MapX s b14 x19) N ⟨s17, 0, ([] : List (Int × Int)), rfl, hE18, (Le.refl _), ho23, rfl, rfl, rfl, rfl, rfl, hv16⟩ ?_
   rintro m24 f110 w111 ⟨s27, x20, x19, rfl, hE29, l28, hr, g30_31, g30_6, g30_8, g30_29, g30_30, hx31⟩
   cases m24 with
   | zero => exact absurd hr (by simp [dead_Cycle_l1])
   | succ m24 =>
    rw [dead_Cycle_l1.eq_2] at hr
    refine W_seq ?_
    refine W_region ?_
    refine L_lss g30_31 g30_30 (by decide) ?_
    refine L_nil ?_
    refine then_n ?_
    refine W_seq ?_
    refine W_cond _ (rfl : _ = Value.bool (decide (x20 < (y1.1.length : Int)))) (fun hb32 => ?_) (fun hb32 => ?_)
    ·have hr := ite_t hb32 hr
     refine W_skip ?_
     refine then_n ?_
     refine W_seq ?_
     refine W_block ?_
     refine W_seq ?_
     refine W_region ?_
     obtain ⟨y33, hy34, hr⟩ := bind_some hr
     refine L_index Try.underlying53 ty58.inf g30_29 (hv10.mono (e13.le.trans l28)) g30_31 hy34 (by decide) ?_
     intro p35 hp36
     refine L_load ty58 (rfl : _ = p35) hp36 (by decide) ?_
     intro v37 hv38
     refine L_alloc (α := Block) (x := ⟨0, 0, []⟩) zero58 Block.zero_rel (by decide) ?_
     intro s43 b40 e39 hb41 hv42
     have hE44 := Tch.ext hE29 e39
     have ap45 : ∀ k, (fun k => k = b14) k → ¬ (fun k => k = b40) k := fun k h1 h2 => by have h3 := (fun k (hk : k = b14) => lt_at hk (hx31).lt) k h1; have h4 := hb41; subst h2; omega
     refine L_store_ro ty58 (rfl : _ = Value.pointer (some ⟨b40, 0, none⟩)) (rfl : _ = v37) (hv38.mono e39.le) (hv42) ?_
     intro s48 e46 hv47
     have hE49 := Tch.trans hE44 e46 (fun k hk => Or.inr (by subst hk; exact (Nat.le_trans hE29.size hb41)))
     refine L_nil ?_
     refine then_n ?_
     refine W_seq ?_
     refine W_region ?_
     refine L_fieldAddr fld58_2 Block.of_For (rfl : _ = Value.pointer (some ⟨b40, 0, none⟩)) hv47 (by decide) ?_
     intro p50 hp51
     refine L_load ty23 (rfl : _ = p50) hp51 (by decide) ?_
     intro v52 hv53
     refine L_len Try.underlying23 (rfl : _ = v52) hv53 (by decide) ?_
     refine L_move (rfl : _ = Value.int .i64 (0)) (by decide) ?_
     refine L_nil ?_
     refine then_n ?_
     obtain ⟨o57, ho58, hq60⟩ := bind_some hr
     refine W_cut (fun f w => ∃ (s : St) (x56 : List (Int × Int)), s.w = w ∧ Ext s0 s ∧ Le s48 s ∧ x56 = o57 ∧ f 6 = v8 ∧ f 8 = Value.map (some b14) ∧ f 29 = v8 ∧ f 30 = Value.int .i64 ((y1.1.length : Int)) ∧ f 31 = Value.int .i64 (x20) ∧ MapX s b14 x56) ?_ ?_
     ·refine W_block ?_
      refine W_loop (fun m f w => ∃ (s : St) (x55 : Int) (x54 : List (Int × Int)), s.w = w ∧ Ext s0 s ∧ Le s48 s ∧ dead_Cycle_l2 N y1 y33 m x55 x54 = some o57 ∧ f 38 = Value.int .i64 x55 ∧ f 6 = v8 ∧ f 8 = Value.map (some b14) ∧ f 10 = Value.pointer (some ⟨b40, 0, none⟩) ∧ f 29 = v8 ∧ f 30 = Value.int .i64 ((y1.1.length : Int)) ∧ f 31 = Value.int .i64 (x20) ∧ f 36 = v52 ∧ f 37 = Value.int .i64 ((y33.For.length : Int)) ∧ MapX s b14 x54) N ⟨s48, 0, x19, rfl, hE49, (Le.refl _), ho58, rfl, g30_6, g30_8, rfl, g30_29, g30_30, g30_31, rfl, rfl, ((hx31).ext e39).tch e46 ((fun k hk => ap45 k hk) b14 rfl)⟩ ?_
      rintro m59 f100 w101 ⟨s62, x55, x54, rfl, hE64, l63, hr, g65_38, g65_6, g65_8, g65_10, g65_29, g65_30, g65_31, g65_36, g65_37, hx66⟩
      cases m59 with
      | zero => exact absurd hr (by simp [dead_Cycle_l2])
      | succ m59 =>
       rw [dead_Cycle_l2.eq_2] at hr
       refine W_seq ?_
       refine W_region ?_
       refine L_lss g65_38 g65_37 (by decide) ?_
       refine L_nil ?_
       refine then_n ?_
       refine W_seq ?_
       refine W_cond _ (rfl : _ = Value.bool (decide (x55 < (y33.For.length : Int)))) (fun hb67 => ?_) (fun hb67 => ?_)
       ·have hr := ite_t hb67 hr
        refine W_skip ?_
        refine then_n ?_
        refine W_seq ?_
        refine W_block ?_
        refine W_seq ?_
        refine W_region ?_
        obtain ⟨y68, hy69, hr⟩ := bind_some hr
        refine L_index Try.underlying23 ty3.inf g65_36 (hv53.mono l63) g65_38 hy69 (by decide) ?_
        intro p70 hp71
        refine L_load_int ty3 (rfl : _ = p70) hp71 (by decide) ?_
        refine L_alloc (α := Int) (x := 0) zero3 (fun _ => rfl) (by decide) ?_
        intro s76 b73 e72 hb74 hv75
        have hE77 := Tch.ext hE64 e72
        have ap78 : ∀ k, (fun k => k = b14) k → ¬ (fun k => k = b73) k := fun k h1 h2 => by have h3 := (fun k (hk : k = b14) => lt_at hk (hx66).lt) k h1; have h4 := hb74; subst h2; omega
        refine L_store_ro ty3 (rfl : _ = Value.pointer (some ⟨b73, 0, none⟩)) (rfl : _ = Value.int .i64 (y68)) Vint (hv75) ?_
        intro s81 e79 hv80
        have hE82 := Tch.trans hE77 e79 (fun k hk => Or.inr (by subst hk; exact (Nat.le_trans hE64.size hb74)))
        refine L_nil ?_
        refine then_n ?_
        refine W_seq ?_
        refine W_region ?_
        refine L_move g65_6 (by decide) ?_
        refine L_makeFunc (args1 (rfl : _ = Value.pointer (some ⟨b73, 0, none⟩))) (by decide) ?_
        obtain ⟨y83, hy84, hr⟩ := bind_some hr
        refine L_calls cal52 (args2 (rfl : _ = v8) (rfl : _ = Value.func (.func 53) #[] #[Value.pointer (some ⟨b73, 0, none⟩)])) (slices_ContainsFunc_Ldead_Block_dead_Block_ok N _ _ _ (hv10.mono (e13.le.trans (l28.trans (e39.le.trans (e46.le.trans (l63.trans (e72.le.trans e79.le))))))) _ (fun x => dead_Cycle_1 N x y68) (Fn1.mk1 cal53 fun t vx x r hl hv hr => dead_Cycle_1_ok N t vx x hv _ _ ((hv80).mono hl) r hr) y83 hy84) (by decide) ?_
        intro v85 s88 e86 hv87
        have hE89 := Tch.ext hE82 e86
        obtain rfl := hv87.bool
        refine L_nil ?_
        refine then_n ?_
        refine W_cond _ (rfl : _ = Value.bool (y83)) (fun hb90 => ?_) (fun hb90 => ?_)
        ·have hr := ite_t hb90 hr
         refine W_seq ?_
         refine W_region ?_
         refine L_move g65_8 (by decide) ?_
         refine L_fieldAddr fld58_0 Block.of_Process g65_10 (hv47.mono (l63.trans (e72.le.trans (e79.le.trans e86.le)))) (by decide) ?_
         intro p91 hp92
         refine L_load_int ty3 (rfl : _ = p91) hp92 (by decide) ?_
         refine L_load_int ty3 (rfl : _ = Value.pointer (some ⟨b73, 0, none⟩)) (hv80.mono e86.le) (by decide) ?_
         refine L_mapUpdate (m := x54) Try.underlying92 Try.underlying3 (rfl : _ = Value.map (some b14)) (rfl : _ = Value.int .i64 (y33.Proc)) (rfl : _ = Value.int .i64 (y68)) ((((hx66).ext e72).tch e79 ((fun k hk => ap78 k hk) b14 rfl)).ext e86) (Vint : V _ _ (y68 : Int)) ?_
         intro s95 e93 hv94
         have hE96 := Tch.trans hE89 e93 (fun k hk => Or.inr (by subst hk; exact (Nat.le_trans hE7.size hb15)))
         refine L_nil ?_
         refine then_n ?_
         refine W_exit ?_
         refine block_x (by decide) ?_
         refine then_x ?_
         refine then_x ?_
         refine block_here ?_
         exact then_n ⟨s95, (mset x54 y33.Proc y68), rfl, hE96, (l63.trans (e72.le.trans (e79.le.trans (e86.le.trans e93.le)))), Option.some.inj hr, g65_6, g65_8, g65_29, g65_30, g65_31, hv94⟩
        ·have hr := ite_f hb90 hr
         refine W_skip ?_
         refine block_n ?_
         refine then_n ?_
         refine W_region ?_
         obtain ⟨hc97, hr⟩ := chk_some hr
         refine L_add g65_38 (rfl : _ = Value.int .i64 (1)) hc97 (by decide) ?_
         refine L_move (rfl : _ = Value.int .i64 (x55 + 1)) (by decide) ?_
         refine L_nil ?_
         exact then_n ⟨m59, Nat.lt_succ_self _, ⟨s88, (x55 + 1), x54, rfl, hE89, (l63.trans (e72.le.trans (e79.le.trans e86.le))), hr, rfl, g65_6, g65_8, g65_10, g65_29, g65_30, g65_31, g65_36, g65_37, (((hx66).ext e72).tch e79 ((fun k hk => ap78 k hk) b14 rfl)).ext e86⟩⟩
       ·have hr := ite_f hb67 hr
        refine W_exit ?_
        refine then_x ?_
        refine then_x ?_
        refine block_here ?_
        exact then_n ⟨s62, x54, rfl, hE64, l63, Option.some.inj hr, g65_6, g65_8, g65_29, g65_30, g65_31, hx66⟩
     ·rintro f98 w99 ⟨s102, x56, rfl, hE104, l103, ho58, g105_6, g105_8, g105_29, g105_30, g105_31, hx106⟩
      subst ho58
      have hr := hq60
      try dsimp only at hr
      refine block_n ?_
      refine then_n ?_
      refine W_region ?_
      obtain ⟨hc107, hr⟩ := chk_some hr
      refine L_add g105_31 (rfl : _ = Value.int .i64 (1)) hc107 (by decide) ?_
      refine L_move (rfl : _ = Value.int .i64 (x20 + 1)) (by decide) ?_
      refine L_nil ?_
      exact then_n ⟨m24, Nat.lt_succ_self _, ⟨s102, (x20 + 1), x56, rfl, hE104, (l28.trans (e39.le.trans (e46.le.trans l103))), hr, rfl, g105_6, g105_8, g105_29, g105_30, hx106⟩⟩
    ·have hr := ite_f hb32 hr
     refine W_exit ?_
     refine then_x ?_
     refine then_x ?_
     refine block_here ?_
     exact then_n ⟨s27, x19, rfl, hE29, l28, Option.some.inj hr, g30_6, g30_8, hx31⟩
  ·rintro f108 w109 ⟨s112, x21, rfl, hE114, l113, ho23, g115_6, g115_8, hx116⟩
   subst ho23
   have hr := hq25
   try dsimp only at hr
   refine then_n ?_
   refine W_seq ?_
   refine W_seq ?_
   refine W_region ?_
   refine L_move g115_6 (by decide) ?_
   refine L_len Try.underlying53 (rfl : _ = v8) (hv10.mono (e13.le.trans l113)) (by decide) ?_
   refine L_move (rfl : _ = Value.int .i64 (0)) (by decide) ?_
   refine L_nil ?_
   refine then_n ?_
   obtain ⟨o118, ho119, hq121⟩ := bind_some hr
   refine W_cut (fun f w => ∃ (s : St), s.w = w ∧ Ext s0 s ∧ Le s112 s ∧ Sum.inl () = o118) ?_ ?_
   ·refine W_block ?_
    refine W_loop (fun m f w => ∃ (s : St) (x117 : Int), s.w = w ∧ Ext s0 s ∧ Le s112 s ∧ dead_Cycle_l3 N y1 x21 m x117 = some o118 ∧ f 53 = Value.int .i64 x117 ∧ f 8 = Value.map (some b14) ∧ f 51 = v8 ∧ f 52 = Value.int .i64 ((y1.1.length : Int)) ∧ MapX s b14 x21) N ⟨s112, 0, rfl, hE114, (Le.refl _), ho119, rfl, g115_8, rfl, rfl, hx116⟩ ?_
    rintro m120 f365 w366 ⟨s123, x117, rfl, hE125, l124, hr, g126_53, g126_8, g126_51, g126_52, hx127⟩
    cases m120 with
    | zero => exact absurd hr (by simp [dead_Cycle_l3])
    | succ m120 =>
     rw [dead_Cycle_l3.eq_2] at hr
     refine W_seq ?_
     refine W_region ?_
     refine L_lss g126_53 g126_52 (by decide) ?_
     refine L_nil ?_
     refine then_n ?_
     refine W_seq ?_
     refine W_cond _ (rfl : _ = Value.bool (decide (x117 < (y1.1.length : Int)))) (fun hb128 => ?_) (fun hb128 => ?_)
     ·have hr := ite_t hb128 hr
      refine W_skip ?_
      refine then_n ?_
      refine W_seq ?_
      refine W_block ?_
      refine W_seq ?_
      refine W_region ?_
      obtain ⟨y129, hy130, hr⟩ := bind_some hr
      refine L_index Try.underlying53 ty58.inf g126_51 (hv10.mono (e13.le.trans (l113.trans l124))) g126_53 hy130 (by decide) ?_
      intro p131 hp132
      refine L_load ty58 (rfl : _ = p131) hp132 (by decide) ?_
      intro v133 hv134
      refine L_alloc (α := Block) (x := ⟨0, 0, []⟩) zero58 Block.zero_rel (by decide) ?_
      intro s139 b136 e135 hb137 hv138
      have hE140 := Tch.ext hE125 e135
      have ap141 : ∀ k, (fun k => k = b14) k → ¬ (fun k => k = b136) k := fun k h1 h2 => by have h3 := (fun k (hk : k = b14) => lt_at hk (hx127).lt) k h1; have h4 := hb137; subst h2; omega
      refine L_store_ro ty58 (rfl : _ = Value.pointer (some ⟨b136, 0, none⟩)) (rfl : _ = v133) (hv134.mono e135.le) (hv138) ?_
      intro s144 e142 hv143
      have hE145 := Tch.trans hE140 e142 (fun k hk => Or.inr (by subst hk; exact (Nat.le_trans hE125.size hb137)))
      refine L_nil ?_
      refine then_n ?_
      refine W_seq ?_
      refine W_region ?_
      refine L_assign (rfl : _ = Value.slice none 0 0) (by decide) ?_
      refine L_nil ?_
      refine then_n ?_
      refine W_seq ?_
      refine W_region ?_
      refine L_fieldAddr fld58_0 Block.of_Process (rfl : _ = Value.pointer (some ⟨b136, 0, none⟩)) hv143 (by decide) ?_
      intro p146 hp147
      refine L_load_int ty3 (rfl : _ = p146) hp147 (by decide) ?_
      refine L_assign (rfl : _ = Value.int .i64 (y129.Proc)) (by decide) ?_
      refine L_assign (rfl : _ = Value.bool (true)) (by decide) ?_
      refine L_nil ?_
      refine then_n ?_
      refine W_seq ?_
      obtain ⟨o156, ho157, hq159⟩ := bind_some hr
      refine W_cut (fun f w => ∃ (s : St) (v153 : Value) (x152 : List Int) (x154 : Int) (x155 : Bool), s.w = w ∧ Ext s0 s ∧ Le s144 s ∧ (x152, x154, x155) = o156 ∧ f 15 = v153 ∧ Bld s s0.w.heap.size 3 v153 x152 ∧ f 16 = Value.int .i64 x154 ∧ f 17 = Value.bool x155 ∧ f 8 = Value.map (some b14) ∧ f 51 = v8 ∧ f 52 = Value.int .i64 ((y1.1.length : Int)) ∧ f 53 = Value.int .i64 (x117) ∧ MapX s b14 x21 ∧ (∀ k, (own v153) k → ¬ (fun k => k = b14) k)) ?_ ?_
      ·refine W_block ?_
       refine W_loop (fun m f w => ∃ (s : St) (v149 : Value) (x148 : List Int) (x150 : Int) (x151 : Bool), s.w = w ∧ Ext s0 s ∧ Le s144 s ∧ dead_Cycle_l4 N x21 m x148 x150 x151 = some o156 ∧ f 15 = v149 ∧ Bld s s0.w.heap.size 3 v149 x148 ∧ f 16 = Value.int .i64 x150 ∧ f 17 = Value.bool x151 ∧ f 8 = Value.map (some b14) ∧ f 51 = v8 ∧ f 52 = Value.int .i64 ((y1.1.length : Int)) ∧ f 53 = Value.int .i64 (x117) ∧ MapX s b14 x21 ∧ (∀ k, (own v149) k → ¬ (fun k => k = b14) k)) N ⟨s144, (Value.slice none 0 0), ([]), y129.Proc, true, rfl, hE145, (Le.refl _), ho157, rfl, Bld.nil, rfl, rfl, g126_8, g126_51, g126_52, g126_53, ((hx127).ext e135).tch e142 ((fun k hk => ap141 k hk) b14 rfl), (fun k h => absurd h own_nil)⟩ ?_
       rintro m158 f205 w206 ⟨s161, v149, x148, x150, x151, rfl, hE163, l162, hr, g164_15, hb165, g164_16, g164_17, g164_8, g164_51, g164_52, g164_53, hx166, ap167⟩
       cases m158 with
       | zero => exact absurd hr (by simp [dead_Cycle_l4])
       | succ m158 =>
        rw [dead_Cycle_l4.eq_2] at hr
        refine W_seq ?_
        obtain ⟨o169, ho170, hq171⟩ := bind_some hr
        refine W_seq_cut (fun f w => ∃ (s : St) (x168 : Bool), s.w = w ∧ Ext s0 s ∧ Le s161 s ∧ x168 = o169 ∧ f 65 = Value.bool x168 ∧ f 8 = Value.map (some b14) ∧ f 15 = v149 ∧ f 16 = Value.int .i64 (x150) ∧ f 17 = Value.bool (x151) ∧ f 51 = v8 ∧ f 52 = Value.int .i64 ((y1.1.length : Int)) ∧ f 53 = Value.int .i64 (x117) ∧ MapX s b14 x21 ∧ Bld s s0.w.heap.size 3 v149 x148) ?_ ?_
        ·have hr := ho170
         refine W_region ?_
         refine L_move g164_17 (by decide) ?_
         refine L_move (rfl : _ = Value.bool (x151)) (by decide) ?_
         rcases Bool.eq_false_or_eq_true (x151) with hb172 | hb172
         ·have hr := ite_t hb172 hr
          refine L_gt (e := 60) (by rfl) (by decide) (rfl : _ = Value.bool (x151)) hb172 ?_
          refine L_move g164_15 (by decide) ?_
          refine L_gt (e := 60) (by rfl) (by decide) (rfl : _ = Value.bool (x151)) hb172 ?_
          refine L_move g164_16 (by decide) ?_
          refine L_gt (e := 60) (by rfl) (by decide) (rfl : _ = Value.bool (x151)) hb172 ?_
          obtain ⟨y173, hy174, hr⟩ := bind_some hr
          refine L_calls cal54 (args2 (rfl : _ = v149) (rfl : _ = Value.int .i64 (x150))) (slices_Contains_Lint_int_ok N _ _ _ (hb165).toV x150 y173 hy174) (by decide) ?_
          intro v175 s178 e176 hv177
          have hE179 := Tch.ext hE163 e176
          obtain rfl := hv177.bool
          refine L_gt (e := 60) (by rfl) (by decide) (rfl : _ = Value.bool (x151)) hb172 ?_
          refine L_not (rfl : _ = Value.bool (y173)) (by decide) ?_
          refine L_pick_t (rfl : _ = Value.bool (x151)) hb172 (rfl : _ = Value.bool (!y173)) (by decide) ?_
          refine L_nil ?_
          exact then_n ⟨s178, (!y173), rfl, hE179, e176.le, Option.some.inj hr, rfl, g164_8, g164_15, g164_16, g164_17, g164_51, g164_52, g164_53, (hx166).ext e176, (hb165).ext e176⟩
         ·have hr := ite_f hb172 hr
          refine L_gf (e := 60) (by rfl) (by decide) (rfl : _ = Value.bool (x151)) hb172 (by decide) ?_
          refine L_gf (e := 60) (by rfl) (by decide) (rfl : _ = Value.bool (x151)) hb172 (by decide) ?_
          refine L_gf (e := 60) (by rfl) (by decide) (rfl : _ = Value.bool (x151)) hb172 (by decide) ?_
          refine L_gf (e := 60) (by rfl) (by decide) (rfl : _ = Value.bool (x151)) hb172 (by decide) ?_
          refine L_pick_f (rfl : _ = Value.bool (x151)) hb172 (rfl : _ = Value.bool (false)) (by decide) ?_
          refine L_nil ?_
          exact then_n ⟨s161, false, rfl, hE163, (Le.refl _), Option.some.inj hr, rfl, g164_8, g164_15, g164_16, g164_17, g164_51, g164_52, g164_53, hx166, hb165⟩
        ·rintro f201 w202 ⟨s180, x168, rfl, hE182, l181, ho170, g183_65, g183_8, g183_15, g183_16, g183_17, g183_51, g183_52, g183_53, hx184, hx185⟩
         subst ho170
         have hr := hq171
         try dsimp only at hr
         refine W_cond _ g183_65 (fun hb186 => ?_) (fun hb186 => ?_)
         ·have hr := ite_t hb186 hr
          refine W_skip ?_
          refine then_n ?_
          refine W_block ?_
          refine W_seq ?_
          refine W_region ?_
          refine L_move g183_15 (by decide) ?_
          refine L_move g183_16 (by decide) ?_
          refine L_buildSlice (xs := ([x150] : List Int)) Try.underlying23 tyz3 (Parts_cons rfl (rfl : _ = Value.int .i64 (x150)) Parts_nil) (Vs.cons Vint Vs.nil) rfl (by decide) (by decide) ?_
          intro s191 v188 e187 hb189 hv190
          have hE192 := Tch.ext hE182 e187
          obtain ⟨hc193, hr⟩ := chk_some hr
          refine L_append (xs := x148) (B := s0.w.heap.size) Try.underlying23 tyz3 (rfl : _ = v149) (rfl : _ = v188) ((hx185).ext e187) (hE192.size) hv190 hc193.1 hc193.2 (by decide) ?_
          intro v194 s196 g195
          have hE197 := g195.tchM ((hx185).ext e187) hE192 (Nat.le_refl _)
          have ap198 : ∀ k, (fun k => k = b14) k → ¬ own v194 k := fun k h1 h2 => by rcases g195.own k h2 with h3 | h3; exact (fun k hk hm => ap167 k hm hk) k h1 h3; have h4 := ((hx184).ext e187).lt; subst h1; omega
          refine L_assign (rfl : _ = v194) (by decide) ?_
          refine L_nil ?_
          refine then_n ?_
          refine W_region ?_
          refine L_move g183_8 (by decide) ?_
          refine L_move g183_16 (by decide) ?_
          refine L_lookupX_ok (m := x21) (z0 := (0 : Int)) Try.underlying92 Try.underlying3 zero3 Vint (rfl : _ = Value.map (some b14)) (rfl : _ = Value.int .i64 (x150)) (((hx184).ext e187).tch g195.tch ((fun k hk hm => ap167 k hm hk) b14 rfl)) (by decide) ?_
          intro v199 hv200
          obtain rfl := hv200.int
          refine L_move (rfl : _ = Value.tuple #[Value.int .i64 ((mget x21 x150).getD (0 : Int)), Value.bool ((mget x21 x150).isSome)]) (by decide) ?_
          refine L_extract (rfl : _ = Value.tuple #[Value.int .i64 ((mget x21 x150).getD (0 : Int)), Value.bool ((mget x21 x150).isSome)]) (k := 0) rfl (by decide) ?_
          refine L_extract (rfl : _ = Value.tuple #[Value.int .i64 ((mget x21 x150).getD (0 : Int)), Value.bool ((mget x21 x150).isSome)]) (k := 1) rfl (by decide) ?_
          refine L_assign (rfl : _ = Value.int .i64 ((mget x21 x150).getD (0 : Int))) (by decide) ?_
          refine L_assign (rfl : _ = Value.bool ((mget x21 x150).isSome)) (by decide) ?_
          refine L_nil ?_
          refine block_n ?_
          exact then_n ⟨m158, Nat.lt_succ_self _, ⟨s196, v194, (x148 ++ ([x150] : List Int)), ((mget x21 x150).getD (0 : Int)), ((mget x21 x150).isSome), rfl, hE197, (l162.trans (l181.trans (e187.le.trans g195.tch.le))), hr, rfl, g195.bld, rfl, rfl, g183_8, g183_51, g183_52, g183_53, ((hx184).ext e187).tch g195.tch ((fun k hk hm => ap167 k hm hk) b14 rfl), (fun k hk hm => ap198 k hm hk)⟩⟩
         ·have hr := ite_f hb186 hr
          refine W_exit ?_
          refine then_x ?_
          refine then_x ?_
          refine block_here ?_
          exact then_n ⟨s180, v149, x148, x150, x151, rfl, hE182, (l162.trans l181), Option.some.inj hr, g183_15, hx185, g183_16, g183_17, g183_8, g183_51, g183_52, g183_53, hx184, ap167⟩
      ·rintro f203 w204 ⟨s207, v153, x152, x154, x155, rfl, hE209, l208, ho157, g210_15, hb211, g210_16, g210_17, g210_8, g210_51, g210_52, g210_53, hx212, ap213⟩
       subst ho157
       have hr := hq159
       try dsimp only at hr
       refine then_n ?_
       refine W_seq ?_
       refine W_region ?_
       refine L_move g210_17 (by decide) ?_
       refine L_nil ?_
       refine then_n ?_
       refine W_cond _ (rfl : _ = Value.bool (x155)) (fun hb214 => ?_) (fun hb214 => ?_)
       ·have hr := ite_t hb214 hr
        refine W_seq ?_
        refine W_region ?_
        refine L_move g210_15 (by decide) ?_
        refine L_move g210_15 (by decide) ?_
        refine L_move g210_16 (by decide) ?_
        obtain ⟨y215, hy216, hr⟩ := bind_some hr
        refine L_calls cal55 (args2 (rfl : _ = v153) (rfl : _ = Value.int .i64 (x154))) (slices_Index_Lint_int_ok N _ _ _ (hb211).toV x154 y215 hy216) (by decide) ?_
        intro v217 s220 e218 hv219
        have hE221 := Tch.ext hE209 e218
        obtain rfl := hv219.int
        obtain ⟨y222, hy223, hr⟩ := bind_some hr
        refine L_slice_l Try.underlying23 ty3.inf (rfl : _ = v153) ((hb211).ext e218).toV (rfl : _ = Value.int .i64 (y215)) hy223 (by decide) ?_
        intro v224 hv225
        refine L_assign (rfl : _ = v224) (by decide) ?_
        refine L_nil ?_
        refine then_n ?_
        refine W_seq ?_
        refine W_region ?_
        refine L_move (rfl : _ = v224) (by decide) ?_
        refine L_move (rfl : _ = v224) (by decide) ?_
        obtain ⟨y226, hy227, hr⟩ := bind_some hr
        refine L_calls cal56 (args1 (rfl : _ = v224)) (slices_Min_Lint_int_ok N _ _ _ hv225 y226 hy227) (by decide) ?_
        intro v228 s231 e229 hv230
        have hE232 := Tch.ext hE221 e229
        obtain rfl := hv230.int
        obtain ⟨y233, hy234, hr⟩ := bind_some hr
        refine L_calls cal55 (args2 (rfl : _ = v224) (rfl : _ = Value.int .i64 (y226))) (slices_Index_Lint_int_ok N _ _ _ (hv225.mono e229.le) y226 y233 hy234) (by decide) ?_
        intro v235 s238 e236 hv237
        have hE239 := Tch.ext hE232 e236
        obtain rfl := hv237.int
        refine L_assign (rfl : _ = Value.int .i64 (y233)) (by decide) ?_
        refine L_nil ?_
        refine then_n ?_
        refine W_seq ?_
        obtain ⟨y240, hy241, hr⟩ := bind_some hr
        obtain ⟨y244, hy245, hr⟩ := bind_some hr
        obtain ⟨y254, hy255, hr⟩ := bind_some hr
        refine W_draws mixed (by kernel_rfl) [PV.data (y222 : List Int), PV.eq (Value.int .i64 (y233)), PV.data (y240 : List Int), PV.data (y222 : List Int), PV.eq (Value.int .i64 (y233)), PV.data (y244 : List Int), PV.data (([y240, y244] : List (List Int)) : List (List Int)), PV.data (y254 : List Int), PV.data (y254 : List Int), PV.eq (Value.int .i64 (0))] (Steps_cons ?_ (Steps_cons ?_ (Steps_cons ?_ (Steps_cons ?_ (Steps_cons ?_ (Steps_cons ?_ (Steps_cons ?_ (Steps_cons ?_ (Steps_cons ?_ (Steps_cons ?_ Steps_nil)))))))))) ?_
        ·intro f263 s261 e262 hA264 hB265 Q hk266
         have ha267 : f263 15 = v224 := (hB265 15 (by kernel_rfl)).trans rfl
         refine L_move ha267 (by decide) ?_
         exact L_nil (hk266 _ _ (Ext.refl s261) (hv225.mono (e229.le.trans (e236.le.trans e262.le))))
        ·intro f270 s268 e269 hA271 hB272 Q hk273
         have ha274 : f270 18 = Value.int .i64 (y233) := (hB272 18 (by kernel_rfl)).trans rfl
         refine L_move ha274 (by decide) ?_
         exact L_nil (hk273 _ _ (Ext.refl s268) rfl)
        ·intro f277 s275 e276 hA278 hB279 Q hk280
         have ha281 : V _ (f277 86) (y222 : List Int) := hA278 0 86 (by kernel_rfl) (by kernel_rfl)
         obtain ⟨v282, q283, hv284⟩ : ∃ v, _ = v ∧ V _ v _ := ⟨_, rfl, ha281⟩
         have ha285 : f277 87 = Value.int .i64 (y233) := hA278 1 87 (by kernel_rfl) (by kernel_rfl)
         refine L_slice_l Try.underlying23 ty3.inf q283 hv284 ha285 hy241 (by decide) ?_
         intro v242 hv243
         exact L_nil (hk280 _ _ (Ext.refl s275) hv243)
        ·intro f288 s286 e287 hA289 hB290 Q hk291
         have ha292 : f288 15 = v224 := (hB290 15 (by kernel_rfl)).trans rfl
         refine L_move ha292 (by decide) ?_
         exact L_nil (hk291 _ _ (Ext.refl s286) (hv225.mono (e229.le.trans (e236.le.trans e287.le))))
        ·intro f295 s293 e294 hA296 hB297 Q hk298
         have ha299 : f295 18 = Value.int .i64 (y233) := (hB297 18 (by kernel_rfl)).trans rfl
         refine L_move ha299 (by decide) ?_
         exact L_nil (hk298 _ _ (Ext.refl s293) rfl)
        ·intro f302 s300 e301 hA303 hB304 Q hk305
         have ha306 : V _ (f302 89) (y222 : List Int) := hA303 3 89 (by kernel_rfl) (by kernel_rfl)
         obtain ⟨v307, q308, hv309⟩ : ∃ v, _ = v ∧ V _ v _ := ⟨_, rfl, ha306⟩
         have ha310 : f302 90 = Value.int .i64 (y233) := hA303 4 90 (by kernel_rfl) (by kernel_rfl)
         refine L_slice_h Try.underlying23 ty3.inf q308 hv309 ha310 hy245 (by decide) ?_
         intro v246 hv247
         exact L_nil (hk305 _ _ (Ext.refl s300) hv247)
        ·intro f313 s311 e312 hA314 hB315 Q hk316
         have ha317 : V _ (f313 88) (y240 : List Int) := hA314 2 88 (by kernel_rfl) (by kernel_rfl)
         obtain ⟨v318, q319, hv320⟩ : ∃ v, _ = v ∧ V _ v _ := ⟨_, rfl, ha317⟩
         have ha321 : V _ (f313 91) (y244 : List Int) := hA314 5 91 (by kernel_rfl) (by kernel_rfl)
         obtain ⟨v322, q323, hv324⟩ : ∃ v, _ = v ∧ V _ v _ := ⟨_, rfl, ha321⟩
         refine L_buildSlice (xs := ([y240, y244] : List (List Int))) Try.underlying108 tyz23 (Parts_cons rfl q319 (Parts_cons rfl q323 Parts_nil)) (Vs.cons hv320 (Vs.cons hv324 Vs.nil)) rfl (by decide) (by decide) ?_
         intro s252 v249 e248 hb250 hv251
         have hE253 := Tch.ext (Ext.refl s311) e248
         exact L_nil (hk316 _ _ hE253 hv251)
        ·intro f327 s325 e326 hA328 hB329 Q hk330
         have ha331 : V _ (f327 92) (([y240, y244] : List (List Int)) : List (List Int)) := hA328 6 92 (by kernel_rfl) (by kernel_rfl)
         obtain ⟨v332, q333, hv334⟩ : ∃ v, _ = v ∧ V _ v _ := ⟨_, rfl, ha331⟩
         refine L_calls cal57 (args1 q333) (slices_Concat_Lint_int_ok N _ _ _ hv334 y254 hy255) (by decide) ?_
         intro v256 s259 e257 hv258
         have hE260 := Tch.ext (Ext.refl s325) e257
         exact L_nil (hk330 _ _ hE260 hv258)
        ·intro f337 s335 e336 hA338 hB339 Q hk340
         have ha341 : V _ (f337 93) (y254 : List Int) := hA338 7 93 (by kernel_rfl) (by kernel_rfl)
         obtain ⟨v342, q343, hv344⟩ : ∃ v, _ = v ∧ V _ v _ := ⟨_, rfl, ha341⟩
         refine L_assign q343 (by decide) ?_
         exact L_nil (hk340 _ _ (Ext.refl s335) hv344)
        ·intro f347 s345 e346 hA348 hB349 Q hk350
         refine L_assign (rfl : _ = Value.int .i64 (0)) (by decide) ?_
         exact L_nil (hk350 _ _ (Ext.refl s345) rfl)
        ·intro f353 s351 e352 hA354 hB355
         have hE356 := Tch.ext hE239 e352
         have ha357 : V _ (f353 4) (y254 : List Int) := hA354 8 4 (by kernel_rfl)
         obtain ⟨v358, q359, hv360⟩ : ∃ v, _ = v ∧ V _ v _ := ⟨_, rfl, ha357⟩
         have ha361 : f353 5 = Value.int .i64 (0) := hA354 9 5 (by kernel_rfl)
         refine then_n ?_
         refine W_ret ?_
         refine block_r ?_
         refine then_r ?_
         refine then_r ?_
         refine block_r ?_
         obtain rfl := Option.some.inj hr
         have hr := hq121
         try dsimp only at hr
         refine then_r ?_
         refine then_r ?_
         obtain rfl := Option.some.inj hr
         exact done2 (Or.inl rfl) Try.results25 q359 ha361 ⟨_, _, rfl, rfl, hE356, _, _, rfl, hv360, Vint⟩
       ·have hr := ite_f hb214 hr
        refine W_skip ?_
        refine block_n ?_
        refine then_n ?_
        refine W_region ?_
        obtain ⟨hc362, hr⟩ := chk_some hr
        refine L_add g210_53 (rfl : _ = Value.int .i64 (1)) hc362 (by decide) ?_
        refine L_move (rfl : _ = Value.int .i64 (x117 + 1)) (by decide) ?_
        refine L_nil ?_
        exact then_n ⟨m120, Nat.lt_succ_self _, ⟨s207, (x117 + 1), rfl, hE209, (l124.trans (e135.le.trans (e142.le.trans l208))), hr, rfl, g210_8, g210_51, g210_52, hx212⟩⟩
     ·have hr := ite_f hb128 hr
      refine W_exit ?_
      refine then_x ?_
      refine then_x ?_
      refine block_here ?_
      exact then_n ⟨s123, rfl, hE125, l124, Option.some.inj hr⟩
   ·rintro f363 w364 ⟨s367, rfl, hE369, l368, ho119⟩
    subst ho119
    have hr := hq121
    try dsimp only at hr
    refine then_n ?_
    refine W_seq ?_
    refine W_region ?_
    refine L_assign (rfl : _ = Value.slice none 0 0) (by decide) ?_
    refine L_assign (rfl : _ = Value.int .i64 (0)) (by decide) ?_
    refine L_nil ?_
    refine then_n ?_
    refine W_ret ?_
    obtain rfl := Option.some.inj hr
    exact done2 (Or.inl rfl) Try.results25 rfl rfl ⟨_, _, rfl, rfl, hE369, _, _, rfl, Vnil, Vint⟩

theorem law08_send_ok (N : Nat) (s0 : St) (a0 : Int) (a1 : Int) (r : Deed) (hr : law08_send N a0 a1 = some r) :
  Calls Try.prog 28 #[.int .i64 a0, .int .i64 a1] s0.w (Ret s0 fun v s => V s v r) := by
 unfold law08_send at hr
 have hE0 := Ext.refl s0
 refine Calls_of (n := 8) (args := [.int .i64 a0, .int .i64 a1]) Try.func28 rfl rfl (by simp) ?_
 refine W_seq ?_
 refine W_region ?_
 refine L_alloc (α := Deed) (x := ⟨0, 0, 0, 0, false⟩) zero64 Deed.zero_rel (by decide) ?_
 intro s5 b2 e1 hb3 hv4
 have hE6 := Tch.ext hE0 e1
 refine L_nil ?_
 refine then_n ?_
 refine W_seq ?_
 refine W_region ?_
 refine L_move (rfl : _ = Value.int .i64 (a0)) (by decide) ?_
 refine L_move (rfl : _ = Value.int .i64 (a1)) (by decide) ?_
 refine L_bld64_0_1_2 (s := s5) (rfl : _ = Value.int .i64 (1)) (rfl : _ = Value.int .i64 (a0)) (rfl : _ = Value.int .i64 (a1)) (Vint : V _ _ (1 : Int)) (Vint : V _ _ (a0 : Int)) (Vint : V _ _ (a1 : Int)) (by decide) ?_
 intro v7 h8
 refine L_store ty64 (rfl : _ = Value.pointer (some ⟨b2, 0, none⟩)) (rfl : _ = v7) h8 (hv4) ?_
 intro s11 e9 hv10
 have hE12 := Tch.trans hE6 e9 (fun k hk => Or.inr (by subst hk; exact (Nat.le_trans hE0.size hb3)))
 refine L_nil ?_
 refine then_n ?_
 refine W_ret ?_
 obtain rfl := Option.some.inj hr
 exact done_c (Or.inl rfl) Try.results28 ty64 rfl (hv10) (fun v hv => ⟨_, _, rfl, rfl, hE12, hv⟩)

theorem law08_recv_ok (N : Nat) (s0 : St) (a0 : Int) (a1 : Int) (r : Deed) (hr : law08_recv N a0 a1 = some r) :
  Calls Try.prog 29 #[.int .i64 a0, .int .i64 a1] s0.w (Ret s0 fun v s => V s v r) := by
 unfold law08_recv at hr
 have hE0 := Ext.refl s0
 refine Calls_of (n := 8) (args := [.int .i64 a0, .int .i64 a1]) Try.func29 rfl rfl (by simp) ?_
 refine W_seq ?_
 refine W_region ?_
 refine L_alloc (α := Deed) (x := ⟨0, 0, 0, 0, false⟩) zero64 Deed.zero_rel (by decide) ?_
 intro s5 b2 e1 hb3 hv4
 have hE6 := Tch.ext hE0 e1
 refine L_nil ?_
 refine then_n ?_
 refine W_seq ?_
 refine W_region ?_
 refine L_move (rfl : _ = Value.int .i64 (a0)) (by decide) ?_
 refine L_move (rfl : _ = Value.int .i64 (a1)) (by decide) ?_
 refine L_bld64_0_1_2 (s := s5) (rfl : _ = Value.int .i64 (2)) (rfl : _ = Value.int .i64 (a0)) (rfl : _ = Value.int .i64 (a1)) (Vint : V _ _ (2 : Int)) (Vint : V _ _ (a0 : Int)) (Vint : V _ _ (a1 : Int)) (by decide) ?_
 intro v7 h8
 refine L_store ty64 (rfl : _ = Value.pointer (some ⟨b2, 0, none⟩)) (rfl : _ = v7) h8 (hv4) ?_
 intro s11 e9 hv10
 have hE12 := Tch.trans hE6 e9 (fun k hk => Or.inr (by subst hk; exact (Nat.le_trans hE0.size hb3)))
 refine L_nil ?_
 refine then_n ?_
 refine W_ret ?_
 obtain rfl := Option.some.inj hr
 exact done_c (Or.inl rfl) Try.results29 ty64 rfl (hv10) (fun v hv => ⟨_, _, rfl, rfl, hE12, hv⟩)

set_option maxHeartbeats 1028000 in
theorem law08_works_ok (N : Nat) (s0 : St) (r : Bool) (hr : law08_works N  = some r) :
  Calls Try.prog 10 #[] s0.w (Ret s0 fun v s => V s v r) := by
 unfold law08_works at hr
 have hE0 := Ext.refl s0
 refine Calls_of (n := 205) (args := []) Try.func10 rfl rfl (by simp) ?_
 refine W_seq ?_
 refine W_region ?_
 refine L_assign (rfl : _ = Value.bool (false)) (by decide) ?_
 refine L_nil ?_
 refine then_n ?_
 refine W_seq ?_
 refine W_region ?_
 obtain ⟨y1, hy2, hr⟩ := bind_some hr
 refine L_calls cal28 (args2 (rfl : _ = Value.int .i64 (1)) (rfl : _ = Value.int .i64 (0))) (law08_send_ok N _ 1 0 y1 hy2) (by decide) ?_
 intro v3 s6 e4 hv5
 have hE7 := Tch.ext hE0 e4
 obtain ⟨y8, hy9, hr⟩ := bind_some hr
 refine L_calls cal29 (args2 (rfl : _ = Value.int .i64 (1)) (rfl : _ = Value.int .i64 (0))) (law08_recv_ok N _ 1 0 y8 hy9) (by decide) ?_
 intro v10 s13 e11 hv12
 have hE14 := Tch.ext hE7 e11
 refine L_buildSlice (xs := ([y1, y8] : List Deed)) Try.underlying59 tyz64 (Parts_cons rfl (rfl : _ = v3) (Parts_cons rfl (rfl : _ = v10) Parts_nil)) (Vs.cons (hv5.mono e11.le) (Vs.cons hv12 Vs.nil)) rfl (by decide) (by decide) ?_
 intro s19 v16 e15 hb17 hv18
 have hE20 := Tch.ext hE14 e15
 obtain ⟨y21, hy22, hr⟩ := bind_some hr
 refine L_calls cal28 (args2 (rfl : _ = Value.int .i64 (0)) (rfl : _ = Value.int .i64 (0))) (law08_send_ok N _ 0 0 y21 hy22) (by decide) ?_
 intro v23 s26 e24 hv25
 have hE27 := Tch.ext hE20 e24
 obtain ⟨y28, hy29, hr⟩ := bind_some hr
 refine L_calls cal29 (args2 (rfl : _ = Value.int .i64 (0)) (rfl : _ = Value.int .i64 (0))) (law08_recv_ok N _ 0 0 y28 hy29) (by decide) ?_
 intro v30 s33 e31 hv32
 have hE34 := Tch.ext hE27 e31
 refine L_buildSlice (xs := ([y21, y28] : List Deed)) Try.underlying59 tyz64 (Parts_cons rfl (rfl : _ = v23) (Parts_cons rfl (rfl : _ = v30) Parts_nil)) (Vs.cons (hv25.mono e31.le) (Vs.cons hv32 Vs.nil)) rfl (by decide) (by decide) ?_
 intro s39 v36 e35 hb37 hv38
 have hE40 := Tch.ext hE34 e35
 refine L_buildSlice (xs := ([([y1, y8] : List Deed), ([y21, y28] : List Deed)] : List (List Deed))) Try.underlying29 tyz59 (Parts_cons rfl (rfl : _ = v16) (Parts_cons rfl (rfl : _ = v36) Parts_nil)) (Vs.cons (hv18.mono (e24.le.trans (e31.le.trans e35.le))) (Vs.cons hv38 Vs.nil)) rfl (by decide) (by decide) ?_
 intro s45 v42 e41 hb43 hv44
 have hE46 := Tch.ext hE40 e41
 refine L_assign (rfl : _ = v42) (by decide) ?_
 refine L_nil ?_
 refine then_n ?_
 refine W_seq ?_
 refine W_region ?_
 refine L_move (rfl : _ = v42) (by decide) ?_
 obtain ⟨y47, hy48, hr⟩ := bind_some hr
 refine L_calls cal18 (args1 (rfl : _ = v42)) (dead_Decide_ok N _ _ _ hv44 y47 hy48) (by decide) ?_
 intro v49 s52 e50 hv51
 have hE53 := Tch.ext hE46 e50
 obtain ⟨v54, v55, rfl, hv56, hv57⟩ := hv51
 obtain rfl := hv57.int
 refine L_move (rfl : _ = Value.tuple #[v54, Value.int .i64 (y47.2)]) (by decide) ?_
 refine L_extract (rfl : _ = Value.tuple #[v54, Value.int .i64 (y47.2)]) (k := 0) rfl (by decide) ?_
 refine L_extract (rfl : _ = Value.tuple #[v54, Value.int .i64 (y47.2)]) (k := 1) rfl (by decide) ?_
 refine L_alloc (α := Verdict) (x := ⟨0, 0⟩) zero40 Verdict.zero_rel (by decide) ?_
 intro s62 b59 e58 hb60 hv61
 have hE63 := Tch.ext hE53 e58
 refine L_store ty40 (rfl : _ = Value.pointer (some ⟨b59, 0, none⟩)) (rfl : _ = v54) (hv56.mono e58.le) (hv61) ?_
 intro s66 e64 hv65
 have hE67 := Tch.trans hE63 e64 (fun k hk => Or.inr (by subst hk; exact (Nat.le_trans hE53.size hb60)))
 refine L_assign (rfl : _ = Value.int .i64 (y47.2)) (by decide) ?_
 refine L_nil ?_
 refine then_n ?_
 refine W_seq ?_
 refine W_region ?_
 refine L_move (rfl : _ = v42) (by decide) ?_
 obtain ⟨y68, hy69, hr⟩ := bind_some hr
 refine L_calls cal25 (args2 (rfl : _ = v42) (rfl : _ = Value.int .i64 (0))) (dead_Cycle_ok N _ _ _ (hv44.mono (e50.le.trans (e58.le.trans e64.le))) 0 y68 hy69) (by decide) ?_
 intro v70 s73 e71 hv72
 have hE74 := Tch.ext hE67 e71
 obtain ⟨v75, v76, rfl, hv77, hv78⟩ := hv72
 obtain rfl := hv78.int
 refine L_move (rfl : _ = Value.tuple #[v75, Value.int .i64 (y68.2)]) (by decide) ?_
 refine L_extract (rfl : _ = Value.tuple #[v75, Value.int .i64 (y68.2)]) (k := 0) rfl (by decide) ?_
 refine L_extract (rfl : _ = Value.tuple #[v75, Value.int .i64 (y68.2)]) (k := 1) rfl (by decide) ?_
 refine L_assign (rfl : _ = v75) (by decide) ?_
 refine L_assign (rfl : _ = Value.int .i64 (y68.2)) (by decide) ?_
 refine L_nil ?_
 refine then_n ?_
 refine W_seq ?_
 refine W_region ?_
 refine L_move (rfl : _ = v42) (by decide) ?_
 obtain ⟨y79, hy80, hr⟩ := bind_some hr
 refine L_calls cal30 (args2 (rfl : _ = v42) (rfl : _ = Value.int .i64 (0))) (dead_End_ok N _ _ _ (hv44.mono (e50.le.trans (e58.le.trans (e64.le.trans e71.le)))) 0 y79 hy80) (by decide) ?_
 intro v81 s84 e82 hv83
 have hE85 := Tch.ext hE74 e82
 obtain ⟨v86, v87, rfl, hv88, hv89⟩ := hv83
 obtain rfl := hv89.int
 refine L_move (rfl : _ = Value.tuple #[v86, Value.int .i64 (y79.2)]) (by decide) ?_
 refine L_extract (rfl : _ = Value.tuple #[v86, Value.int .i64 (y79.2)]) (k := 0) rfl (by decide) ?_
 refine L_extract (rfl : _ = Value.tuple #[v86, Value.int .i64 (y79.2)]) (k := 1) rfl (by decide) ?_
 refine L_assign (rfl : _ = v86) (by decide) ?_
 refine L_assign (rfl : _ = Value.int .i64 (y79.2)) (by decide) ?_
 refine L_nil ?_
 refine then_n ?_
 refine W_seq ?_
 obtain ⟨o91, ho92, hq93⟩ := bind_some hr
 refine W_seq_cut (fun f w => ∃ (s : St) (x90 : Bool), s.w = w ∧ Ext s0 s ∧ Le s84 s ∧ x90 = o91 ∧ f 65 = Value.bool x90 ∧ f 2 = Value.pointer (some ⟨b59, 0, none⟩) ∧ Var s b59 40 y47.1) ?_ ?_
 ·have hr := ho92
  refine W_region ?_
  refine L_load_var ty40 (rfl : _ = Value.pointer (some ⟨b59, 0, none⟩)) (((hv65).ext e71).ext e82) (by decide) ?_
  intro v94 hv95
  refine L_bld40_0_1 (s := s84) (rfl : _ = Value.int .i64 (2)) (rfl : _ = Value.int .i64 (1)) (Vint : V _ _ (2 : Int)) (Vint : V _ _ (1 : Int)) (by decide) ?_
  intro v96 h97
  refine L_sne40 (rfl : _ = v94) hv95 (rfl : _ = v96) h97 (by decide) ?_
  refine L_move (rfl : _ = Value.bool (!decide (y47.1 = (⟨2, 1⟩ : Verdict)))) (by decide) ?_
  rcases Bool.eq_false_or_eq_true (!decide (y47.1 = (⟨2, 1⟩ : Verdict))) with hb98 | hb98
  ·have hr := ite_t hb98 hr
   refine L_gf (e := 42) (by rfl) (by decide) (rfl : _ = Value.bool (!decide (y47.1 = (⟨2, 1⟩ : Verdict)))) hb98 (by decide) ?_
   refine L_gf (e := 42) (by rfl) (by decide) (rfl : _ = Value.bool (!decide (y47.1 = (⟨2, 1⟩ : Verdict)))) hb98 (by decide) ?_
   refine L_pick_t (rfl : _ = Value.bool (!decide (y47.1 = (⟨2, 1⟩ : Verdict)))) hb98 (rfl : _ = Value.bool (true)) (by decide) ?_
   refine L_move (rfl : _ = Value.bool (true)) (by decide) ?_
   refine L_gf (e := 46) (by rfl) (by decide) (rfl : _ = Value.bool (true)) rfl (by decide) ?_
   refine L_gf (e := 46) (by rfl) (by decide) (rfl : _ = Value.bool (true)) rfl (by decide) ?_
   refine L_pick_t (rfl : _ = Value.bool (true)) rfl (rfl : _ = Value.bool (true)) (by decide) ?_
   refine L_move (rfl : _ = Value.bool (true)) (by decide) ?_
   refine L_gf (e := 50) (by rfl) (by decide) (rfl : _ = Value.bool (true)) rfl (by decide) ?_
   refine L_gf (e := 50) (by rfl) (by decide) (rfl : _ = Value.bool (true)) rfl (by decide) ?_
   refine L_pick_t (rfl : _ = Value.bool (true)) rfl (rfl : _ = Value.bool (true)) (by decide) ?_
   refine L_move (rfl : _ = Value.bool (true)) (by decide) ?_
   refine L_gf (e := 54) (by rfl) (by decide) (rfl : _ = Value.bool (true)) rfl (by decide) ?_
   refine L_gf (e := 54) (by rfl) (by decide) (rfl : _ = Value.bool (true)) rfl (by decide) ?_
   refine L_gf (e := 54) (by rfl) (by decide) (rfl : _ = Value.bool (true)) rfl (by decide) ?_
   refine L_gf (e := 54) (by rfl) (by decide) (rfl : _ = Value.bool (true)) rfl (by decide) ?_
   refine L_pick_t (rfl : _ = Value.bool (true)) rfl (rfl : _ = Value.bool (true)) (by decide) ?_
   refine L_move (rfl : _ = Value.bool (true)) (by decide) ?_
   refine L_gf (e := 60) (by rfl) (by decide) (rfl : _ = Value.bool (true)) rfl (by decide) ?_
   refine L_gf (e := 60) (by rfl) (by decide) (rfl : _ = Value.bool (true)) rfl (by decide) ?_
   refine L_gf (e := 60) (by rfl) (by decide) (rfl : _ = Value.bool (true)) rfl (by decide) ?_
   refine L_gf (e := 60) (by rfl) (by decide) (rfl : _ = Value.bool (true)) rfl (by decide) ?_
   refine L_pick_t (rfl : _ = Value.bool (true)) rfl (rfl : _ = Value.bool (true)) (by decide) ?_
   refine L_nil ?_
   exact then_n ⟨s84, true, rfl, hE85, (Le.refl _), Option.some.inj hr, rfl, rfl, ((hv65).ext e71).ext e82⟩
  ·have hr := ite_f hb98 hr
   refine L_gt (e := 42) (by rfl) (by decide) (rfl : _ = Value.bool (!decide (y47.1 = (⟨2, 1⟩ : Verdict)))) hb98 ?_
   refine L_move (rfl : _ = Value.int .i64 (y47.2)) (by decide) ?_
   refine L_gt (e := 42) (by rfl) (by decide) (rfl : _ = Value.bool (!decide (y47.1 = (⟨2, 1⟩ : Verdict)))) hb98 ?_
   refine L_neq (rfl : _ = Value.int .i64 (y47.2)) (rfl : _ = Value.int .i64 (0)) (by decide) ?_
   refine L_pick_f (rfl : _ = Value.bool (!decide (y47.1 = (⟨2, 1⟩ : Verdict)))) hb98 (rfl : _ = Value.bool (!decide (y47.2 = 0))) (by decide) ?_
   refine L_move (rfl : _ = Value.bool (!decide (y47.2 = 0))) (by decide) ?_
   rcases Bool.eq_false_or_eq_true (!decide (y47.2 = 0)) with hb99 | hb99
   ·have hr := ite_t hb99 hr
    refine L_gf (e := 46) (by rfl) (by decide) (rfl : _ = Value.bool (!decide (y47.2 = 0))) hb99 (by decide) ?_
    refine L_gf (e := 46) (by rfl) (by decide) (rfl : _ = Value.bool (!decide (y47.2 = 0))) hb99 (by decide) ?_
    refine L_pick_t (rfl : _ = Value.bool (!decide (y47.2 = 0))) hb99 (rfl : _ = Value.bool (true)) (by decide) ?_
    refine L_move (rfl : _ = Value.bool (true)) (by decide) ?_
    refine L_gf (e := 50) (by rfl) (by decide) (rfl : _ = Value.bool (true)) rfl (by decide) ?_
    refine L_gf (e := 50) (by rfl) (by decide) (rfl : _ = Value.bool (true)) rfl (by decide) ?_
    refine L_pick_t (rfl : _ = Value.bool (true)) rfl (rfl : _ = Value.bool (true)) (by decide) ?_
    refine L_move (rfl : _ = Value.bool (true)) (by decide) ?_
    refine L_gf (e := 54) (by rfl) (by decide) (rfl : _ = Value.bool (true)) rfl (by decide) ?_
    refine L_gf (e := 54) (by rfl) (by decide) (rfl : _ = Value.bool (true)) rfl (by decide) ?_
    refine L_gf (e := 54) (by rfl) (by decide) (rfl : _ = Value.bool (true)) rfl (by decide) ?_
    refine L_gf (e := 54) (by rfl) (by decide) (rfl : _ = Value.bool (true)) rfl (by decide) ?_
    refine L_pick_t (rfl : _ = Value.bool (true)) rfl (rfl : _ = Value.bool (true)) (by decide) ?_
    refine L_move (rfl : _ = Value.bool (true)) (by decide) ?_
    refine L_gf (e := 60) (by rfl) (by decide) (rfl : _ = Value.bool (true)) rfl (by decide) ?_
    refine L_gf (e := 60) (by rfl) (by decide) (rfl : _ = Value.bool (true)) rfl (by decide) ?_
    refine L_gf (e := 60) (by rfl) (by decide) (rfl : _ = Value.bool (true)) rfl (by decide) ?_
    refine L_gf (e := 60) (by rfl) (by decide) (rfl : _ = Value.bool (true)) rfl (by decide) ?_
    refine L_pick_t (rfl : _ = Value.bool (true)) rfl (rfl : _ = Value.bool (true)) (by decide) ?_
    refine L_nil ?_
    exact then_n ⟨s84, true, rfl, hE85, (Le.refl _), Option.some.inj hr, rfl, rfl, ((hv65).ext e71).ext e82⟩
   ·have hr := ite_f hb99 hr
    refine L_gt (e := 46) (by rfl) (by decide) (rfl : _ = Value.bool (!decide (y47.2 = 0))) hb99 ?_
    refine L_move (rfl : _ = Value.int .i64 (y68.2)) (by decide) ?_
    refine L_gt (e := 46) (by rfl) (by decide) (rfl : _ = Value.bool (!decide (y47.2 = 0))) hb99 ?_
    refine L_neq (rfl : _ = Value.int .i64 (y68.2)) (rfl : _ = Value.int .i64 (0)) (by decide) ?_
    refine L_pick_f (rfl : _ = Value.bool (!decide (y47.2 = 0))) hb99 (rfl : _ = Value.bool (!decide (y68.2 = 0))) (by decide) ?_
    refine L_move (rfl : _ = Value.bool (!decide (y68.2 = 0))) (by decide) ?_
    rcases Bool.eq_false_or_eq_true (!decide (y68.2 = 0)) with hb100 | hb100
    ·have hr := ite_t hb100 hr
     refine L_gf (e := 50) (by rfl) (by decide) (rfl : _ = Value.bool (!decide (y68.2 = 0))) hb100 (by decide) ?_
     refine L_gf (e := 50) (by rfl) (by decide) (rfl : _ = Value.bool (!decide (y68.2 = 0))) hb100 (by decide) ?_
     refine L_pick_t (rfl : _ = Value.bool (!decide (y68.2 = 0))) hb100 (rfl : _ = Value.bool (true)) (by decide) ?_
     refine L_move (rfl : _ = Value.bool (true)) (by decide) ?_
     refine L_gf (e := 54) (by rfl) (by decide) (rfl : _ = Value.bool (true)) rfl (by decide) ?_
     refine L_gf (e := 54) (by rfl) (by decide) (rfl : _ = Value.bool (true)) rfl (by decide) ?_
     refine L_gf (e := 54) (by rfl) (by decide) (rfl : _ = Value.bool (true)) rfl (by decide) ?_
     refine L_gf (e := 54) (by rfl) (by decide) (rfl : _ = Value.bool (true)) rfl (by decide) ?_
     refine L_pick_t (rfl : _ = Value.bool (true)) rfl (rfl : _ = Value.bool (true)) (by decide) ?_
     refine L_move (rfl : _ = Value.bool (true)) (by decide) ?_
     refine L_gf (e := 60) (by rfl) (by decide) (rfl : _ = Value.bool (true)) rfl (by decide) ?_
     refine L_gf (e := 60) (by rfl) (by decide) (rfl : _ = Value.bool (true)) rfl (by decide) ?_
     refine L_gf (e := 60) (by rfl) (by decide) (rfl : _ = Value.bool (true)) rfl (by decide) ?_
     refine L_gf (e := 60) (by rfl) (by decide) (rfl : _ = Value.bool (true)) rfl (by decide) ?_
     refine L_pick_t (rfl : _ = Value.bool (true)) rfl (rfl : _ = Value.bool (true)) (by decide) ?_
     refine L_nil ?_
     exact then_n ⟨s84, true, rfl, hE85, (Le.refl _), Option.some.inj hr, rfl, rfl, ((hv65).ext e71).ext e82⟩
    ·have hr := ite_f hb100 hr
     refine L_gt (e := 50) (by rfl) (by decide) (rfl : _ = Value.bool (!decide (y68.2 = 0))) hb100 ?_
     refine L_move (rfl : _ = Value.int .i64 (y79.2)) (by decide) ?_
     refine L_gt (e := 50) (by rfl) (by decide) (rfl : _ = Value.bool (!decide (y68.2 = 0))) hb100 ?_
     refine L_neq (rfl : _ = Value.int .i64 (y79.2)) (rfl : _ = Value.int .i64 (0)) (by decide) ?_
     refine L_pick_f (rfl : _ = Value.bool (!decide (y68.2 = 0))) hb100 (rfl : _ = Value.bool (!decide (y79.2 = 0))) (by decide) ?_
     refine L_move (rfl : _ = Value.bool (!decide (y79.2 = 0))) (by decide) ?_
     rcases Bool.eq_false_or_eq_true (!decide (y79.2 = 0)) with hb101 | hb101
     ·have hr := ite_t hb101 hr
      refine L_gf (e := 54) (by rfl) (by decide) (rfl : _ = Value.bool (!decide (y79.2 = 0))) hb101 (by decide) ?_
      refine L_gf (e := 54) (by rfl) (by decide) (rfl : _ = Value.bool (!decide (y79.2 = 0))) hb101 (by decide) ?_
      refine L_gf (e := 54) (by rfl) (by decide) (rfl : _ = Value.bool (!decide (y79.2 = 0))) hb101 (by decide) ?_
      refine L_gf (e := 54) (by rfl) (by decide) (rfl : _ = Value.bool (!decide (y79.2 = 0))) hb101 (by decide) ?_
      refine L_pick_t (rfl : _ = Value.bool (!decide (y79.2 = 0))) hb101 (rfl : _ = Value.bool (true)) (by decide) ?_
      refine L_move (rfl : _ = Value.bool (true)) (by decide) ?_
      refine L_gf (e := 60) (by rfl) (by decide) (rfl : _ = Value.bool (true)) rfl (by decide) ?_
      refine L_gf (e := 60) (by rfl) (by decide) (rfl : _ = Value.bool (true)) rfl (by decide) ?_
      refine L_gf (e := 60) (by rfl) (by decide) (rfl : _ = Value.bool (true)) rfl (by decide) ?_
      refine L_gf (e := 60) (by rfl) (by decide) (rfl : _ = Value.bool (true)) rfl (by decide) ?_
      refine L_pick_t (rfl : _ = Value.bool (true)) rfl (rfl : _ = Value.bool (true)) (by decide) ?_
      refine L_nil ?_
      exact then_n ⟨s84, true, rfl, hE85, (Le.refl _), Option.some.inj hr, rfl, rfl, ((hv65).ext e71).ext e82⟩
     ·have hr := ite_f hb101 hr
      refine L_gt (e := 54) (by rfl) (by decide) (rfl : _ = Value.bool (!decide (y79.2 = 0))) hb101 ?_
      refine L_move (rfl : _ = v75) (by decide) ?_
      refine L_gt (e := 54) (by rfl) (by decide) (rfl : _ = Value.bool (!decide (y79.2 = 0))) hb101 ?_
      refine L_buildSlice (xs := ([0, 1] : List Int)) Try.underlying23 tyz3 (Parts_cons rfl (rfl : _ = Value.int .i64 (0)) (Parts_cons rfl (rfl : _ = Value.int .i64 (1)) Parts_nil)) (Vs.cons Vint (Vs.cons Vint Vs.nil)) rfl (by decide) (by decide) ?_
      intro s106 v103 e102 hb104 hv105
      have hE107 := Tch.ext hE85 e102
      refine L_gt (e := 54) (by rfl) (by decide) (rfl : _ = Value.bool (!decide (y79.2 = 0))) hb101 ?_
      obtain ⟨y108, hy109, hr⟩ := bind_some hr
      refine L_calls cal14 (args2 (rfl : _ = v75) (rfl : _ = v103)) (ref01_SameInts_ok N _ _ _ (hv77.mono (e82.le.trans e102.le)) _ _ hv105 y108 hy109) (by decide) ?_
      intro v110 s113 e111 hv112
      have hE114 := Tch.ext hE107 e111
      obtain rfl := hv112.bool
      refine L_gt (e := 54) (by rfl) (by decide) (rfl : _ = Value.bool (!decide (y79.2 = 0))) hb101 ?_
      refine L_not (rfl : _ = Value.bool (y108)) (by decide) ?_
      refine L_pick_f (rfl : _ = Value.bool (!decide (y79.2 = 0))) hb101 (rfl : _ = Value.bool (!y108)) (by decide) ?_
      refine L_move (rfl : _ = Value.bool (!y108)) (by decide) ?_
      rcases Bool.eq_false_or_eq_true (!y108) with hb115 | hb115
      ·have hr := ite_t hb115 hr
       refine L_gf (e := 60) (by rfl) (by decide) (rfl : _ = Value.bool (!y108)) hb115 (by decide) ?_
       refine L_gf (e := 60) (by rfl) (by decide) (rfl : _ = Value.bool (!y108)) hb115 (by decide) ?_
       refine L_gf (e := 60) (by rfl) (by decide) (rfl : _ = Value.bool (!y108)) hb115 (by decide) ?_
       refine L_gf (e := 60) (by rfl) (by decide) (rfl : _ = Value.bool (!y108)) hb115 (by decide) ?_
       refine L_pick_t (rfl : _ = Value.bool (!y108)) hb115 (rfl : _ = Value.bool (true)) (by decide) ?_
       refine L_nil ?_
       exact then_n ⟨s113, true, rfl, hE114, (e102.le.trans e111.le), Option.some.inj hr, rfl, rfl, ((((hv65).ext e71).ext e82).ext e102).ext e111⟩
      ·have hr := ite_f hb115 hr
       refine L_gt (e := 60) (by rfl) (by decide) (rfl : _ = Value.bool (!y108)) hb115 ?_
       refine L_move (rfl : _ = v86) (by decide) ?_
       refine L_gt (e := 60) (by rfl) (by decide) (rfl : _ = Value.bool (!y108)) hb115 ?_
       refine L_buildSlice (xs := ([0, 0] : List Int)) Try.underlying23 tyz3 (Parts_cons rfl (rfl : _ = Value.int .i64 (0)) (Parts_cons rfl (rfl : _ = Value.int .i64 (0)) Parts_nil)) (Vs.cons Vint (Vs.cons Vint Vs.nil)) rfl (by decide) (by decide) ?_
       intro s120 v117 e116 hb118 hv119
       have hE121 := Tch.ext hE114 e116
       refine L_gt (e := 60) (by rfl) (by decide) (rfl : _ = Value.bool (!y108)) hb115 ?_
       obtain ⟨y122, hy123, hr⟩ := bind_some hr
       refine L_calls cal14 (args2 (rfl : _ = v86) (rfl : _ = v117)) (ref01_SameInts_ok N _ _ _ (hv88.mono (e102.le.trans (e111.le.trans e116.le))) _ _ hv119 y122 hy123) (by decide) ?_
       intro v124 s127 e125 hv126
       have hE128 := Tch.ext hE121 e125
       obtain rfl := hv126.bool
       refine L_gt (e := 60) (by rfl) (by decide) (rfl : _ = Value.bool (!y108)) hb115 ?_
       refine L_not (rfl : _ = Value.bool (y122)) (by decide) ?_
       refine L_pick_f (rfl : _ = Value.bool (!y108)) hb115 (rfl : _ = Value.bool (!y122)) (by decide) ?_
       refine L_nil ?_
       exact then_n ⟨s127, (!y122), rfl, hE128, (e102.le.trans (e111.le.trans (e116.le.trans e125.le))), Option.some.inj hr, rfl, rfl, ((((((hv65).ext e71).ext e82).ext e102).ext e111).ext e116).ext e125⟩
 ·rintro f690 w691 ⟨s129, x90, rfl, hE131, l130, ho92, g132_65, g132_2, hx133⟩
  subst ho92
  have hr := hq93
  try dsimp only at hr
  refine W_cond _ g132_65 (fun hb134 => ?_) (fun hb134 => ?_)
  ·have hr := ite_t hb134 hr
   refine W_seq ?_
   refine W_region ?_
   refine L_assign (rfl : _ = Value.bool (false)) (by decide) ?_
   refine L_nil ?_
   refine then_n ?_
   refine W_ret ?_
   refine then_r ?_
   obtain rfl := Option.some.inj hr
   exact done1 (Or.inl rfl) Try.results10 rfl ⟨_, _, rfl, rfl, hE131, Vbool⟩
  ·have hr := ite_f hb134 hr
   refine W_skip ?_
   refine then_n ?_
   refine W_seq ?_
   refine W_region ?_
   refine L_bld64_0_1 (s := s129) (rfl : _ = Value.int .i64 (3)) (rfl : _ = Value.int .i64 (1)) (Vint : V _ _ (3 : Int)) (Vint : V _ _ (1 : Int)) (by decide) ?_
   intro v135 h136
   refine L_alloc (α := Deed) (x := ⟨0, 0, 0, 0, false⟩) zero64 Deed.zero_rel (by decide) ?_
   intro s141 b138 e137 hb139 hv140
   have hE142 := Tch.ext hE131 e137
   have ap143 : ∀ k, (fun k => k = b59) k → ¬ (fun k => k = b138) k := fun k h1 h2 => by have h3 := (fun k (hk : k = b59) => lt_at hk (hx133).lt) k h1; have h4 := hb139; subst h2; omega
   refine L_store_ro ty64 (rfl : _ = Value.pointer (some ⟨b138, 0, none⟩)) (rfl : _ = v135) (h136.mono e137.le) (hv140) ?_
   intro s146 e144 hv145
   have hE147 := Tch.trans hE142 e144 (fun k hk => Or.inr (by subst hk; exact (Nat.le_trans hE131.size hb139)))
   refine L_nil ?_
   refine then_n ?_
   refine W_seq ?_
   refine W_region ?_
   refine L_bld64_0 (s := s146) (rfl : _ = Value.int .i64 (3)) (Vint : V _ _ (3 : Int)) (by decide) ?_
   intro v148 h149
   refine L_alloc (α := Deed) (x := ⟨0, 0, 0, 0, false⟩) zero64 Deed.zero_rel (by decide) ?_
   intro s154 b151 e150 hb152 hv153
   have hE155 := Tch.ext hE147 e150
   have ap156 : ∀ k, (fun k => k = b59) k → ¬ (fun k => k = b151) k := fun k h1 h2 => by have h3 := (fun k (hk : k = b59) => lt_at hk (((hx133).ext e137).tch e144 ((fun k hk => ap143 k hk) b59 rfl)).lt) k h1; have h4 := hb152; subst h2; omega
   refine L_store_ro ty64 (rfl : _ = Value.pointer (some ⟨b151, 0, none⟩)) (rfl : _ = v148) (h149.mono e150.le) (hv153) ?_
   intro s159 e157 hv158
   have hE160 := Tch.trans hE155 e157 (fun k hk => Or.inr (by subst hk; exact (Nat.le_trans hE147.size hb152)))
   refine L_nil ?_
   refine then_n ?_
   refine W_seq ?_
   refine W_region ?_
   refine L_bld64_0 (s := s159) (rfl : _ = Value.int .i64 (5)) (Vint : V _ _ (5 : Int)) (by decide) ?_
   intro v161 h162
   refine L_alloc (α := Deed) (x := ⟨0, 0, 0, 0, false⟩) zero64 Deed.zero_rel (by decide) ?_
   intro s167 b164 e163 hb165 hv166
   have hE168 := Tch.ext hE160 e163
   have ap169 : ∀ k, (fun k => k = b59) k → ¬ (fun k => k = b164) k := fun k h1 h2 => by have h3 := (fun k (hk : k = b59) => lt_at hk (((((hx133).ext e137).tch e144 ((fun k hk => ap143 k hk) b59 rfl)).ext e150).tch e157 ((fun k hk => ap156 k hk) b59 rfl)).lt) k h1; have h4 := hb165; subst h2; omega
   refine L_store_ro ty64 (rfl : _ = Value.pointer (some ⟨b164, 0, none⟩)) (rfl : _ = v161) (h162.mono e163.le) (hv166) ?_
   intro s172 e170 hv171
   have hE173 := Tch.trans hE168 e170 (fun k hk => Or.inr (by subst hk; exact (Nat.le_trans hE160.size hb165)))
   refine L_nil ?_
   refine then_n ?_
   refine W_seq ?_
   obtain ⟨y176, hy177, hr⟩ := bind_some hr
   obtain ⟨y193, hy194, hr⟩ := bind_some hr
   refine W_draws mixed (by kernel_rfl) [PV.data ((⟨3, 1, 0, 0, false⟩ : Deed) : Deed), PV.data (y176 : Deed), PV.data ((⟨5, 0, 0, 0, false⟩ : Deed) : Deed), PV.data (([(⟨3, 1, 0, 0, false⟩ : Deed), y176, (⟨5, 0, 0, 0, false⟩ : Deed)] : List Deed) : List Deed), PV.data ((⟨3, 0, 0, 0, false⟩ : Deed) : Deed), PV.data (y193 : Deed), PV.data ((⟨5, 0, 0, 0, false⟩ : Deed) : Deed), PV.data (([(⟨3, 0, 0, 0, false⟩ : Deed), y193, (⟨5, 0, 0, 0, false⟩ : Deed)] : List Deed) : List Deed), PV.data (([([(⟨3, 1, 0, 0, false⟩ : Deed), y176, (⟨5, 0, 0, 0, false⟩ : Deed)] : List Deed), ([(⟨3, 0, 0, 0, false⟩ : Deed), y193, (⟨5, 0, 0, 0, false⟩ : Deed)] : List Deed)] : List (List Deed)) : List (List Deed)), PV.data (([([(⟨3, 1, 0, 0, false⟩ : Deed), y176, (⟨5, 0, 0, 0, false⟩ : Deed)] : List Deed), ([(⟨3, 0, 0, 0, false⟩ : Deed), y193, (⟨5, 0, 0, 0, false⟩ : Deed)] : List Deed)] : List (List Deed)) : List (List Deed))] (Steps_cons ?_ (Steps_cons ?_ (Steps_cons ?_ (Steps_cons ?_ (Steps_cons ?_ (Steps_cons ?_ (Steps_cons ?_ (Steps_cons ?_ (Steps_cons ?_ (Steps_cons ?_ Steps_nil)))))))))) ?_
   ·intro f216 s214 e215 hA217 hB218 Q hk219
    have ha220 : f216 8 = Value.pointer (some ⟨b138, 0, none⟩) := (hB218 8 (by kernel_rfl)).trans rfl
    refine L_load ty64 ha220 (hv145.mono (e150.le.trans (e157.le.trans (e163.le.trans (e170.le.trans e215.le))))) (by decide) ?_
    intro v174 hv175
    exact L_nil (hk219 _ _ (Ext.refl s214) hv175)
   ·intro f223 s221 e222 hA224 hB225 Q hk226
    refine L_calls cal29 (args2 (rfl : _ = Value.int .i64 (1)) (rfl : _ = Value.int .i64 (0))) (law08_recv_ok N _ 1 0 y176 hy177) (by decide) ?_
    intro v178 s181 e179 hv180
    have hE182 := Tch.ext (Ext.refl s221) e179
    exact L_nil (hk226 _ _ hE182 hv180)
   ·intro f229 s227 e228 hA230 hB231 Q hk232
    have ha233 : f229 10 = Value.pointer (some ⟨b164, 0, none⟩) := (hB231 10 (by kernel_rfl)).trans rfl
    refine L_load ty64 ha233 (hv171.mono e228.le) (by decide) ?_
    intro v183 hv184
    exact L_nil (hk232 _ _ (Ext.refl s227) hv184)
   ·intro f236 s234 e235 hA237 hB238 Q hk239
    have ha240 : V _ (f236 69) ((⟨3, 1, 0, 0, false⟩ : Deed) : Deed) := hA237 0 69 (by kernel_rfl) (by kernel_rfl)
    obtain ⟨v241, q242, hv243⟩ : ∃ v, _ = v ∧ V _ v _ := ⟨_, rfl, ha240⟩
    have ha244 : V _ (f236 70) (y176 : Deed) := hA237 1 70 (by kernel_rfl) (by kernel_rfl)
    obtain ⟨v245, q246, hv247⟩ : ∃ v, _ = v ∧ V _ v _ := ⟨_, rfl, ha244⟩
    have ha248 : V _ (f236 71) ((⟨5, 0, 0, 0, false⟩ : Deed) : Deed) := hA237 2 71 (by kernel_rfl) (by kernel_rfl)
    obtain ⟨v249, q250, hv251⟩ : ∃ v, _ = v ∧ V _ v _ := ⟨_, rfl, ha248⟩
    refine L_buildSlice (xs := ([(⟨3, 1, 0, 0, false⟩ : Deed), y176, (⟨5, 0, 0, 0, false⟩ : Deed)] : List Deed)) Try.underlying59 tyz64 (Parts_cons rfl q242 (Parts_cons rfl q246 (Parts_cons rfl q250 Parts_nil))) (Vs.cons hv243 (Vs.cons hv247 (Vs.cons hv251 Vs.nil))) rfl (by decide) (by decide) ?_
    intro s189 v186 e185 hb187 hv188
    have hE190 := Tch.ext (Ext.refl s234) e185
    exact L_nil (hk239 _ _ hE190 hv188)
   ·intro f254 s252 e253 hA255 hB256 Q hk257
    have ha258 : f254 9 = Value.pointer (some ⟨b151, 0, none⟩) := (hB256 9 (by kernel_rfl)).trans rfl
    refine L_load ty64 ha258 (hv158.mono (e163.le.trans (e170.le.trans e253.le))) (by decide) ?_
    intro v191 hv192
    exact L_nil (hk257 _ _ (Ext.refl s252) hv192)
   ·intro f261 s259 e260 hA262 hB263 Q hk264
    refine L_calls cal29 (args2 (rfl : _ = Value.int .i64 (0)) (rfl : _ = Value.int .i64 (0))) (law08_recv_ok N _ 0 0 y193 hy194) (by decide) ?_
    intro v195 s198 e196 hv197
    have hE199 := Tch.ext (Ext.refl s259) e196
    exact L_nil (hk264 _ _ hE199 hv197)
   ·intro f267 s265 e266 hA268 hB269 Q hk270
    have ha271 : f267 10 = Value.pointer (some ⟨b164, 0, none⟩) := (hB269 10 (by kernel_rfl)).trans rfl
    refine L_load ty64 ha271 (hv171.mono e266.le) (by decide) ?_
    intro v200 hv201
    exact L_nil (hk270 _ _ (Ext.refl s265) hv201)
   ·intro f274 s272 e273 hA275 hB276 Q hk277
    have ha278 : V _ (f274 73) ((⟨3, 0, 0, 0, false⟩ : Deed) : Deed) := hA275 4 73 (by kernel_rfl) (by kernel_rfl)
    obtain ⟨v279, q280, hv281⟩ : ∃ v, _ = v ∧ V _ v _ := ⟨_, rfl, ha278⟩
    have ha282 : V _ (f274 74) (y193 : Deed) := hA275 5 74 (by kernel_rfl) (by kernel_rfl)
    obtain ⟨v283, q284, hv285⟩ : ∃ v, _ = v ∧ V _ v _ := ⟨_, rfl, ha282⟩
    have ha286 : V _ (f274 75) ((⟨5, 0, 0, 0, false⟩ : Deed) : Deed) := hA275 6 75 (by kernel_rfl) (by kernel_rfl)
    obtain ⟨v287, q288, hv289⟩ : ∃ v, _ = v ∧ V _ v _ := ⟨_, rfl, ha286⟩
    refine L_buildSlice (xs := ([(⟨3, 0, 0, 0, false⟩ : Deed), y193, (⟨5, 0, 0, 0, false⟩ : Deed)] : List Deed)) Try.underlying59 tyz64 (Parts_cons rfl q280 (Parts_cons rfl q284 (Parts_cons rfl q288 Parts_nil))) (Vs.cons hv281 (Vs.cons hv285 (Vs.cons hv289 Vs.nil))) rfl (by decide) (by decide) ?_
    intro s206 v203 e202 hb204 hv205
    have hE207 := Tch.ext (Ext.refl s272) e202
    exact L_nil (hk277 _ _ hE207 hv205)
   ·intro f292 s290 e291 hA293 hB294 Q hk295
    have ha296 : V _ (f292 72) (([(⟨3, 1, 0, 0, false⟩ : Deed), y176, (⟨5, 0, 0, 0, false⟩ : Deed)] : List Deed) : List Deed) := hA293 3 72 (by kernel_rfl) (by kernel_rfl)
    obtain ⟨v297, q298, hv299⟩ : ∃ v, _ = v ∧ V _ v _ := ⟨_, rfl, ha296⟩
    have ha300 : V _ (f292 76) (([(⟨3, 0, 0, 0, false⟩ : Deed), y193, (⟨5, 0, 0, 0, false⟩ : Deed)] : List Deed) : List Deed) := hA293 7 76 (by kernel_rfl) (by kernel_rfl)
    obtain ⟨v301, q302, hv303⟩ : ∃ v, _ = v ∧ V _ v _ := ⟨_, rfl, ha300⟩
    refine L_buildSlice (xs := ([([(⟨3, 1, 0, 0, false⟩ : Deed), y176, (⟨5, 0, 0, 0, false⟩ : Deed)] : List Deed), ([(⟨3, 0, 0, 0, false⟩ : Deed), y193, (⟨5, 0, 0, 0, false⟩ : Deed)] : List Deed)] : List (List Deed))) Try.underlying29 tyz59 (Parts_cons rfl q298 (Parts_cons rfl q302 Parts_nil)) (Vs.cons hv299 (Vs.cons hv303 Vs.nil)) rfl (by decide) (by decide) ?_
    intro s212 v209 e208 hb210 hv211
    have hE213 := Tch.ext (Ext.refl s290) e208
    exact L_nil (hk295 _ _ hE213 hv211)
   ·intro f306 s304 e305 hA307 hB308 Q hk309
    have ha310 : V _ (f306 77) (([([(⟨3, 1, 0, 0, false⟩ : Deed), y176, (⟨5, 0, 0, 0, false⟩ : Deed)] : List Deed), ([(⟨3, 0, 0, 0, false⟩ : Deed), y193, (⟨5, 0, 0, 0, false⟩ : Deed)] : List Deed)] : List (List Deed)) : List (List Deed)) := hA307 8 77 (by kernel_rfl) (by kernel_rfl)
    obtain ⟨v311, q312, hv313⟩ : ∃ v, _ = v ∧ V _ v _ := ⟨_, rfl, ha310⟩
    refine L_assign q312 (by decide) ?_
    exact L_nil (hk309 _ _ (Ext.refl s304) hv313)
   ·intro f316 s314 e315 hA317 hB318
    have hE319 := Tch.ext hE173 e315
    have ha320 : f316 2 = Value.pointer (some ⟨b59, 0, none⟩) := (hB318 2 (by kernel_rfl)).trans g132_2
    have ha321 : V _ (f316 11) (([([(⟨3, 1, 0, 0, false⟩ : Deed), y176, (⟨5, 0, 0, 0, false⟩ : Deed)] : List Deed), ([(⟨3, 0, 0, 0, false⟩ : Deed), y193, (⟨5, 0, 0, 0, false⟩ : Deed)] : List Deed)] : List (List Deed)) : List (List Deed)) := hA317 9 11 (by kernel_rfl)
    obtain ⟨v322, q323, hv324⟩ : ∃ v, _ = v ∧ V _ v _ := ⟨_, rfl, ha321⟩
    refine then_n ?_
    refine W_seq ?_
    refine W_region ?_
    refine L_move q323 (by decide) ?_
    obtain ⟨y325, hy326, hr⟩ := bind_some hr
    refine L_calls cal18 (args1 (rfl : _ = v322)) (dead_Decide_ok N _ _ _ hv324 y325 hy326) (by decide) ?_
    intro v327 s330 e328 hv329
    have hE331 := Tch.ext hE319 e328
    obtain ⟨v332, v333, rfl, hv334, hv335⟩ := hv329
    obtain rfl := hv335.int
    refine L_move (rfl : _ = Value.tuple #[v332, Value.int .i64 (y325.2)]) (by decide) ?_
    refine L_extract (rfl : _ = Value.tuple #[v332, Value.int .i64 (y325.2)]) (k := 0) rfl (by decide) ?_
    refine L_extract (rfl : _ = Value.tuple #[v332, Value.int .i64 (y325.2)]) (k := 1) rfl (by decide) ?_
    refine L_store ty40 ha320 (rfl : _ = v332) hv334 (((((((((hx133).ext e137).tch e144 ((fun k hk => ap143 k hk) b59 rfl)).ext e150).tch e157 ((fun k hk => ap156 k hk) b59 rfl)).ext e163).tch e170 ((fun k hk => ap169 k hk) b59 rfl)).ext e315).ext e328) ?_
    intro s338 e336 hv337
    have hE339 := Tch.trans hE331 e336 (fun k hk => Or.inr (by subst hk; exact (Nat.le_trans hE53.size hb60)))
    refine L_assign (rfl : _ = Value.int .i64 (y325.2)) (by decide) ?_
    refine L_nil ?_
    refine then_n ?_
    refine W_seq ?_
    refine W_region ?_
    refine L_move q323 (by decide) ?_
    obtain ⟨y340, hy341, hr⟩ := bind_some hr
    refine L_calls cal22 (args2 (rfl : _ = v322) (rfl : _ = Value.int .i64 (0))) (dead_Show_ok N _ _ _ (hv324.mono (e328.le.trans e336.le)) 0 y340 hy341) (by decide) ?_
    intro v342 s345 e343 hv344
    have hE346 := Tch.ext hE339 e343
    obtain ⟨v347, v348, rfl, hv349, hv350⟩ := hv344
    obtain rfl := hv350.int
    refine L_move (rfl : _ = Value.tuple #[v347, Value.int .i64 (y340.2)]) (by decide) ?_
    refine L_extract (rfl : _ = Value.tuple #[v347, Value.int .i64 (y340.2)]) (k := 0) rfl (by decide) ?_
    refine L_extract (rfl : _ = Value.tuple #[v347, Value.int .i64 (y340.2)]) (k := 1) rfl (by decide) ?_
    refine L_assign (rfl : _ = v347) (by decide) ?_
    refine L_assign (rfl : _ = Value.int .i64 (y340.2)) (by decide) ?_
    refine L_nil ?_
    refine then_n ?_
    refine W_seq ?_
    refine W_region ?_
    refine L_move q323 (by decide) ?_
    refine L_buildSlice (xs := ([0, 0, 0] : List Int)) Try.underlying23 tyz3 (Parts_cons rfl (rfl : _ = Value.int .i64 (0)) (Parts_cons rfl (rfl : _ = Value.int .i64 (0)) (Parts_cons rfl (rfl : _ = Value.int .i64 (0)) Parts_nil))) (Vs.cons Vint (Vs.cons Vint (Vs.cons Vint Vs.nil))) rfl (by decide) (by decide) ?_
    intro s355 v352 e351 hb353 hv354
    have hE356 := Tch.ext hE346 e351
    obtain ⟨y357, hy358, hr⟩ := bind_some hr
    refine L_calls cal11 (args3 (rfl : _ = v322) (rfl : _ = Value.int .i64 (0)) (rfl : _ = v352)) (dead_Follow_ok N _ _ _ (hv324.mono (e328.le.trans (e336.le.trans (e343.le.trans e351.le)))) 0 _ _ hv354 y357 hy358) (by decide) ?_
    intro v359 s362 e360 hv361
    have hE363 := Tch.ext hE356 e360
    obtain ⟨v364, v365, v366, rfl, hv367, hv368, hv369⟩ := hv361
    obtain rfl := hv368.bool
    obtain rfl := hv369.int
    refine L_move (rfl : _ = Value.tuple #[v364, Value.bool (y357.2.1), Value.int .i64 (y357.2.2)]) (by decide) ?_
    refine L_extract (rfl : _ = Value.tuple #[v364, Value.bool (y357.2.1), Value.int .i64 (y357.2.2)]) (k := 0) rfl (by decide) ?_
    refine L_extract (rfl : _ = Value.tuple #[v364, Value.bool (y357.2.1), Value.int .i64 (y357.2.2)]) (k := 1) rfl (by decide) ?_
    refine L_extract (rfl : _ = Value.tuple #[v364, Value.bool (y357.2.1), Value.int .i64 (y357.2.2)]) (k := 2) rfl (by decide) ?_
    refine L_assign (rfl : _ = Value.int .i64 (y357.2.2)) (by decide) ?_
    refine L_nil ?_
    refine then_n ?_
    refine W_seq ?_
    obtain ⟨o371, ho372, hq373⟩ := bind_some hr
    refine W_seq_cut (fun f w => ∃ (s : St) (x370 : Bool), s.w = w ∧ Ext s0 s ∧ Le s362 s ∧ x370 = o371 ∧ f 115 = Value.bool x370 ∧ f 2 = Value.pointer (some ⟨b59, 0, none⟩) ∧ Var s b59 40 y325.1) ?_ ?_
    ·have hr := ho372
     refine W_region ?_
     refine L_load_var ty40 ha320 ((((hv337).ext e343).ext e351).ext e360) (by decide) ?_
     intro v374 hv375
     refine L_bld40_0 (s := s362) (rfl : _ = Value.int .i64 (1)) (Vint : V _ _ (1 : Int)) (by decide) ?_
     intro v376 h377
     refine L_sne40 (rfl : _ = v374) hv375 (rfl : _ = v376) h377 (by decide) ?_
     refine L_move (rfl : _ = Value.bool (!decide (y325.1 = (⟨1, 0⟩ : Verdict)))) (by decide) ?_
     rcases Bool.eq_false_or_eq_true (!decide (y325.1 = (⟨1, 0⟩ : Verdict))) with hb378 | hb378
     ·have hr := ite_t hb378 hr
      refine L_gf (e := 98) (by rfl) (by decide) (rfl : _ = Value.bool (!decide (y325.1 = (⟨1, 0⟩ : Verdict)))) hb378 (by decide) ?_
      refine L_gf (e := 98) (by rfl) (by decide) (rfl : _ = Value.bool (!decide (y325.1 = (⟨1, 0⟩ : Verdict)))) hb378 (by decide) ?_
      refine L_pick_t (rfl : _ = Value.bool (!decide (y325.1 = (⟨1, 0⟩ : Verdict)))) hb378 (rfl : _ = Value.bool (true)) (by decide) ?_
      refine L_move (rfl : _ = Value.bool (true)) (by decide) ?_
      refine L_gf (e := 102) (by rfl) (by decide) (rfl : _ = Value.bool (true)) rfl (by decide) ?_
      refine L_gf (e := 102) (by rfl) (by decide) (rfl : _ = Value.bool (true)) rfl (by decide) ?_
      refine L_pick_t (rfl : _ = Value.bool (true)) rfl (rfl : _ = Value.bool (true)) (by decide) ?_
      refine L_move (rfl : _ = Value.bool (true)) (by decide) ?_
      refine L_gf (e := 106) (by rfl) (by decide) (rfl : _ = Value.bool (true)) rfl (by decide) ?_
      refine L_gf (e := 106) (by rfl) (by decide) (rfl : _ = Value.bool (true)) rfl (by decide) ?_
      refine L_pick_t (rfl : _ = Value.bool (true)) rfl (rfl : _ = Value.bool (true)) (by decide) ?_
      refine L_move (rfl : _ = Value.bool (true)) (by decide) ?_
      refine L_gf (e := 110) (by rfl) (by decide) (rfl : _ = Value.bool (true)) rfl (by decide) ?_
      refine L_gf (e := 110) (by rfl) (by decide) (rfl : _ = Value.bool (true)) rfl (by decide) ?_
      refine L_gf (e := 110) (by rfl) (by decide) (rfl : _ = Value.bool (true)) rfl (by decide) ?_
      refine L_gf (e := 110) (by rfl) (by decide) (rfl : _ = Value.bool (true)) rfl (by decide) ?_
      refine L_pick_t (rfl : _ = Value.bool (true)) rfl (rfl : _ = Value.bool (true)) (by decide) ?_
      refine L_nil ?_
      exact then_n ⟨s362, true, rfl, hE363, (Le.refl _), Option.some.inj hr, rfl, ha320, (((hv337).ext e343).ext e351).ext e360⟩
     ·have hr := ite_f hb378 hr
      refine L_gt (e := 98) (by rfl) (by decide) (rfl : _ = Value.bool (!decide (y325.1 = (⟨1, 0⟩ : Verdict)))) hb378 ?_
      refine L_move (rfl : _ = Value.int .i64 (y325.2)) (by decide) ?_
      refine L_gt (e := 98) (by rfl) (by decide) (rfl : _ = Value.bool (!decide (y325.1 = (⟨1, 0⟩ : Verdict)))) hb378 ?_
      refine L_neq (rfl : _ = Value.int .i64 (y325.2)) (rfl : _ = Value.int .i64 (0)) (by decide) ?_
      refine L_pick_f (rfl : _ = Value.bool (!decide (y325.1 = (⟨1, 0⟩ : Verdict)))) hb378 (rfl : _ = Value.bool (!decide (y325.2 = 0))) (by decide) ?_
      refine L_move (rfl : _ = Value.bool (!decide (y325.2 = 0))) (by decide) ?_
      rcases Bool.eq_false_or_eq_true (!decide (y325.2 = 0)) with hb379 | hb379
      ·have hr := ite_t hb379 hr
       refine L_gf (e := 102) (by rfl) (by decide) (rfl : _ = Value.bool (!decide (y325.2 = 0))) hb379 (by decide) ?_
       refine L_gf (e := 102) (by rfl) (by decide) (rfl : _ = Value.bool (!decide (y325.2 = 0))) hb379 (by decide) ?_
       refine L_pick_t (rfl : _ = Value.bool (!decide (y325.2 = 0))) hb379 (rfl : _ = Value.bool (true)) (by decide) ?_
       refine L_move (rfl : _ = Value.bool (true)) (by decide) ?_
       refine L_gf (e := 106) (by rfl) (by decide) (rfl : _ = Value.bool (true)) rfl (by decide) ?_
       refine L_gf (e := 106) (by rfl) (by decide) (rfl : _ = Value.bool (true)) rfl (by decide) ?_
       refine L_pick_t (rfl : _ = Value.bool (true)) rfl (rfl : _ = Value.bool (true)) (by decide) ?_
       refine L_move (rfl : _ = Value.bool (true)) (by decide) ?_
       refine L_gf (e := 110) (by rfl) (by decide) (rfl : _ = Value.bool (true)) rfl (by decide) ?_
       refine L_gf (e := 110) (by rfl) (by decide) (rfl : _ = Value.bool (true)) rfl (by decide) ?_
       refine L_gf (e := 110) (by rfl) (by decide) (rfl : _ = Value.bool (true)) rfl (by decide) ?_
       refine L_gf (e := 110) (by rfl) (by decide) (rfl : _ = Value.bool (true)) rfl (by decide) ?_
       refine L_pick_t (rfl : _ = Value.bool (true)) rfl (rfl : _ = Value.bool (true)) (by decide) ?_
       refine L_nil ?_
       exact then_n ⟨s362, true, rfl, hE363, (Le.refl _), Option.some.inj hr, rfl, ha320, (((hv337).ext e343).ext e351).ext e360⟩
      ·have hr := ite_f hb379 hr
       refine L_gt (e := 102) (by rfl) (by decide) (rfl : _ = Value.bool (!decide (y325.2 = 0))) hb379 ?_
       refine L_move (rfl : _ = Value.int .i64 (y340.2)) (by decide) ?_
       refine L_gt (e := 102) (by rfl) (by decide) (rfl : _ = Value.bool (!decide (y325.2 = 0))) hb379 ?_
       refine L_neq (rfl : _ = Value.int .i64 (y340.2)) (rfl : _ = Value.int .i64 (0)) (by decide) ?_
       refine L_pick_f (rfl : _ = Value.bool (!decide (y325.2 = 0))) hb379 (rfl : _ = Value.bool (!decide (y340.2 = 0))) (by decide) ?_
       refine L_move (rfl : _ = Value.bool (!decide (y340.2 = 0))) (by decide) ?_
       rcases Bool.eq_false_or_eq_true (!decide (y340.2 = 0)) with hb380 | hb380
       ·have hr := ite_t hb380 hr
        refine L_gf (e := 106) (by rfl) (by decide) (rfl : _ = Value.bool (!decide (y340.2 = 0))) hb380 (by decide) ?_
        refine L_gf (e := 106) (by rfl) (by decide) (rfl : _ = Value.bool (!decide (y340.2 = 0))) hb380 (by decide) ?_
        refine L_pick_t (rfl : _ = Value.bool (!decide (y340.2 = 0))) hb380 (rfl : _ = Value.bool (true)) (by decide) ?_
        refine L_move (rfl : _ = Value.bool (true)) (by decide) ?_
        refine L_gf (e := 110) (by rfl) (by decide) (rfl : _ = Value.bool (true)) rfl (by decide) ?_
        refine L_gf (e := 110) (by rfl) (by decide) (rfl : _ = Value.bool (true)) rfl (by decide) ?_
        refine L_gf (e := 110) (by rfl) (by decide) (rfl : _ = Value.bool (true)) rfl (by decide) ?_
        refine L_gf (e := 110) (by rfl) (by decide) (rfl : _ = Value.bool (true)) rfl (by decide) ?_
        refine L_pick_t (rfl : _ = Value.bool (true)) rfl (rfl : _ = Value.bool (true)) (by decide) ?_
        refine L_nil ?_
        exact then_n ⟨s362, true, rfl, hE363, (Le.refl _), Option.some.inj hr, rfl, ha320, (((hv337).ext e343).ext e351).ext e360⟩
       ·have hr := ite_f hb380 hr
        refine L_gt (e := 106) (by rfl) (by decide) (rfl : _ = Value.bool (!decide (y340.2 = 0))) hb380 ?_
        refine L_move (rfl : _ = Value.int .i64 (y357.2.2)) (by decide) ?_
        refine L_gt (e := 106) (by rfl) (by decide) (rfl : _ = Value.bool (!decide (y340.2 = 0))) hb380 ?_
        refine L_neq (rfl : _ = Value.int .i64 (y357.2.2)) (rfl : _ = Value.int .i64 (6)) (by decide) ?_
        refine L_pick_f (rfl : _ = Value.bool (!decide (y340.2 = 0))) hb380 (rfl : _ = Value.bool (!decide (y357.2.2 = 6))) (by decide) ?_
        refine L_move (rfl : _ = Value.bool (!decide (y357.2.2 = 6))) (by decide) ?_
        rcases Bool.eq_false_or_eq_true (!decide (y357.2.2 = 6)) with hb381 | hb381
        ·have hr := ite_t hb381 hr
         refine L_gf (e := 110) (by rfl) (by decide) (rfl : _ = Value.bool (!decide (y357.2.2 = 6))) hb381 (by decide) ?_
         refine L_gf (e := 110) (by rfl) (by decide) (rfl : _ = Value.bool (!decide (y357.2.2 = 6))) hb381 (by decide) ?_
         refine L_gf (e := 110) (by rfl) (by decide) (rfl : _ = Value.bool (!decide (y357.2.2 = 6))) hb381 (by decide) ?_
         refine L_gf (e := 110) (by rfl) (by decide) (rfl : _ = Value.bool (!decide (y357.2.2 = 6))) hb381 (by decide) ?_
         refine L_pick_t (rfl : _ = Value.bool (!decide (y357.2.2 = 6))) hb381 (rfl : _ = Value.bool (true)) (by decide) ?_
         refine L_nil ?_
         exact then_n ⟨s362, true, rfl, hE363, (Le.refl _), Option.some.inj hr, rfl, ha320, (((hv337).ext e343).ext e351).ext e360⟩
        ·have hr := ite_f hb381 hr
         refine L_gt (e := 110) (by rfl) (by decide) (rfl : _ = Value.bool (!decide (y357.2.2 = 6))) hb381 ?_
         refine L_move (rfl : _ = v347) (by decide) ?_
         refine L_gt (e := 110) (by rfl) (by decide) (rfl : _ = Value.bool (!decide (y357.2.2 = 6))) hb381 ?_
         refine L_buildSlice (xs := ([0, 0, 1, 0, 1, 1] : List Int)) Try.underlying23 tyz3 (Parts_cons rfl (rfl : _ = Value.int .i64 (0)) (Parts_cons rfl (rfl : _ = Value.int .i64 (0)) (Parts_cons rfl (rfl : _ = Value.int .i64 (1)) (Parts_cons rfl (rfl : _ = Value.int .i64 (0)) (Parts_cons rfl (rfl : _ = Value.int .i64 (1)) (Parts_cons rfl (rfl : _ = Value.int .i64 (1)) Parts_nil)))))) (Vs.cons Vint (Vs.cons Vint (Vs.cons Vint (Vs.cons Vint (Vs.cons Vint (Vs.cons Vint Vs.nil)))))) rfl (by decide) (by decide) ?_
         intro s386 v383 e382 hb384 hv385
         have hE387 := Tch.ext hE363 e382
         refine L_gt (e := 110) (by rfl) (by decide) (rfl : _ = Value.bool (!decide (y357.2.2 = 6))) hb381 ?_
         obtain ⟨y388, hy389, hr⟩ := bind_some hr
         refine L_calls cal14 (args2 (rfl : _ = v347) (rfl : _ = v383)) (ref01_SameInts_ok N _ _ _ (hv349.mono (e351.le.trans (e360.le.trans e382.le))) _ _ hv385 y388 hy389) (by decide) ?_
         intro v390 s393 e391 hv392
         have hE394 := Tch.ext hE387 e391
         obtain rfl := hv392.bool
         refine L_gt (e := 110) (by rfl) (by decide) (rfl : _ = Value.bool (!decide (y357.2.2 = 6))) hb381 ?_
         refine L_not (rfl : _ = Value.bool (y388)) (by decide) ?_
         refine L_pick_f (rfl : _ = Value.bool (!decide (y357.2.2 = 6))) hb381 (rfl : _ = Value.bool (!y388)) (by decide) ?_
         refine L_nil ?_
         exact then_n ⟨s393, (!y388), rfl, hE394, (e382.le.trans e391.le), Option.some.inj hr, rfl, ha320, (((((hv337).ext e343).ext e351).ext e360).ext e382).ext e391⟩
    ·rintro f688 w689 ⟨s395, x370, rfl, hE397, l396, ho372, g398_115, g398_2, hx399⟩
     subst ho372
     have hr := hq373
     try dsimp only at hr
     refine W_cond _ g398_115 (fun hb400 => ?_) (fun hb400 => ?_)
     ·have hr := ite_t hb400 hr
      refine W_seq ?_
      refine W_region ?_
      refine L_assign (rfl : _ = Value.bool (false)) (by decide) ?_
      refine L_nil ?_
      refine then_n ?_
      refine W_ret ?_
      refine then_r ?_
      obtain rfl := Option.some.inj hr
      exact done1 (Or.inl rfl) Try.results10 rfl ⟨_, _, rfl, rfl, hE397, Vbool⟩
     ·have hr := ite_f hb400 hr
      refine W_skip ?_
      refine then_n ?_
      refine W_seq ?_
      refine W_region ?_
      obtain ⟨y401, hy402, hr⟩ := bind_some hr
      refine L_calls cal28 (args2 (rfl : _ = Value.int .i64 (1)) (rfl : _ = Value.int .i64 (0))) (law08_send_ok N _ 1 0 y401 hy402) (by decide) ?_
      intro v403 s406 e404 hv405
      have hE407 := Tch.ext hE397 e404
      obtain ⟨y408, hy409, hr⟩ := bind_some hr
      refine L_calls cal28 (args2 (rfl : _ = Value.int .i64 (1)) (rfl : _ = Value.int .i64 (0))) (law08_send_ok N _ 1 0 y408 hy409) (by decide) ?_
      intro v410 s413 e411 hv412
      have hE414 := Tch.ext hE407 e411
      obtain ⟨y415, hy416, hr⟩ := bind_some hr
      refine L_calls cal28 (args2 (rfl : _ = Value.int .i64 (1)) (rfl : _ = Value.int .i64 (1))) (law08_send_ok N _ 1 1 y415 hy416) (by decide) ?_
      intro v417 s420 e418 hv419
      have hE421 := Tch.ext hE414 e418
      refine L_buildSlice (xs := ([y401, y408, y415] : List Deed)) Try.underlying59 tyz64 (Parts_cons rfl (rfl : _ = v403) (Parts_cons rfl (rfl : _ = v410) (Parts_cons rfl (rfl : _ = v417) Parts_nil))) (Vs.cons (hv405.mono (e411.le.trans e418.le)) (Vs.cons (hv412.mono e418.le) (Vs.cons hv419 Vs.nil))) rfl (by decide) (by decide) ?_
      intro s426 v423 e422 hb424 hv425
      have hE427 := Tch.ext hE421 e422
      obtain ⟨y428, hy429, hr⟩ := bind_some hr
      refine L_calls cal29 (args2 (rfl : _ = Value.int .i64 (0)) (rfl : _ = Value.int .i64 (1))) (law08_recv_ok N _ 0 1 y428 hy429) (by decide) ?_
      intro v430 s433 e431 hv432
      have hE434 := Tch.ext hE427 e431
      obtain ⟨y435, hy436, hr⟩ := bind_some hr
      refine L_calls cal29 (args2 (rfl : _ = Value.int .i64 (0)) (rfl : _ = Value.int .i64 (0))) (law08_recv_ok N _ 0 0 y435 hy436) (by decide) ?_
      intro v437 s440 e438 hv439
      have hE441 := Tch.ext hE434 e438
      obtain ⟨y442, hy443, hr⟩ := bind_some hr
      refine L_calls cal29 (args2 (rfl : _ = Value.int .i64 (0)) (rfl : _ = Value.int .i64 (0))) (law08_recv_ok N _ 0 0 y442 hy443) (by decide) ?_
      intro v444 s447 e445 hv446
      have hE448 := Tch.ext hE441 e445
      refine L_buildSlice (xs := ([y428, y435, y442] : List Deed)) Try.underlying59 tyz64 (Parts_cons rfl (rfl : _ = v430) (Parts_cons rfl (rfl : _ = v437) (Parts_cons rfl (rfl : _ = v444) Parts_nil))) (Vs.cons (hv432.mono (e438.le.trans e445.le)) (Vs.cons (hv439.mono e445.le) (Vs.cons hv446 Vs.nil))) rfl (by decide) (by decide) ?_
      intro s453 v450 e449 hb451 hv452
      have hE454 := Tch.ext hE448 e449
      refine L_buildSlice (xs := ([([y401, y408, y415] : List Deed), ([y428, y435, y442] : List Deed)] : List (List Deed))) Try.underlying29 tyz59 (Parts_cons rfl (rfl : _ = v423) (Parts_cons rfl (rfl : _ = v450) Parts_nil)) (Vs.cons (hv425.mono (e431.le.trans (e438.le.trans (e445.le.trans e449.le)))) (Vs.cons hv452 Vs.nil)) rfl (by decide) (by decide) ?_
      intro s459 v456 e455 hb457 hv458
      have hE460 := Tch.ext hE454 e455
      refine L_assign (rfl : _ = v456) (by decide) ?_
      refine L_nil ?_
      refine then_n ?_
      refine W_seq ?_
      refine W_region ?_
      refine L_move (rfl : _ = v456) (by decide) ?_
      obtain ⟨y461, hy462, hr⟩ := bind_some hr
      refine L_calls cal18 (args1 (rfl : _ = v456)) (dead_Decide_ok N _ _ _ hv458 y461 hy462) (by decide) ?_
      intro v463 s466 e464 hv465
      have hE467 := Tch.ext hE460 e464
      obtain ⟨v468, v469, rfl, hv470, hv471⟩ := hv465
      obtain rfl := hv471.int
      refine L_move (rfl : _ = Value.tuple #[v468, Value.int .i64 (y461.2)]) (by decide) ?_
      refine L_extract (rfl : _ = Value.tuple #[v468, Value.int .i64 (y461.2)]) (k := 0) rfl (by decide) ?_
      refine L_extract (rfl : _ = Value.tuple #[v468, Value.int .i64 (y461.2)]) (k := 1) rfl (by decide) ?_
      refine L_store ty40 g398_2 (rfl : _ = v468) hv470 (((((((((((hx399).ext e404).ext e411).ext e418).ext e422).ext e431).ext e438).ext e445).ext e449).ext e455).ext e464) ?_
      intro s474 e472 hv473
      have hE475 := Tch.trans hE467 e472 (fun k hk => Or.inr (by subst hk; exact (Nat.le_trans hE53.size hb60)))
      refine L_assign (rfl : _ = Value.int .i64 (y461.2)) (by decide) ?_
      refine L_nil ?_
      refine then_n ?_
      refine W_seq ?_
      refine W_region ?_
      obtain ⟨y476, hy477, hr⟩ := bind_some hr
      refine L_calls cal29 (args2 (rfl : _ = Value.int .i64 (-1)) (rfl : _ = Value.int .i64 (3))) (law08_recv_ok N _ (-1) 3 y476 hy477) (by decide) ?_
      intro v478 s481 e479 hv480
      have hE482 := Tch.ext hE475 e479
      obtain ⟨y483, hy484, hr⟩ := bind_some hr
      refine L_calls cal29 (args2 (rfl : _ = Value.int .i64 (-1)) (rfl : _ = Value.int .i64 (3))) (law08_recv_ok N _ (-1) 3 y483 hy484) (by decide) ?_
      intro v485 s488 e486 hv487
      have hE489 := Tch.ext hE482 e486
      refine L_buildSlice (xs := ([y476, y483] : List Deed)) Try.underlying59 tyz64 (Parts_cons rfl (rfl : _ = v478) (Parts_cons rfl (rfl : _ = v485) Parts_nil)) (Vs.cons (hv480.mono e486.le) (Vs.cons hv487 Vs.nil)) rfl (by decide) (by decide) ?_
      intro s494 v491 e490 hb492 hv493
      have hE495 := Tch.ext hE489 e490
      obtain ⟨y496, hy497, hr⟩ := bind_some hr
      refine L_calls cal28 (args2 (rfl : _ = Value.int .i64 (0)) (rfl : _ = Value.int .i64 (3))) (law08_send_ok N _ 0 3 y496 hy497) (by decide) ?_
      intro v498 s501 e499 hv500
      have hE502 := Tch.ext hE495 e499
      refine L_buildSlice (xs := ([y496] : List Deed)) Try.underlying59 tyz64 (Parts_cons rfl (rfl : _ = v498) Parts_nil) (Vs.cons hv500 Vs.nil) rfl (by decide) (by decide) ?_
      intro s507 v504 e503 hb505 hv506
      have hE508 := Tch.ext hE502 e503
      obtain ⟨y509, hy510, hr⟩ := bind_some hr
      refine L_calls cal28 (args2 (rfl : _ = Value.int .i64 (0)) (rfl : _ = Value.int .i64 (3))) (law08_send_ok N _ 0 3 y509 hy510) (by decide) ?_
      intro v511 s514 e512 hv513
      have hE515 := Tch.ext hE508 e512
      refine L_buildSlice (xs := ([y509] : List Deed)) Try.underlying59 tyz64 (Parts_cons rfl (rfl : _ = v511) Parts_nil) (Vs.cons hv513 Vs.nil) rfl (by decide) (by decide) ?_
      intro s520 v517 e516 hb518 hv519
      have hE521 := Tch.ext hE515 e516
      refine L_buildSlice (xs := ([([y476, y483] : List Deed), ([y496] : List Deed), ([y509] : List Deed)] : List (List Deed))) Try.underlying29 tyz59 (Parts_cons rfl (rfl : _ = v491) (Parts_cons rfl (rfl : _ = v504) (Parts_cons rfl (rfl : _ = v517) Parts_nil))) (Vs.cons (hv493.mono (e499.le.trans (e503.le.trans (e512.le.trans e516.le)))) (Vs.cons (hv506.mono (e512.le.trans e516.le)) (Vs.cons hv519 Vs.nil))) rfl (by decide) (by decide) ?_
      intro s526 v523 e522 hb524 hv525
      have hE527 := Tch.ext hE521 e522
      obtain ⟨y528, hy529, hr⟩ := bind_some hr
      refine L_calls cal18 (args1 (rfl : _ = v523)) (dead_Decide_ok N _ _ _ hv525 y528 hy529) (by decide) ?_
      intro v530 s533 e531 hv532
      have hE534 := Tch.ext hE527 e531
      obtain ⟨v535, v536, rfl, hv537, hv538⟩ := hv532
      obtain rfl := hv538.int
      refine L_move (rfl : _ = Value.tuple #[v535, Value.int .i64 (y528.2)]) (by decide) ?_
      refine L_extract (rfl : _ = Value.tuple #[v535, Value.int .i64 (y528.2)]) (k := 0) rfl (by decide) ?_
      refine L_extract (rfl : _ = Value.tuple #[v535, Value.int .i64 (y528.2)]) (k := 1) rfl (by decide) ?_
      refine L_alloc (α := Verdict) (x := ⟨0, 0⟩) zero40 Verdict.zero_rel (by decide) ?_
      intro s543 b540 e539 hb541 hv542
      have hE544 := Tch.ext hE534 e539
      have ap545 : ∀ k, (fun k => k = b59) k → ¬ (fun k => k = b540) k := fun k h1 h2 => by have h3 := (fun k (hk : k = b59) => lt_at hk ((((((((((hv473).ext e479).ext e486).ext e490).ext e499).ext e503).ext e512).ext e516).ext e522).ext e531).lt) k h1; have h4 := hb541; subst h2; omega
      refine L_store_ro ty40 (rfl : _ = Value.pointer (some ⟨b540, 0, none⟩)) (rfl : _ = v535) (hv537.mono e539.le) (hv542) ?_
      intro s548 e546 hv547
      have hE549 := Tch.trans hE544 e546 (fun k hk => Or.inr (by subst hk; exact (Nat.le_trans hE534.size hb541)))
      refine L_assign (rfl : _ = Value.int .i64 (y528.2)) (by decide) ?_
      refine L_nil ?_
      refine then_n ?_
      refine W_seq ?_
      obtain ⟨o551, ho552, hq553⟩ := bind_some hr
      refine W_seq_cut (fun f w => ∃ (s : St) (x550 : Bool), s.w = w ∧ Ext s0 s ∧ Le s548 s ∧ x550 = o551 ∧ f 157 = Value.bool x550) ?_ ?_
      ·have hr := ho552
       refine W_region ?_
       refine L_load_var ty40 g398_2 ((((((((((((hv473).ext e479).ext e486).ext e490).ext e499).ext e503).ext e512).ext e516).ext e522).ext e531).ext e539).tch e546 ((fun k hk => ap545 k hk) b59 rfl)) (by decide) ?_
       intro v554 hv555
       refine L_bld40_0_1 (s := s548) (rfl : _ = Value.int .i64 (2)) (rfl : _ = Value.int .i64 (2)) (Vint : V _ _ (2 : Int)) (Vint : V _ _ (2 : Int)) (by decide) ?_
       intro v556 h557
       refine L_sne40 (rfl : _ = v554) hv555 (rfl : _ = v556) h557 (by decide) ?_
       refine L_move (rfl : _ = Value.bool (!decide (y461.1 = (⟨2, 2⟩ : Verdict)))) (by decide) ?_
       rcases Bool.eq_false_or_eq_true (!decide (y461.1 = (⟨2, 2⟩ : Verdict))) with hb558 | hb558
       ·have hr := ite_t hb558 hr
        refine L_gf (e := 145) (by rfl) (by decide) (rfl : _ = Value.bool (!decide (y461.1 = (⟨2, 2⟩ : Verdict)))) hb558 (by decide) ?_
        refine L_gf (e := 145) (by rfl) (by decide) (rfl : _ = Value.bool (!decide (y461.1 = (⟨2, 2⟩ : Verdict)))) hb558 (by decide) ?_
        refine L_pick_t (rfl : _ = Value.bool (!decide (y461.1 = (⟨2, 2⟩ : Verdict)))) hb558 (rfl : _ = Value.bool (true)) (by decide) ?_
        refine L_move (rfl : _ = Value.bool (true)) (by decide) ?_
        refine L_gf (e := 149) (by rfl) (by decide) (rfl : _ = Value.bool (true)) rfl (by decide) ?_
        refine L_gf (e := 149) (by rfl) (by decide) (rfl : _ = Value.bool (true)) rfl (by decide) ?_
        refine L_gf (e := 149) (by rfl) (by decide) (rfl : _ = Value.bool (true)) rfl (by decide) ?_
        refine L_pick_t (rfl : _ = Value.bool (true)) rfl (rfl : _ = Value.bool (true)) (by decide) ?_
        refine L_move (rfl : _ = Value.bool (true)) (by decide) ?_
        refine L_gf (e := 154) (by rfl) (by decide) (rfl : _ = Value.bool (true)) rfl (by decide) ?_
        refine L_gf (e := 154) (by rfl) (by decide) (rfl : _ = Value.bool (true)) rfl (by decide) ?_
        refine L_pick_t (rfl : _ = Value.bool (true)) rfl (rfl : _ = Value.bool (true)) (by decide) ?_
        refine L_nil ?_
        exact then_n ⟨s548, true, rfl, hE549, (Le.refl _), Option.some.inj hr, rfl⟩
       ·have hr := ite_f hb558 hr
        refine L_gt (e := 145) (by rfl) (by decide) (rfl : _ = Value.bool (!decide (y461.1 = (⟨2, 2⟩ : Verdict)))) hb558 ?_
        refine L_move (rfl : _ = Value.int .i64 (y461.2)) (by decide) ?_
        refine L_gt (e := 145) (by rfl) (by decide) (rfl : _ = Value.bool (!decide (y461.1 = (⟨2, 2⟩ : Verdict)))) hb558 ?_
        refine L_neq (rfl : _ = Value.int .i64 (y461.2)) (rfl : _ = Value.int .i64 (0)) (by decide) ?_
        refine L_pick_f (rfl : _ = Value.bool (!decide (y461.1 = (⟨2, 2⟩ : Verdict)))) hb558 (rfl : _ = Value.bool (!decide (y461.2 = 0))) (by decide) ?_
        refine L_move (rfl : _ = Value.bool (!decide (y461.2 = 0))) (by decide) ?_
        rcases Bool.eq_false_or_eq_true (!decide (y461.2 = 0)) with hb559 | hb559
        ·have hr := ite_t hb559 hr
         refine L_gf (e := 149) (by rfl) (by decide) (rfl : _ = Value.bool (!decide (y461.2 = 0))) hb559 (by decide) ?_
         refine L_gf (e := 149) (by rfl) (by decide) (rfl : _ = Value.bool (!decide (y461.2 = 0))) hb559 (by decide) ?_
         refine L_gf (e := 149) (by rfl) (by decide) (rfl : _ = Value.bool (!decide (y461.2 = 0))) hb559 (by decide) ?_
         refine L_pick_t (rfl : _ = Value.bool (!decide (y461.2 = 0))) hb559 (rfl : _ = Value.bool (true)) (by decide) ?_
         refine L_move (rfl : _ = Value.bool (true)) (by decide) ?_
         refine L_gf (e := 154) (by rfl) (by decide) (rfl : _ = Value.bool (true)) rfl (by decide) ?_
         refine L_gf (e := 154) (by rfl) (by decide) (rfl : _ = Value.bool (true)) rfl (by decide) ?_
         refine L_pick_t (rfl : _ = Value.bool (true)) rfl (rfl : _ = Value.bool (true)) (by decide) ?_
         refine L_nil ?_
         exact then_n ⟨s548, true, rfl, hE549, (Le.refl _), Option.some.inj hr, rfl⟩
        ·have hr := ite_f hb559 hr
         refine L_gt (e := 149) (by rfl) (by decide) (rfl : _ = Value.bool (!decide (y461.2 = 0))) hb559 ?_
         refine L_load ty40 (rfl : _ = Value.pointer (some ⟨b540, 0, none⟩)) hv547 (by decide) ?_
         intro v560 hv561
         refine L_gt (e := 149) (by rfl) (by decide) (rfl : _ = Value.bool (!decide (y461.2 = 0))) hb559 ?_
         refine L_bld40_0 (s := s548) (rfl : _ = Value.int .i64 (4)) (Vint : V _ _ (4 : Int)) (by decide) ?_
         intro v562 h563
         refine L_gt (e := 149) (by rfl) (by decide) (rfl : _ = Value.bool (!decide (y461.2 = 0))) hb559 ?_
         refine L_sne40 (rfl : _ = v560) hv561 (rfl : _ = v562) h563 (by decide) ?_
         refine L_pick_f (rfl : _ = Value.bool (!decide (y461.2 = 0))) hb559 (rfl : _ = Value.bool (!decide (y528.1 = (⟨4, 0⟩ : Verdict)))) (by decide) ?_
         refine L_move (rfl : _ = Value.bool (!decide (y528.1 = (⟨4, 0⟩ : Verdict)))) (by decide) ?_
         rcases Bool.eq_false_or_eq_true (!decide (y528.1 = (⟨4, 0⟩ : Verdict))) with hb564 | hb564
         ·have hr := ite_t hb564 hr
          refine L_gf (e := 154) (by rfl) (by decide) (rfl : _ = Value.bool (!decide (y528.1 = (⟨4, 0⟩ : Verdict)))) hb564 (by decide) ?_
          refine L_gf (e := 154) (by rfl) (by decide) (rfl : _ = Value.bool (!decide (y528.1 = (⟨4, 0⟩ : Verdict)))) hb564 (by decide) ?_
          refine L_pick_t (rfl : _ = Value.bool (!decide (y528.1 = (⟨4, 0⟩ : Verdict)))) hb564 (rfl : _ = Value.bool (true)) (by decide) ?_
          refine L_nil ?_
          exact then_n ⟨s548, true, rfl, hE549, (Le.refl _), Option.some.inj hr, rfl⟩
         ·have hr := ite_f hb564 hr
          refine L_gt (e := 154) (by rfl) (by decide) (rfl : _ = Value.bool (!decide (y528.1 = (⟨4, 0⟩ : Verdict)))) hb564 ?_
          refine L_move (rfl : _ = Value.int .i64 (y528.2)) (by decide) ?_
          refine L_gt (e := 154) (by rfl) (by decide) (rfl : _ = Value.bool (!decide (y528.1 = (⟨4, 0⟩ : Verdict)))) hb564 ?_
          refine L_neq (rfl : _ = Value.int .i64 (y528.2)) (rfl : _ = Value.int .i64 (0)) (by decide) ?_
          refine L_pick_f (rfl : _ = Value.bool (!decide (y528.1 = (⟨4, 0⟩ : Verdict)))) hb564 (rfl : _ = Value.bool (!decide (y528.2 = 0))) (by decide) ?_
          refine L_nil ?_
          exact then_n ⟨s548, (!decide (y528.2 = 0)), rfl, hE549, (Le.refl _), Option.some.inj hr, rfl⟩
      ·rintro f686 w687 ⟨s565, x550, rfl, hE567, l566, ho552, g568_157⟩
       subst ho552
       have hr := hq553
       try dsimp only at hr
       refine W_cond _ g568_157 (fun hb569 => ?_) (fun hb569 => ?_)
       ·have hr := ite_t hb569 hr
        refine W_seq ?_
        refine W_region ?_
        refine L_assign (rfl : _ = Value.bool (false)) (by decide) ?_
        refine L_nil ?_
        refine then_n ?_
        refine W_ret ?_
        refine then_r ?_
        obtain rfl := Option.some.inj hr
        exact done1 (Or.inl rfl) Try.results10 rfl ⟨_, _, rfl, rfl, hE567, Vbool⟩
       ·have hr := ite_f hb569 hr
        refine W_skip ?_
        refine then_n ?_
        refine W_seq ?_
        refine W_region ?_
        obtain ⟨y570, hy571, hr⟩ := bind_some hr
        refine L_calls cal29 (args2 (rfl : _ = Value.int .i64 (1)) (rfl : _ = Value.int .i64 (0))) (law08_recv_ok N _ 1 0 y570 hy571) (by decide) ?_
        intro v572 s575 e573 hv574
        have hE576 := Tch.ext hE567 e573
        refine L_buildSlice (xs := ([y570] : List Deed)) Try.underlying59 tyz64 (Parts_cons rfl (rfl : _ = v572) Parts_nil) (Vs.cons hv574 Vs.nil) rfl (by decide) (by decide) ?_
        intro s581 v578 e577 hb579 hv580
        have hE582 := Tch.ext hE576 e577
        refine L_buildSlice (xs := ([] : List Deed)) Try.underlying59 tyz64 Parts_nil Vs.nil rfl (by decide) (by decide) ?_
        intro s587 v584 e583 hb585 hv586
        have hE588 := Tch.ext hE582 e583
        refine L_buildSlice (xs := ([([y570] : List Deed), ([] : List Deed)] : List (List Deed))) Try.underlying29 tyz59 (Parts_cons rfl (rfl : _ = v578) (Parts_cons rfl (rfl : _ = v584) Parts_nil)) (Vs.cons (hv580.mono e583.le) (Vs.cons hv586 Vs.nil)) rfl (by decide) (by decide) ?_
        intro s593 v590 e589 hb591 hv592
        have hE594 := Tch.ext hE588 e589
        obtain ⟨y595, hy596, hr⟩ := bind_some hr
        refine L_calls cal24 (args2 (rfl : _ = v590) (rfl : _ = Value.int .i64 (0))) (dead_Blocks_ok N _ _ _ hv592 0 y595 hy596) (by decide) ?_
        intro v597 s600 e598 hv599
        have hE601 := Tch.ext hE594 e598
        obtain ⟨v602, v603, rfl, hv604, hv605⟩ := hv599
        obtain rfl := hv605.int
        refine L_move (rfl : _ = Value.tuple #[v602, Value.int .i64 (y595.2)]) (by decide) ?_
        refine L_extract (rfl : _ = Value.tuple #[v602, Value.int .i64 (y595.2)]) (k := 0) rfl (by decide) ?_
        refine L_extract (rfl : _ = Value.tuple #[v602, Value.int .i64 (y595.2)]) (k := 1) rfl (by decide) ?_
        refine L_assign (rfl : _ = v602) (by decide) ?_
        refine L_assign (rfl : _ = Value.int .i64 (y595.2)) (by decide) ?_
        refine L_nil ?_
        refine then_n ?_
        refine W_seq ?_
        refine W_region ?_
        obtain ⟨y606, hy607, hr⟩ := bind_some hr
        refine L_calls cal29 (args2 (rfl : _ = Value.int .i64 (1)) (rfl : _ = Value.int .i64 (0))) (law08_recv_ok N _ 1 0 y606 hy607) (by decide) ?_
        intro v608 s611 e609 hv610
        have hE612 := Tch.ext hE601 e609
        refine L_buildSlice (xs := ([y606] : List Deed)) Try.underlying59 tyz64 (Parts_cons rfl (rfl : _ = v608) Parts_nil) (Vs.cons hv610 Vs.nil) rfl (by decide) (by decide) ?_
        intro s617 v614 e613 hb615 hv616
        have hE618 := Tch.ext hE612 e613
        refine L_buildSlice (xs := ([] : List Deed)) Try.underlying59 tyz64 Parts_nil Vs.nil rfl (by decide) (by decide) ?_
        intro s623 v620 e619 hb621 hv622
        have hE624 := Tch.ext hE618 e619
        refine L_buildSlice (xs := ([([y606] : List Deed), ([] : List Deed)] : List (List Deed))) Try.underlying29 tyz59 (Parts_cons rfl (rfl : _ = v614) (Parts_cons rfl (rfl : _ = v620) Parts_nil)) (Vs.cons (hv616.mono e619.le) (Vs.cons hv622 Vs.nil)) rfl (by decide) (by decide) ?_
        intro s629 v626 e625 hb627 hv628
        have hE630 := Tch.ext hE624 e625
        obtain ⟨y631, hy632, hr⟩ := bind_some hr
        refine L_calls cal18 (args1 (rfl : _ = v626)) (dead_Decide_ok N _ _ _ hv628 y631 hy632) (by decide) ?_
        intro v633 s636 e634 hv635
        have hE637 := Tch.ext hE630 e634
        obtain ⟨v638, v639, rfl, hv640, hv641⟩ := hv635
        obtain rfl := hv641.int
        refine L_move (rfl : _ = Value.tuple #[v638, Value.int .i64 (y631.2)]) (by decide) ?_
        refine L_extract (rfl : _ = Value.tuple #[v638, Value.int .i64 (y631.2)]) (k := 0) rfl (by decide) ?_
        refine L_extract (rfl : _ = Value.tuple #[v638, Value.int .i64 (y631.2)]) (k := 1) rfl (by decide) ?_
        refine L_alloc (α := Verdict) (x := ⟨0, 0⟩) zero40 Verdict.zero_rel (by decide) ?_
        intro s646 b643 e642 hb644 hv645
        have hE647 := Tch.ext hE637 e642
        refine L_store_ro ty40 (rfl : _ = Value.pointer (some ⟨b643, 0, none⟩)) (rfl : _ = v638) (hv640.mono e642.le) (hv645) ?_
        intro s650 e648 hv649
        have hE651 := Tch.trans hE647 e648 (fun k hk => Or.inr (by subst hk; exact (Nat.le_trans hE637.size hb644)))
        refine L_assign (rfl : _ = Value.int .i64 (y631.2)) (by decide) ?_
        refine L_nil ?_
        refine then_n ?_
        refine W_seq ?_
        refine W_region ?_
        refine L_move (rfl : _ = Value.int .i64 (y595.2)) (by decide) ?_
        refine L_eql (rfl : _ = Value.int .i64 (y595.2)) (rfl : _ = Value.int .i64 (0)) (by decide) ?_
        refine L_move (rfl : _ = Value.bool (decide (y595.2 = 0))) (by decide) ?_
        rcases Bool.eq_false_or_eq_true (decide (y595.2 = 0)) with hb652 | hb652
        ·have hr := ite_t hb652 hr
         refine L_gt (e := 176) (by rfl) (by decide) (rfl : _ = Value.bool (decide (y595.2 = 0))) hb652 ?_
         refine L_move (rfl : _ = Value.int .i64 (y631.2)) (by decide) ?_
         refine L_gt (e := 176) (by rfl) (by decide) (rfl : _ = Value.bool (decide (y595.2 = 0))) hb652 ?_
         refine L_eql (rfl : _ = Value.int .i64 (y631.2)) (rfl : _ = Value.int .i64 (0)) (by decide) ?_
         refine L_pick_t (rfl : _ = Value.bool (decide (y595.2 = 0))) hb652 (rfl : _ = Value.bool (decide (y631.2 = 0))) (by decide) ?_
         refine L_move (rfl : _ = Value.bool (decide (y631.2 = 0))) (by decide) ?_
         rcases Bool.eq_false_or_eq_true (decide (y631.2 = 0)) with hb653 | hb653
         ·have hr := ite_t hb653 hr
          refine L_gt (e := 180) (by rfl) (by decide) (rfl : _ = Value.bool (decide (y631.2 = 0))) hb653 ?_
          refine L_move (rfl : _ = v602) (by decide) ?_
          refine L_gt (e := 180) (by rfl) (by decide) (rfl : _ = Value.bool (decide (y631.2 = 0))) hb653 ?_
          refine L_len Try.underlying53 (rfl : _ = v602) (hv604.mono (e609.le.trans (e613.le.trans (e619.le.trans (e625.le.trans (e634.le.trans (e642.le.trans e648.le))))))) (by decide) ?_
          refine L_gt (e := 180) (by rfl) (by decide) (rfl : _ = Value.bool (decide (y631.2 = 0))) hb653 ?_
          refine L_eql (rfl : _ = Value.int .i64 ((y595.1.length : Int))) (rfl : _ = Value.int .i64 (1)) (by decide) ?_
          refine L_pick_t (rfl : _ = Value.bool (decide (y631.2 = 0))) hb653 (rfl : _ = Value.bool (decide ((y595.1.length : Int) = 1))) (by decide) ?_
          refine L_move (rfl : _ = Value.bool (decide ((y595.1.length : Int) = 1))) (by decide) ?_
          rcases Bool.eq_false_or_eq_true (decide ((y595.1.length : Int) = 1)) with hb654 | hb654
          ·have hr := ite_t hb654 hr
           refine L_gt (e := 185) (by rfl) (by decide) (rfl : _ = Value.bool (decide ((y595.1.length : Int) = 1))) hb654 ?_
           refine L_move (rfl : _ = v602) (by decide) ?_
           refine L_gt (e := 185) (by rfl) (by decide) (rfl : _ = Value.bool (decide ((y595.1.length : Int) = 1))) hb654 ?_
           obtain ⟨y655, hy656, hr⟩ := bind_some hr
           refine L_index Try.underlying53 ty58.inf (rfl : _ = v602) (hv604.mono (e609.le.trans (e613.le.trans (e619.le.trans (e625.le.trans (e634.le.trans (e642.le.trans e648.le))))))) (rfl : _ = Value.int .i64 (0)) hy656 (by decide) ?_
           intro p657 hp658
           refine L_gt (e := 185) (by rfl) (by decide) (rfl : _ = Value.bool (decide ((y595.1.length : Int) = 1))) hb654 ?_
           refine L_fieldAddr fld58_0 Block.of_Process (rfl : _ = p657) hp658 (by decide) ?_
           intro p659 hp660
           refine L_gt (e := 185) (by rfl) (by decide) (rfl : _ = Value.bool (decide ((y595.1.length : Int) = 1))) hb654 ?_
           refine L_load_int ty3 (rfl : _ = p659) hp660 (by decide) ?_
           refine L_gt (e := 185) (by rfl) (by decide) (rfl : _ = Value.bool (decide ((y595.1.length : Int) = 1))) hb654 ?_
           refine L_eql (rfl : _ = Value.int .i64 (y655.Proc)) (rfl : _ = Value.int .i64 (0)) (by decide) ?_
           refine L_pick_t (rfl : _ = Value.bool (decide ((y595.1.length : Int) = 1))) hb654 (rfl : _ = Value.bool (decide (y655.Proc = 0))) (by decide) ?_
           refine L_move (rfl : _ = Value.bool (decide (y655.Proc = 0))) (by decide) ?_
           rcases Bool.eq_false_or_eq_true (decide (y655.Proc = 0)) with hb661 | hb661
           ·have hr := ite_t hb661 hr
            refine L_gt (e := 192) (by rfl) (by decide) (rfl : _ = Value.bool (decide (y655.Proc = 0))) hb661 ?_
            refine L_move (rfl : _ = v602) (by decide) ?_
            refine L_gt (e := 192) (by rfl) (by decide) (rfl : _ = Value.bool (decide (y655.Proc = 0))) hb661 ?_
            obtain ⟨y662, hy663, hr⟩ := bind_some hr
            refine L_index Try.underlying53 ty58.inf (rfl : _ = v602) (hv604.mono (e609.le.trans (e613.le.trans (e619.le.trans (e625.le.trans (e634.le.trans (e642.le.trans e648.le))))))) (rfl : _ = Value.int .i64 (0)) hy663 (by decide) ?_
            intro p664 hp665
            refine L_gt (e := 192) (by rfl) (by decide) (rfl : _ = Value.bool (decide (y655.Proc = 0))) hb661 ?_
            refine L_fieldAddr fld58_2 Block.of_For (rfl : _ = p664) hp665 (by decide) ?_
            intro p666 hp667
            refine L_gt (e := 192) (by rfl) (by decide) (rfl : _ = Value.bool (decide (y655.Proc = 0))) hb661 ?_
            refine L_load ty23 (rfl : _ = p666) hp667 (by decide) ?_
            intro v668 hv669
            refine L_gt (e := 192) (by rfl) (by decide) (rfl : _ = Value.bool (decide (y655.Proc = 0))) hb661 ?_
            refine L_buildSlice (xs := ([1] : List Int)) Try.underlying23 tyz3 (Parts_cons rfl (rfl : _ = Value.int .i64 (1)) Parts_nil) (Vs.cons Vint Vs.nil) rfl (by decide) (by decide) ?_
            intro s674 v671 e670 hb672 hv673
            have hE675 := Tch.ext hE651 e670
            refine L_gt (e := 192) (by rfl) (by decide) (rfl : _ = Value.bool (decide (y655.Proc = 0))) hb661 ?_
            obtain ⟨y676, hy677, hr⟩ := bind_some hr
            refine L_calls cal14 (args2 (rfl : _ = v668) (rfl : _ = v671)) (ref01_SameInts_ok N _ _ _ (hv669.mono e670.le) _ _ hv673 y676 hy677) (by decide) ?_
            intro v678 s681 e679 hv680
            have hE682 := Tch.ext hE675 e679
            obtain rfl := hv680.bool
            refine L_pick_t (rfl : _ = Value.bool (decide (y655.Proc = 0))) hb661 (rfl : _ = Value.bool (y676)) (by decide) ?_
            refine L_move (rfl : _ = Value.bool (y676)) (by decide) ?_
            rcases Bool.eq_false_or_eq_true (y676) with hb683 | hb683
            ·have hr := ite_t hb683 hr
             refine L_gt (e := 200) (by rfl) (by decide) (rfl : _ = Value.bool (y676)) hb683 ?_
             refine L_fieldAddr fld40_0 Verdict.of_Kind (rfl : _ = Value.pointer (some ⟨b643, 0, none⟩)) (hv649.mono (e670.le.trans e679.le)) (by decide) ?_
             intro p684 hp685
             refine L_gt (e := 200) (by rfl) (by decide) (rfl : _ = Value.bool (y676)) hb683 ?_
             refine L_load_int ty3 (rfl : _ = p684) hp685 (by decide) ?_
             refine L_gt (e := 200) (by rfl) (by decide) (rfl : _ = Value.bool (y676)) hb683 ?_
             refine L_eql (rfl : _ = Value.int .i64 (y631.1.Kind)) (rfl : _ = Value.int .i64 (3)) (by decide) ?_
             refine L_pick_t (rfl : _ = Value.bool (y676)) hb683 (rfl : _ = Value.bool (decide (y631.1.Kind = 3))) (by decide) ?_
             refine L_assign (rfl : _ = Value.bool (decide (y631.1.Kind = 3))) (by decide) ?_
             refine L_nil ?_
             refine then_n ?_
             refine W_ret ?_
             obtain rfl := Option.some.inj hr
             exact done1 (Or.inl rfl) Try.results10 rfl ⟨_, _, rfl, rfl, hE682, Vbool⟩
            ·have hr := ite_f hb683 hr
             refine L_gf (e := 200) (by rfl) (by decide) (rfl : _ = Value.bool (y676)) hb683 (by decide) ?_
             refine L_gf (e := 200) (by rfl) (by decide) (rfl : _ = Value.bool (y676)) hb683 (by decide) ?_
             refine L_gf (e := 200) (by rfl) (by decide) (rfl : _ = Value.bool (y676)) hb683 (by decide) ?_
             refine L_pick_f (rfl : _ = Value.bool (y676)) hb683 (rfl : _ = Value.bool (false)) (by decide) ?_
             refine L_assign (rfl : _ = Value.bool (false)) (by decide) ?_
             refine L_nil ?_
             refine then_n ?_
             refine W_ret ?_
             obtain rfl := Option.some.inj hr
             exact done1 (Or.inl rfl) Try.results10 rfl ⟨_, _, rfl, rfl, hE682, Vbool⟩
           ·have hr := ite_f hb661 hr
            refine L_gf (e := 192) (by rfl) (by decide) (rfl : _ = Value.bool (decide (y655.Proc = 0))) hb661 (by decide) ?_
            refine L_gf (e := 192) (by rfl) (by decide) (rfl : _ = Value.bool (decide (y655.Proc = 0))) hb661 (by decide) ?_
            refine L_gf (e := 192) (by rfl) (by decide) (rfl : _ = Value.bool (decide (y655.Proc = 0))) hb661 (by decide) ?_
            refine L_gf (e := 192) (by rfl) (by decide) (rfl : _ = Value.bool (decide (y655.Proc = 0))) hb661 (by decide) ?_
            refine L_gf (e := 192) (by rfl) (by decide) (rfl : _ = Value.bool (decide (y655.Proc = 0))) hb661 (by decide) ?_
            refine L_gf (e := 192) (by rfl) (by decide) (rfl : _ = Value.bool (decide (y655.Proc = 0))) hb661 (by decide) ?_
            refine L_pick_f (rfl : _ = Value.bool (decide (y655.Proc = 0))) hb661 (rfl : _ = Value.bool (false)) (by decide) ?_
            refine L_move (rfl : _ = Value.bool (false)) (by decide) ?_
            refine L_gf (e := 200) (by rfl) (by decide) (rfl : _ = Value.bool (false)) rfl (by decide) ?_
            refine L_gf (e := 200) (by rfl) (by decide) (rfl : _ = Value.bool (false)) rfl (by decide) ?_
            refine L_gf (e := 200) (by rfl) (by decide) (rfl : _ = Value.bool (false)) rfl (by decide) ?_
            refine L_pick_f (rfl : _ = Value.bool (false)) rfl (rfl : _ = Value.bool (false)) (by decide) ?_
            refine L_assign (rfl : _ = Value.bool (false)) (by decide) ?_
            refine L_nil ?_
            refine then_n ?_
            refine W_ret ?_
            obtain rfl := Option.some.inj hr
            exact done1 (Or.inl rfl) Try.results10 rfl ⟨_, _, rfl, rfl, hE651, Vbool⟩
          ·have hr := ite_f hb654 hr
           refine L_gf (e := 185) (by rfl) (by decide) (rfl : _ = Value.bool (decide ((y595.1.length : Int) = 1))) hb654 (by decide) ?_
           refine L_gf (e := 185) (by rfl) (by decide) (rfl : _ = Value.bool (decide ((y595.1.length : Int) = 1))) hb654 (by decide) ?_
           refine L_gf (e := 185) (by rfl) (by decide) (rfl : _ = Value.bool (decide ((y595.1.length : Int) = 1))) hb654 (by decide) ?_
           refine L_gf (e := 185) (by rfl) (by decide) (rfl : _ = Value.bool (decide ((y595.1.length : Int) = 1))) hb654 (by decide) ?_
           refine L_gf (e := 185) (by rfl) (by decide) (rfl : _ = Value.bool (decide ((y595.1.length : Int) = 1))) hb654 (by decide) ?_
           refine L_pick_f (rfl : _ = Value.bool (decide ((y595.1.length : Int) = 1))) hb654 (rfl : _ = Value.bool (false)) (by decide) ?_
           refine L_move (rfl : _ = Value.bool (false)) (by decide) ?_
           refine L_gf (e := 192) (by rfl) (by decide) (rfl : _ = Value.bool (false)) rfl (by decide) ?_
           refine L_gf (e := 192) (by rfl) (by decide) (rfl : _ = Value.bool (false)) rfl (by decide) ?_
           refine L_gf (e := 192) (by rfl) (by decide) (rfl : _ = Value.bool (false)) rfl (by decide) ?_
           refine L_gf (e := 192) (by rfl) (by decide) (rfl : _ = Value.bool (false)) rfl (by decide) ?_
           refine L_gf (e := 192) (by rfl) (by decide) (rfl : _ = Value.bool (false)) rfl (by decide) ?_
           refine L_gf (e := 192) (by rfl) (by decide) (rfl : _ = Value.bool (false)) rfl (by decide) ?_
           refine L_pick_f (rfl : _ = Value.bool (false)) rfl (rfl : _ = Value.bool (false)) (by decide) ?_
           refine L_move (rfl : _ = Value.bool (false)) (by decide) ?_
           refine L_gf (e := 200) (by rfl) (by decide) (rfl : _ = Value.bool (false)) rfl (by decide) ?_
           refine L_gf (e := 200) (by rfl) (by decide) (rfl : _ = Value.bool (false)) rfl (by decide) ?_
           refine L_gf (e := 200) (by rfl) (by decide) (rfl : _ = Value.bool (false)) rfl (by decide) ?_
           refine L_pick_f (rfl : _ = Value.bool (false)) rfl (rfl : _ = Value.bool (false)) (by decide) ?_
           refine L_assign (rfl : _ = Value.bool (false)) (by decide) ?_
           refine L_nil ?_
           refine then_n ?_
           refine W_ret ?_
           obtain rfl := Option.some.inj hr
           exact done1 (Or.inl rfl) Try.results10 rfl ⟨_, _, rfl, rfl, hE651, Vbool⟩
         ·have hr := ite_f hb653 hr
          refine L_gf (e := 180) (by rfl) (by decide) (rfl : _ = Value.bool (decide (y631.2 = 0))) hb653 (by decide) ?_
          refine L_gf (e := 180) (by rfl) (by decide) (rfl : _ = Value.bool (decide (y631.2 = 0))) hb653 (by decide) ?_
          refine L_gf (e := 180) (by rfl) (by decide) (rfl : _ = Value.bool (decide (y631.2 = 0))) hb653 (by decide) ?_
          refine L_pick_f (rfl : _ = Value.bool (decide (y631.2 = 0))) hb653 (rfl : _ = Value.bool (false)) (by decide) ?_
          refine L_move (rfl : _ = Value.bool (false)) (by decide) ?_
          refine L_gf (e := 185) (by rfl) (by decide) (rfl : _ = Value.bool (false)) rfl (by decide) ?_
          refine L_gf (e := 185) (by rfl) (by decide) (rfl : _ = Value.bool (false)) rfl (by decide) ?_
          refine L_gf (e := 185) (by rfl) (by decide) (rfl : _ = Value.bool (false)) rfl (by decide) ?_
          refine L_gf (e := 185) (by rfl) (by decide) (rfl : _ = Value.bool (false)) rfl (by decide) ?_
          refine L_gf (e := 185) (by rfl) (by decide) (rfl : _ = Value.bool (false)) rfl (by decide) ?_
          refine L_pick_f (rfl : _ = Value.bool (false)) rfl (rfl : _ = Value.bool (false)) (by decide) ?_
          refine L_move (rfl : _ = Value.bool (false)) (by decide) ?_
          refine L_gf (e := 192) (by rfl) (by decide) (rfl : _ = Value.bool (false)) rfl (by decide) ?_
          refine L_gf (e := 192) (by rfl) (by decide) (rfl : _ = Value.bool (false)) rfl (by decide) ?_
          refine L_gf (e := 192) (by rfl) (by decide) (rfl : _ = Value.bool (false)) rfl (by decide) ?_
          refine L_gf (e := 192) (by rfl) (by decide) (rfl : _ = Value.bool (false)) rfl (by decide) ?_
          refine L_gf (e := 192) (by rfl) (by decide) (rfl : _ = Value.bool (false)) rfl (by decide) ?_
          refine L_gf (e := 192) (by rfl) (by decide) (rfl : _ = Value.bool (false)) rfl (by decide) ?_
          refine L_pick_f (rfl : _ = Value.bool (false)) rfl (rfl : _ = Value.bool (false)) (by decide) ?_
          refine L_move (rfl : _ = Value.bool (false)) (by decide) ?_
          refine L_gf (e := 200) (by rfl) (by decide) (rfl : _ = Value.bool (false)) rfl (by decide) ?_
          refine L_gf (e := 200) (by rfl) (by decide) (rfl : _ = Value.bool (false)) rfl (by decide) ?_
          refine L_gf (e := 200) (by rfl) (by decide) (rfl : _ = Value.bool (false)) rfl (by decide) ?_
          refine L_pick_f (rfl : _ = Value.bool (false)) rfl (rfl : _ = Value.bool (false)) (by decide) ?_
          refine L_assign (rfl : _ = Value.bool (false)) (by decide) ?_
          refine L_nil ?_
          refine then_n ?_
          refine W_ret ?_
          obtain rfl := Option.some.inj hr
          exact done1 (Or.inl rfl) Try.results10 rfl ⟨_, _, rfl, rfl, hE651, Vbool⟩
        ·have hr := ite_f hb652 hr
         refine L_gf (e := 176) (by rfl) (by decide) (rfl : _ = Value.bool (decide (y595.2 = 0))) hb652 (by decide) ?_
         refine L_gf (e := 176) (by rfl) (by decide) (rfl : _ = Value.bool (decide (y595.2 = 0))) hb652 (by decide) ?_
         refine L_pick_f (rfl : _ = Value.bool (decide (y595.2 = 0))) hb652 (rfl : _ = Value.bool (false)) (by decide) ?_
         refine L_move (rfl : _ = Value.bool (false)) (by decide) ?_
         refine L_gf (e := 180) (by rfl) (by decide) (rfl : _ = Value.bool (false)) rfl (by decide) ?_
         refine L_gf (e := 180) (by rfl) (by decide) (rfl : _ = Value.bool (false)) rfl (by decide) ?_
         refine L_gf (e := 180) (by rfl) (by decide) (rfl : _ = Value.bool (false)) rfl (by decide) ?_
         refine L_pick_f (rfl : _ = Value.bool (false)) rfl (rfl : _ = Value.bool (false)) (by decide) ?_
         refine L_move (rfl : _ = Value.bool (false)) (by decide) ?_
         refine L_gf (e := 185) (by rfl) (by decide) (rfl : _ = Value.bool (false)) rfl (by decide) ?_
         refine L_gf (e := 185) (by rfl) (by decide) (rfl : _ = Value.bool (false)) rfl (by decide) ?_
         refine L_gf (e := 185) (by rfl) (by decide) (rfl : _ = Value.bool (false)) rfl (by decide) ?_
         refine L_gf (e := 185) (by rfl) (by decide) (rfl : _ = Value.bool (false)) rfl (by decide) ?_
         refine L_gf (e := 185) (by rfl) (by decide) (rfl : _ = Value.bool (false)) rfl (by decide) ?_
         refine L_pick_f (rfl : _ = Value.bool (false)) rfl (rfl : _ = Value.bool (false)) (by decide) ?_
         refine L_move (rfl : _ = Value.bool (false)) (by decide) ?_
         refine L_gf (e := 192) (by rfl) (by decide) (rfl : _ = Value.bool (false)) rfl (by decide) ?_
         refine L_gf (e := 192) (by rfl) (by decide) (rfl : _ = Value.bool (false)) rfl (by decide) ?_
         refine L_gf (e := 192) (by rfl) (by decide) (rfl : _ = Value.bool (false)) rfl (by decide) ?_
         refine L_gf (e := 192) (by rfl) (by decide) (rfl : _ = Value.bool (false)) rfl (by decide) ?_
         refine L_gf (e := 192) (by rfl) (by decide) (rfl : _ = Value.bool (false)) rfl (by decide) ?_
         refine L_gf (e := 192) (by rfl) (by decide) (rfl : _ = Value.bool (false)) rfl (by decide) ?_
         refine L_pick_f (rfl : _ = Value.bool (false)) rfl (rfl : _ = Value.bool (false)) (by decide) ?_
         refine L_move (rfl : _ = Value.bool (false)) (by decide) ?_
         refine L_gf (e := 200) (by rfl) (by decide) (rfl : _ = Value.bool (false)) rfl (by decide) ?_
         refine L_gf (e := 200) (by rfl) (by decide) (rfl : _ = Value.bool (false)) rfl (by decide) ?_
         refine L_gf (e := 200) (by rfl) (by decide) (rfl : _ = Value.bool (false)) rfl (by decide) ?_
         refine L_pick_f (rfl : _ = Value.bool (false)) rfl (rfl : _ = Value.bool (false)) (by decide) ?_
         refine L_assign (rfl : _ = Value.bool (false)) (by decide) ?_
         refine L_nil ?_
         refine then_n ?_
         refine W_ret ?_
         obtain rfl := Option.some.inj hr
         exact done1 (Or.inl rfl) Try.results10 rfl ⟨_, _, rfl, rfl, hE651, Vbool⟩

theorem law08_light_ok (N : Nat) (s0 : St) (w0 : Value) (a0 : List (List Deed)) (h0 : V s0 w0 a0) (r : Bool) (hr : law08_light N a0 = some r) :
  Calls Try.prog 20 #[w0] s0.w (Ret s0 fun v s => V s v r) := by
 unfold law08_light at hr
 have hE0 := Ext.refl s0
 refine Calls_of (n := 35) (args := [w0]) Try.func20 rfl rfl (by simp) ?_
 refine W_seq ?_
 refine W_region ?_
 refine L_assign (rfl : _ = Value.bool (false)) (by decide) ?_
 refine L_nil ?_
 refine then_n ?_
 refine W_seq ?_
 obtain ⟨o2, ho3, hq4⟩ := bind_some hr
 refine W_seq_cut (fun f w => ∃ (s : St) (x1 : Bool), s.w = w ∧ Ext s0 s ∧ Le s0 s ∧ x1 = o2 ∧ f 14 = Value.bool x1 ∧ f 0 = w0) ?_ ?_
 ·have hr := ho3
  refine W_region ?_
  refine L_move (rfl : _ = w0) (by decide) ?_
  refine L_len Try.underlying29 (rfl : _ = w0) h0 (by decide) ?_
  refine L_gtr (rfl : _ = Value.int .i64 ((a0.length : Int))) (rfl : _ = Value.int .i64 (6)) (by decide) ?_
  refine L_move (rfl : _ = Value.bool (decide (6 < (a0.length : Int)))) (by decide) ?_
  rcases Bool.eq_false_or_eq_true (decide (6 < (a0.length : Int))) with hb5 | hb5
  ·have hr := ite_t hb5 hr
   refine L_gf (e := 10) (by rfl) (by decide) (rfl : _ = Value.bool (decide (6 < (a0.length : Int)))) hb5 (by decide) ?_
   refine L_gf (e := 10) (by rfl) (by decide) (rfl : _ = Value.bool (decide (6 < (a0.length : Int)))) hb5 (by decide) ?_
   refine L_gf (e := 10) (by rfl) (by decide) (rfl : _ = Value.bool (decide (6 < (a0.length : Int)))) hb5 (by decide) ?_
   refine L_pick_t (rfl : _ = Value.bool (decide (6 < (a0.length : Int)))) hb5 (rfl : _ = Value.bool (true)) (by decide) ?_
   refine L_nil ?_
   exact then_n ⟨s0, true, rfl, hE0, (Le.refl _), Option.some.inj hr, rfl, rfl⟩
  ·have hr := ite_f hb5 hr
   refine L_gt (e := 10) (by rfl) (by decide) (rfl : _ = Value.bool (decide (6 < (a0.length : Int)))) hb5 ?_
   refine L_move (rfl : _ = w0) (by decide) ?_
   refine L_gt (e := 10) (by rfl) (by decide) (rfl : _ = Value.bool (decide (6 < (a0.length : Int)))) hb5 ?_
   obtain ⟨y6, hy7, hr⟩ := bind_some hr
   refine L_calls cal27 (args1 (rfl : _ = w0)) (dead_Check_ok N _ _ _ h0 y6 hy7) (by decide) ?_
   intro v8 s11 e9 hv10
   have hE12 := Tch.ext hE0 e9
   obtain rfl := hv10.int
   refine L_gt (e := 10) (by rfl) (by decide) (rfl : _ = Value.bool (decide (6 < (a0.length : Int)))) hb5 ?_
   refine L_neq (rfl : _ = Value.int .i64 (y6)) (rfl : _ = Value.int .i64 (0)) (by decide) ?_
   refine L_pick_f (rfl : _ = Value.bool (decide (6 < (a0.length : Int)))) hb5 (rfl : _ = Value.bool (!decide (y6 = 0))) (by decide) ?_
   refine L_nil ?_
   exact then_n ⟨s11, (!decide (y6 = 0)), rfl, hE12, e9.le, Option.some.inj hr, rfl, rfl⟩
 ·rintro f84 w85 ⟨s13, x1, rfl, hE15, l14, ho3, g16_14, g16_0⟩
  subst ho3
  have hr := hq4
  try dsimp only at hr
  refine W_cond _ g16_14 (fun hb17 => ?_) (fun hb17 => ?_)
  ·have hr := ite_t hb17 hr
   refine W_seq ?_
   refine W_region ?_
   refine L_assign (rfl : _ = Value.bool (false)) (by decide) ?_
   refine L_nil ?_
   refine then_n ?_
   refine W_ret ?_
   refine then_r ?_
   obtain rfl := Option.some.inj hr
   exact done1 (Or.inl rfl) Try.results20 rfl ⟨_, _, rfl, rfl, hE15, Vbool⟩
  ·have hr := ite_f hb17 hr
   refine W_skip ?_
   refine then_n ?_
   refine W_seq ?_
   refine W_seq ?_
   refine W_region ?_
   refine L_move g16_0 (by decide) ?_
   refine L_len Try.underlying29 (rfl : _ = w0) (h0.mono l14) (by decide) ?_
   refine L_move (rfl : _ = Value.int .i64 (0)) (by decide) ?_
   refine L_nil ?_
   refine then_n ?_
   obtain ⟨o19, ho20, hq22⟩ := bind_some hr
   refine W_cut (fun f w => ∃ (s : St), s.w = w ∧ Ext s0 s ∧ Le s13 s ∧ Sum.inl () = o19) ?_ ?_
   ·refine W_block ?_
    refine W_loop (fun m f w => ∃ (s : St) (x18 : Int), s.w = w ∧ Ext s0 s ∧ Le s13 s ∧ law08_light_l1 N a0 m x18 = some o19 ∧ f 17 = Value.int .i64 x18 ∧ f 15 = w0 ∧ f 16 = Value.int .i64 ((a0.length : Int))) N ⟨s13, 0, rfl, hE15, (Le.refl _), ho20, rfl, rfl, rfl⟩ ?_
    rintro m21 f78 w79 ⟨s24, x18, rfl, hE26, l25, hr, g27_17, g27_15, g27_16⟩
    cases m21 with
    | zero => exact absurd hr (by simp [law08_light_l1])
    | succ m21 =>
     rw [law08_light_l1.eq_2] at hr
     refine W_seq ?_
     refine W_region ?_
     refine L_lss g27_17 g27_16 (by decide) ?_
     refine L_nil ?_
     refine then_n ?_
     refine W_seq ?_
     refine W_cond _ (rfl : _ = Value.bool (decide (x18 < (a0.length : Int)))) (fun hb28 => ?_) (fun hb28 => ?_)
     ·have hr := ite_t hb28 hr
      refine W_skip ?_
      refine then_n ?_
      refine W_seq ?_
      refine W_block ?_
      refine W_seq ?_
      refine W_region ?_
      obtain ⟨y29, hy30, hr⟩ := bind_some hr
      refine L_index Try.underlying29 ty59.inf g27_15 (h0.mono (l14.trans l25)) g27_17 hy30 (by decide) ?_
      intro p31 hp32
      refine L_load ty59 (rfl : _ = p31) hp32 (by decide) ?_
      intro v33 hv34
      refine L_assign (rfl : _ = v33) (by decide) ?_
      refine L_nil ?_
      refine then_n ?_
      refine W_seq ?_
      refine W_seq ?_
      refine W_region ?_
      refine L_move (rfl : _ = v33) (by decide) ?_
      refine L_len Try.underlying59 (rfl : _ = v33) hv34 (by decide) ?_
      refine L_gtr (rfl : _ = Value.int .i64 ((y29.length : Int))) (rfl : _ = Value.int .i64 (20)) (by decide) ?_
      refine L_nil ?_
      refine then_n ?_
      refine W_cond _ (rfl : _ = Value.bool (decide (20 < (y29.length : Int)))) (fun hb35 => ?_) (fun hb35 => ?_)
      ·have hr := ite_t hb35 hr
       refine W_seq ?_
       refine W_region ?_
       refine L_assign (rfl : _ = Value.bool (false)) (by decide) ?_
       refine L_nil ?_
       refine then_n ?_
       refine W_ret ?_
       refine then_r ?_
       refine block_r ?_
       refine then_r ?_
       refine then_r ?_
       refine block_r ?_
       obtain rfl := Option.some.inj hr
       have hr := hq22
       try dsimp only at hr
       refine then_r ?_
       refine then_r ?_
       obtain rfl := Option.some.inj hr
       exact done1 (Or.inl rfl) Try.results20 rfl ⟨_, _, rfl, rfl, hE26, Vbool⟩
      ·have hr := ite_f hb35 hr
       refine W_skip ?_
       refine then_n ?_
       refine W_seq ?_
       refine W_region ?_
       refine L_move (rfl : _ = v33) (by decide) ?_
       refine L_len Try.underlying59 (rfl : _ = v33) hv34 (by decide) ?_
       refine L_move (rfl : _ = Value.int .i64 (0)) (by decide) ?_
       refine L_nil ?_
       refine then_n ?_
       obtain ⟨o37, ho38, hq40⟩ := bind_some hr
       refine W_cut (fun f w => ∃ (s : St), s.w = w ∧ Ext s0 s ∧ Le s24 s ∧ Sum.inl () = o37 ∧ f 15 = w0 ∧ f 16 = Value.int .i64 ((a0.length : Int)) ∧ f 17 = Value.int .i64 (x18)) ?_ ?_
       ·refine W_block ?_
        refine W_loop (fun m f w => ∃ (s : St) (x36 : Int), s.w = w ∧ Ext s0 s ∧ Le s24 s ∧ law08_light_l2 N y29 m x36 = some o37 ∧ f 26 = Value.int .i64 x36 ∧ f 15 = w0 ∧ f 16 = Value.int .i64 ((a0.length : Int)) ∧ f 17 = Value.int .i64 (x18) ∧ f 24 = v33 ∧ f 25 = Value.int .i64 ((y29.length : Int))) N ⟨s24, 0, rfl, hE26, (Le.refl _), ho38, rfl, g27_15, g27_16, g27_17, rfl, rfl⟩ ?_
        rintro m39 f69 w70 ⟨s42, x36, rfl, hE44, l43, hr, g45_26, g45_15, g45_16, g45_17, g45_24, g45_25⟩
        cases m39 with
        | zero => exact absurd hr (by simp [law08_light_l2])
        | succ m39 =>
         rw [law08_light_l2.eq_2] at hr
         refine W_seq ?_
         refine W_region ?_
         refine L_lss g45_26 g45_25 (by decide) ?_
         refine L_nil ?_
         refine then_n ?_
         refine W_seq ?_
         refine W_cond _ (rfl : _ = Value.bool (decide (x36 < (y29.length : Int)))) (fun hb46 => ?_) (fun hb46 => ?_)
         ·have hr := ite_t hb46 hr
          refine W_skip ?_
          refine then_n ?_
          refine W_seq ?_
          refine W_block ?_
          refine W_seq ?_
          refine W_region ?_
          obtain ⟨y47, hy48, hr⟩ := bind_some hr
          refine L_index Try.underlying59 ty64.inf g45_24 (hv34.mono l43) g45_26 hy48 (by decide) ?_
          intro p49 hp50
          refine L_load ty64 (rfl : _ = p49) hp50 (by decide) ?_
          intro v51 hv52
          refine L_alloc (α := Deed) (x := ⟨0, 0, 0, 0, false⟩) zero64 Deed.zero_rel (by decide) ?_
          intro s57 b54 e53 hb55 hv56
          have hE58 := Tch.ext hE44 e53
          refine L_store_ro ty64 (rfl : _ = Value.pointer (some ⟨b54, 0, none⟩)) (rfl : _ = v51) (hv52.mono e53.le) (hv56) ?_
          intro s61 e59 hv60
          have hE62 := Tch.trans hE58 e59 (fun k hk => Or.inr (by subst hk; exact (Nat.le_trans hE44.size hb55)))
          refine L_nil ?_
          refine then_n ?_
          refine W_seq ?_
          refine W_region ?_
          refine L_fieldAddr fld64_1 Deed.of_Peer (rfl : _ = Value.pointer (some ⟨b54, 0, none⟩)) hv60 (by decide) ?_
          intro p63 hp64
          refine L_load_int ty3 (rfl : _ = p63) hp64 (by decide) ?_
          refine L_eql (rfl : _ = Value.int .i64 (y47.Peer)) (rfl : _ = Value.int .i64 (-1)) (by decide) ?_
          refine L_nil ?_
          refine then_n ?_
          refine W_cond _ (rfl : _ = Value.bool (decide (y47.Peer = (-1)))) (fun hb65 => ?_) (fun hb65 => ?_)
          ·have hr := ite_t hb65 hr
           refine W_seq ?_
           refine W_region ?_
           refine L_assign (rfl : _ = Value.bool (false)) (by decide) ?_
           refine L_nil ?_
           refine then_n ?_
           refine W_ret ?_
           refine block_r ?_
           refine then_r ?_
           refine then_r ?_
           refine block_r ?_
           obtain rfl := Option.some.inj hr
           have hr := hq40
           try dsimp only at hr
           refine then_r ?_
           refine block_r ?_
           refine then_r ?_
           refine then_r ?_
           refine block_r ?_
           obtain rfl := Option.some.inj hr
           have hr := hq22
           try dsimp only at hr
           refine then_r ?_
           refine then_r ?_
           obtain rfl := Option.some.inj hr
           exact done1 (Or.inl rfl) Try.results20 rfl ⟨_, _, rfl, rfl, hE62, Vbool⟩
          ·have hr := ite_f hb65 hr
           refine W_skip ?_
           refine block_n ?_
           refine then_n ?_
           refine W_region ?_
           obtain ⟨hc66, hr⟩ := chk_some hr
           refine L_add g45_26 (rfl : _ = Value.int .i64 (1)) hc66 (by decide) ?_
           refine L_move (rfl : _ = Value.int .i64 (x36 + 1)) (by decide) ?_
           refine L_nil ?_
           exact then_n ⟨m39, Nat.lt_succ_self _, ⟨s61, (x36 + 1), rfl, hE62, (l43.trans (e53.le.trans e59.le)), hr, rfl, g45_15, g45_16, g45_17, g45_24, g45_25⟩⟩
         ·have hr := ite_f hb46 hr
          refine W_exit ?_
          refine then_x ?_
          refine then_x ?_
          refine block_here ?_
          exact then_n ⟨s42, rfl, hE44, l43, Option.some.inj hr, g45_15, g45_16, g45_17⟩
       ·rintro f67 w68 ⟨s71, rfl, hE73, l72, ho38, g74_15, g74_16, g74_17⟩
        subst ho38
        have hr := hq40
        try dsimp only at hr
        refine block_n ?_
        refine then_n ?_
        refine W_region ?_
        obtain ⟨hc75, hr⟩ := chk_some hr
        refine L_add g74_17 (rfl : _ = Value.int .i64 (1)) hc75 (by decide) ?_
        refine L_move (rfl : _ = Value.int .i64 (x18 + 1)) (by decide) ?_
        refine L_nil ?_
        exact then_n ⟨m21, Nat.lt_succ_self _, ⟨s71, (x18 + 1), rfl, hE73, (l25.trans l72), hr, rfl, g74_15, g74_16⟩⟩
     ·have hr := ite_f hb28 hr
      refine W_exit ?_
      refine then_x ?_
      refine then_x ?_
      refine block_here ?_
      exact then_n ⟨s24, rfl, hE26, l25, Option.some.inj hr⟩
   ·rintro f76 w77 ⟨s80, rfl, hE82, l81, ho20⟩
    subst ho20
    have hr := hq22
    try dsimp only at hr
    refine then_n ?_
    refine W_seq ?_
    refine W_region ?_
    refine L_assign (rfl : _ = Value.bool (true)) (by decide) ?_
    refine L_nil ?_
    refine then_n ?_
    refine W_ret ?_
    obtain rfl := Option.some.inj hr
    exact done1 (Or.inl rfl) Try.results20 rfl ⟨_, _, rfl, rfl, hE82, Vbool⟩

theorem law08_ends_ok (N : Nat) (s0 : St) (w0 : Value) (a0 : List (List Deed)) (h0 : V s0 w0 a0) (a1 : Int) (r : (List Int) × Bool × Bool) (hr : law08_ends N a0 a1 = some r) :
  Calls Try.prog 21 #[w0, .int .i64 a1] s0.w (Ret s0 fun v s => ∃ a b c, v = .tuple #[a, b, c] ∧ V s a r.1 ∧ V s b r.2.1 ∧ V s c r.2.2) := by
 unfold law08_ends at hr
 have hE0 := Ext.refl s0
 refine Calls_of (n := 58) (args := [w0, .int .i64 a1]) Try.func21 rfl rfl (by simp) ?_
 refine W_seq ?_
 refine W_region ?_
 refine L_assign (rfl : _ = Value.slice none 0 0) (by decide) ?_
 refine L_assign (rfl : _ = Value.bool (false)) (by decide) ?_
 refine L_assign (rfl : _ = Value.bool (false)) (by decide) ?_
 refine L_nil ?_
 refine then_n ?_
 refine W_seq ?_
 refine W_region ?_
 refine L_move (rfl : _ = w0) (by decide) ?_
 refine L_move (rfl : _ = Value.int .i64 (a1)) (by decide) ?_
 obtain ⟨y1, hy2, hr⟩ := bind_some hr
 refine L_calls cal30 (args2 (rfl : _ = w0) (rfl : _ = Value.int .i64 (a1))) (dead_End_ok N _ _ _ h0 a1 y1 hy2) (by decide) ?_
 intro v3 s6 e4 hv5
 have hE7 := Tch.ext hE0 e4
 obtain ⟨v8, v9, rfl, hv10, hv11⟩ := hv5
 obtain rfl := hv11.int
 refine L_move (rfl : _ = Value.tuple #[v8, Value.int .i64 (y1.2)]) (by decide) ?_
 refine L_extract (rfl : _ = Value.tuple #[v8, Value.int .i64 (y1.2)]) (k := 0) rfl (by decide) ?_
 refine L_extract (rfl : _ = Value.tuple #[v8, Value.int .i64 (y1.2)]) (k := 1) rfl (by decide) ?_
 refine L_assign (rfl : _ = v8) (by decide) ?_
 refine L_assign (rfl : _ = Value.int .i64 (y1.2)) (by decide) ?_
 refine L_nil ?_
 refine then_n ?_
 refine W_seq ?_
 obtain ⟨o13, ho14, hq15⟩ := bind_some hr
 refine W_seq_cut (fun f w => ∃ (s : St) (x12 : Bool), s.w = w ∧ Ext s0 s ∧ Le s6 s ∧ x12 = o13 ∧ f 26 = Value.bool x12 ∧ f 0 = w0 ∧ f 7 = v8) ?_ ?_
 ·have hr := ho14
  refine W_region ?_
  refine L_move (rfl : _ = Value.int .i64 (y1.2)) (by decide) ?_
  refine L_neq (rfl : _ = Value.int .i64 (y1.2)) (rfl : _ = Value.int .i64 (0)) (by decide) ?_
  refine L_move (rfl : _ = Value.bool (!decide (y1.2 = 0))) (by decide) ?_
  rcases Bool.eq_false_or_eq_true (!decide (y1.2 = 0)) with hb16 | hb16
  ·have hr := ite_t hb16 hr
   refine L_gf (e := 20) (by rfl) (by decide) (rfl : _ = Value.bool (!decide (y1.2 = 0))) hb16 (by decide) ?_
   refine L_gf (e := 20) (by rfl) (by decide) (rfl : _ = Value.bool (!decide (y1.2 = 0))) hb16 (by decide) ?_
   refine L_gf (e := 20) (by rfl) (by decide) (rfl : _ = Value.bool (!decide (y1.2 = 0))) hb16 (by decide) ?_
   refine L_gf (e := 20) (by rfl) (by decide) (rfl : _ = Value.bool (!decide (y1.2 = 0))) hb16 (by decide) ?_
   refine L_gf (e := 20) (by rfl) (by decide) (rfl : _ = Value.bool (!decide (y1.2 = 0))) hb16 (by decide) ?_
   refine L_pick_t (rfl : _ = Value.bool (!decide (y1.2 = 0))) hb16 (rfl : _ = Value.bool (true)) (by decide) ?_
   refine L_nil ?_
   exact then_n ⟨s6, true, rfl, hE7, (Le.refl _), Option.some.inj hr, rfl, rfl, rfl⟩
  ·have hr := ite_f hb16 hr
   refine L_gt (e := 20) (by rfl) (by decide) (rfl : _ = Value.bool (!decide (y1.2 = 0))) hb16 ?_
   refine L_move (rfl : _ = v8) (by decide) ?_
   refine L_gt (e := 20) (by rfl) (by decide) (rfl : _ = Value.bool (!decide (y1.2 = 0))) hb16 ?_
   refine L_len Try.underlying23 (rfl : _ = v8) hv10 (by decide) ?_
   refine L_gt (e := 20) (by rfl) (by decide) (rfl : _ = Value.bool (!decide (y1.2 = 0))) hb16 ?_
   refine L_move (rfl : _ = w0) (by decide) ?_
   refine L_gt (e := 20) (by rfl) (by decide) (rfl : _ = Value.bool (!decide (y1.2 = 0))) hb16 ?_
   refine L_len Try.underlying29 (rfl : _ = w0) (h0.mono e4.le) (by decide) ?_
   refine L_gt (e := 20) (by rfl) (by decide) (rfl : _ = Value.bool (!decide (y1.2 = 0))) hb16 ?_
   refine L_neq (rfl : _ = Value.int .i64 ((y1.1.length : Int))) (rfl : _ = Value.int .i64 ((a0.length : Int))) (by decide) ?_
   refine L_pick_f (rfl : _ = Value.bool (!decide (y1.2 = 0))) hb16 (rfl : _ = Value.bool (!decide ((y1.1.length : Int) = (a0.length : Int)))) (by decide) ?_
   refine L_nil ?_
   exact then_n ⟨s6, (!decide ((y1.1.length : Int) = (a0.length : Int))), rfl, hE7, (Le.refl _), Option.some.inj hr, rfl, rfl, rfl⟩
 ·rintro f74 w75 ⟨s17, x12, rfl, hE19, l18, ho14, g20_26, g20_0, g20_7⟩
  subst ho14
  have hr := hq15
  try dsimp only at hr
  refine W_cond _ g20_26 (fun hb21 => ?_) (fun hb21 => ?_)
  ·have hr := ite_t hb21 hr
   refine W_seq ?_
   refine W_region ?_
   refine L_assign (rfl : _ = Value.slice none 0 0) (by decide) ?_
   refine L_assign (rfl : _ = Value.bool (false)) (by decide) ?_
   refine L_assign (rfl : _ = Value.bool (false)) (by decide) ?_
   refine L_nil ?_
   refine then_n ?_
   refine W_ret ?_
   refine then_r ?_
   obtain rfl := Option.some.inj hr
   exact done3 (Or.inl rfl) Try.results21 rfl rfl rfl ⟨_, _, rfl, rfl, hE19, _, _, _, rfl, Vnil, Vbool, Vbool⟩
  ·have hr := ite_f hb21 hr
   refine W_skip ?_
   refine then_n ?_
   refine W_seq ?_
   refine W_region ?_
   refine L_assign (rfl : _ = Value.bool (true)) (by decide) ?_
   refine L_nil ?_
   refine then_n ?_
   refine W_seq ?_
   refine W_seq ?_
   refine W_region ?_
   refine L_move g20_7 (by decide) ?_
   refine L_len Try.underlying23 (rfl : _ = v8) (hv10.mono l18) (by decide) ?_
   refine L_move (rfl : _ = Value.int .i64 (0)) (by decide) ?_
   refine L_nil ?_
   refine then_n ?_
   obtain ⟨o25, ho26, hq28⟩ := bind_some hr
   refine W_cut (fun f w => ∃ (s : St) (x24 : Bool), s.w = w ∧ Ext s0 s ∧ Le s17 s ∧ Sum.inl x24 = o25 ∧ f 9 = Value.bool x24 ∧ f 7 = v8) ?_ ?_
   ·refine W_block ?_
    refine W_loop (fun m f w => ∃ (s : St) (x22 : Bool) (x23 : Int), s.w = w ∧ Ext s0 s ∧ Le s17 s ∧ law08_ends_l1 N a0 y1 m x22 x23 = some o25 ∧ f 9 = Value.bool x22 ∧ f 29 = Value.int .i64 x23 ∧ f 0 = w0 ∧ f 7 = v8 ∧ f 27 = v8 ∧ f 28 = Value.int .i64 ((y1.1.length : Int))) N ⟨s17, true, 0, rfl, hE19, (Le.refl _), ho26, rfl, rfl, g20_0, g20_7, rfl, rfl⟩ ?_
    rintro m27 f68 w69 ⟨s30, x22, x23, rfl, hE32, l31, hr, g33_9, g33_29, g33_0, g33_7, g33_27, g33_28⟩
    cases m27 with
    | zero => exact absurd hr (by simp [law08_ends_l1])
    | succ m27 =>
     rw [law08_ends_l1.eq_2] at hr
     refine W_seq ?_
     refine W_region ?_
     refine L_lss g33_29 g33_28 (by decide) ?_
     refine L_nil ?_
     refine then_n ?_
     refine W_seq ?_
     refine W_cond _ (rfl : _ = Value.bool (decide (x23 < (y1.1.length : Int)))) (fun hb34 => ?_) (fun hb34 => ?_)
     ·have hr := ite_t hb34 hr
      refine W_skip ?_
      refine then_n ?_
      refine W_seq ?_
      refine W_block ?_
      refine W_seq ?_
      refine W_region ?_
      refine L_move g33_29 (by decide) ?_
      obtain ⟨y35, hy36, hr⟩ := bind_some hr
      refine L_index Try.underlying23 ty3.inf g33_27 (hv10.mono (l18.trans l31)) g33_29 hy36 (by decide) ?_
      intro p37 hp38
      refine L_load_int ty3 (rfl : _ = p37) hp38 (by decide) ?_
      refine L_assign (rfl : _ = Value.int .i64 (x23)) (by decide) ?_
      refine L_assign (rfl : _ = Value.int .i64 (y35)) (by decide) ?_
      refine L_nil ?_
      refine then_n ?_
      refine W_seq ?_
      obtain ⟨o40, ho41, hq42⟩ := bind_some hr
      refine W_seq_cut (fun f w => ∃ (s : St) (x39 : Bool), s.w = w ∧ Ext s0 s ∧ Le s30 s ∧ x39 = o40 ∧ f 44 = Value.bool x39 ∧ f 0 = w0 ∧ f 7 = v8 ∧ f 9 = Value.bool (x22) ∧ f 10 = Value.int .i64 (x23) ∧ f 11 = Value.int .i64 (y35) ∧ f 27 = v8 ∧ f 28 = Value.int .i64 ((y1.1.length : Int)) ∧ f 29 = Value.int .i64 (x23)) ?_ ?_
      ·have hr := ho41
       refine W_region ?_
       refine L_move (rfl : _ = Value.int .i64 (y35)) (by decide) ?_
       refine L_lss (rfl : _ = Value.int .i64 (y35)) (rfl : _ = Value.int .i64 (0)) (by decide) ?_
       refine L_move (rfl : _ = Value.bool (decide (y35 < 0))) (by decide) ?_
       rcases Bool.eq_false_or_eq_true (decide (y35 < 0)) with hb43 | hb43
       ·have hr := ite_t hb43 hr
        refine L_gf (e := 36) (by rfl) (by decide) (rfl : _ = Value.bool (decide (y35 < 0))) hb43 (by decide) ?_
        refine L_gf (e := 36) (by rfl) (by decide) (rfl : _ = Value.bool (decide (y35 < 0))) hb43 (by decide) ?_
        refine L_gf (e := 36) (by rfl) (by decide) (rfl : _ = Value.bool (decide (y35 < 0))) hb43 (by decide) ?_
        refine L_gf (e := 36) (by rfl) (by decide) (rfl : _ = Value.bool (decide (y35 < 0))) hb43 (by decide) ?_
        refine L_gf (e := 36) (by rfl) (by decide) (rfl : _ = Value.bool (decide (y35 < 0))) hb43 (by decide) ?_
        refine L_gf (e := 36) (by rfl) (by decide) (rfl : _ = Value.bool (decide (y35 < 0))) hb43 (by decide) ?_
        refine L_gf (e := 36) (by rfl) (by decide) (rfl : _ = Value.bool (decide (y35 < 0))) hb43 (by decide) ?_
        refine L_pick_t (rfl : _ = Value.bool (decide (y35 < 0))) hb43 (rfl : _ = Value.bool (true)) (by decide) ?_
        refine L_nil ?_
        exact then_n ⟨s30, true, rfl, hE32, (Le.refl _), Option.some.inj hr, rfl, g33_0, g33_7, g33_9, rfl, rfl, g33_27, g33_28, g33_29⟩
       ·have hr := ite_f hb43 hr
        refine L_gt (e := 36) (by rfl) (by decide) (rfl : _ = Value.bool (decide (y35 < 0))) hb43 ?_
        refine L_move (rfl : _ = Value.int .i64 (y35)) (by decide) ?_
        refine L_gt (e := 36) (by rfl) (by decide) (rfl : _ = Value.bool (decide (y35 < 0))) hb43 ?_
        refine L_move g33_0 (by decide) ?_
        refine L_gt (e := 36) (by rfl) (by decide) (rfl : _ = Value.bool (decide (y35 < 0))) hb43 ?_
        refine L_move (rfl : _ = Value.int .i64 (x23)) (by decide) ?_
        refine L_gt (e := 36) (by rfl) (by decide) (rfl : _ = Value.bool (decide (y35 < 0))) hb43 ?_
        obtain ⟨y44, hy45, hr⟩ := bind_some hr
        refine L_index Try.underlying29 ty59.inf (rfl : _ = w0) (h0.mono (e4.le.trans (l18.trans l31))) (rfl : _ = Value.int .i64 (x23)) hy45 (by decide) ?_
        intro p46 hp47
        refine L_gt (e := 36) (by rfl) (by decide) (rfl : _ = Value.bool (decide (y35 < 0))) hb43 ?_
        refine L_load ty59 (rfl : _ = p46) hp47 (by decide) ?_
        intro v48 hv49
        refine L_gt (e := 36) (by rfl) (by decide) (rfl : _ = Value.bool (decide (y35 < 0))) hb43 ?_
        refine L_len Try.underlying59 (rfl : _ = v48) hv49 (by decide) ?_
        refine L_gt (e := 36) (by rfl) (by decide) (rfl : _ = Value.bool (decide (y35 < 0))) hb43 ?_
        refine L_gtr (rfl : _ = Value.int .i64 (y35)) (rfl : _ = Value.int .i64 ((y44.length : Int))) (by decide) ?_
        refine L_pick_f (rfl : _ = Value.bool (decide (y35 < 0))) hb43 (rfl : _ = Value.bool (decide ((y44.length : Int) < y35))) (by decide) ?_
        refine L_nil ?_
        exact then_n ⟨s30, (decide ((y44.length : Int) < y35)), rfl, hE32, (Le.refl _), Option.some.inj hr, rfl, g33_0, g33_7, g33_9, rfl, rfl, g33_27, g33_28, g33_29⟩
      ·rintro f64 w65 ⟨s50, x39, rfl, hE52, l51, ho41, g53_44, g53_0, g53_7, g53_9, g53_10, g53_11, g53_27, g53_28, g53_29⟩
       subst ho41
       have hr := hq42
       try dsimp only at hr
       refine W_cond _ g53_44 (fun hb54 => ?_) (fun hb54 => ?_)
       ·have hr := ite_t hb54 hr
        refine W_seq ?_
        refine W_region ?_
        refine L_assign (rfl : _ = Value.slice none 0 0) (by decide) ?_
        refine L_assign (rfl : _ = Value.bool (false)) (by decide) ?_
        refine L_assign (rfl : _ = Value.bool (false)) (by decide) ?_
        refine L_nil ?_
        refine then_n ?_
        refine W_ret ?_
        refine then_r ?_
        refine block_r ?_
        refine then_r ?_
        refine then_r ?_
        refine block_r ?_
        obtain rfl := Option.some.inj hr
        have hr := hq28
        try dsimp only at hr
        refine then_r ?_
        refine then_r ?_
        obtain rfl := Option.some.inj hr
        exact done3 (Or.inl rfl) Try.results21 rfl rfl rfl ⟨_, _, rfl, rfl, hE52, _, _, _, rfl, Vnil, Vbool, Vbool⟩
       ·have hr := ite_f hb54 hr
        refine W_skip ?_
        refine then_n ?_
        refine W_region ?_
        refine L_move g53_9 (by decide) ?_
        refine L_move (rfl : _ = Value.bool (x22)) (by decide) ?_
        rcases Bool.eq_false_or_eq_true (x22) with hb55 | hb55
        ·have hr := ite_t hb55 hr
         refine L_gt (e := 46) (by rfl) (by decide) (rfl : _ = Value.bool (x22)) hb55 ?_
         refine L_move g53_11 (by decide) ?_
         refine L_gt (e := 46) (by rfl) (by decide) (rfl : _ = Value.bool (x22)) hb55 ?_
         refine L_move g53_0 (by decide) ?_
         refine L_gt (e := 46) (by rfl) (by decide) (rfl : _ = Value.bool (x22)) hb55 ?_
         refine L_move g53_10 (by decide) ?_
         refine L_gt (e := 46) (by rfl) (by decide) (rfl : _ = Value.bool (x22)) hb55 ?_
         obtain ⟨y56, hy57, hr⟩ := bind_some hr
         refine L_index Try.underlying29 ty59.inf (rfl : _ = w0) (h0.mono (e4.le.trans (l18.trans (l31.trans l51)))) (rfl : _ = Value.int .i64 (x23)) hy57 (by decide) ?_
         intro p58 hp59
         refine L_gt (e := 46) (by rfl) (by decide) (rfl : _ = Value.bool (x22)) hb55 ?_
         refine L_load ty59 (rfl : _ = p58) hp59 (by decide) ?_
         intro v60 hv61
         refine L_gt (e := 46) (by rfl) (by decide) (rfl : _ = Value.bool (x22)) hb55 ?_
         refine L_len Try.underlying59 (rfl : _ = v60) hv61 (by decide) ?_
         refine L_gt (e := 46) (by rfl) (by decide) (rfl : _ = Value.bool (x22)) hb55 ?_
         refine L_eql (rfl : _ = Value.int .i64 (y35)) (rfl : _ = Value.int .i64 ((y56.length : Int))) (by decide) ?_
         refine L_pick_t (rfl : _ = Value.bool (x22)) hb55 (rfl : _ = Value.bool (decide (y35 = (y56.length : Int)))) (by decide) ?_
         refine L_assign (rfl : _ = Value.bool (decide (y35 = (y56.length : Int)))) (by decide) ?_
         refine L_nil ?_
         refine block_n ?_
         refine then_n ?_
         refine W_region ?_
         obtain ⟨hc62, hr⟩ := chk_some hr
         refine L_add g53_29 (rfl : _ = Value.int .i64 (1)) hc62 (by decide) ?_
         refine L_move (rfl : _ = Value.int .i64 (x23 + 1)) (by decide) ?_
         refine L_nil ?_
         exact then_n ⟨m27, Nat.lt_succ_self _, ⟨s50, (decide (y35 = (y56.length : Int))), (x23 + 1), rfl, hE52, (l31.trans l51), hr, rfl, rfl, g53_0, g53_7, g53_27, g53_28⟩⟩
        ·have hr := ite_f hb55 hr
         refine L_gf (e := 46) (by rfl) (by decide) (rfl : _ = Value.bool (x22)) hb55 (by decide) ?_
         refine L_gf (e := 46) (by rfl) (by decide) (rfl : _ = Value.bool (x22)) hb55 (by decide) ?_
         refine L_gf (e := 46) (by rfl) (by decide) (rfl : _ = Value.bool (x22)) hb55 (by decide) ?_
         refine L_gf (e := 46) (by rfl) (by decide) (rfl : _ = Value.bool (x22)) hb55 (by decide) ?_
         refine L_gf (e := 46) (by rfl) (by decide) (rfl : _ = Value.bool (x22)) hb55 (by decide) ?_
         refine L_gf (e := 46) (by rfl) (by decide) (rfl : _ = Value.bool (x22)) hb55 (by decide) ?_
         refine L_gf (e := 46) (by rfl) (by decide) (rfl : _ = Value.bool (x22)) hb55 (by decide) ?_
         refine L_pick_f (rfl : _ = Value.bool (x22)) hb55 (rfl : _ = Value.bool (false)) (by decide) ?_
         refine L_assign (rfl : _ = Value.bool (false)) (by decide) ?_
         refine L_nil ?_
         refine block_n ?_
         refine then_n ?_
         refine W_region ?_
         obtain ⟨hc63, hr⟩ := chk_some hr
         refine L_add g53_29 (rfl : _ = Value.int .i64 (1)) hc63 (by decide) ?_
         refine L_move (rfl : _ = Value.int .i64 (x23 + 1)) (by decide) ?_
         refine L_nil ?_
         exact then_n ⟨m27, Nat.lt_succ_self _, ⟨s50, false, (x23 + 1), rfl, hE52, (l31.trans l51), hr, rfl, rfl, g53_0, g53_7, g53_27, g53_28⟩⟩
     ·have hr := ite_f hb34 hr
      refine W_exit ?_
      refine then_x ?_
      refine then_x ?_
      refine block_here ?_
      exact then_n ⟨s30, x22, rfl, hE32, l31, Option.some.inj hr, g33_9, g33_7⟩
   ·rintro f66 w67 ⟨s70, x24, rfl, hE72, l71, ho26, g73_9, g73_7⟩
    subst ho26
    have hr := hq28
    try dsimp only at hr
    refine then_n ?_
    refine W_seq ?_
    refine W_region ?_
    refine L_move g73_7 (by decide) ?_
    refine L_move g73_9 (by decide) ?_
    refine L_assign (rfl : _ = v8) (by decide) ?_
    refine L_assign (rfl : _ = Value.bool (x24)) (by decide) ?_
    refine L_assign (rfl : _ = Value.bool (true)) (by decide) ?_
    refine L_nil ?_
    refine then_n ?_
    refine W_ret ?_
    obtain rfl := Option.some.inj hr
    exact done3 (Or.inl rfl) Try.results21 rfl rfl rfl ⟨_, _, rfl, rfl, hE72, _, _, _, rfl, (hv10.mono (l18.trans l71)), Vbool, Vbool⟩

end Go.Arm
