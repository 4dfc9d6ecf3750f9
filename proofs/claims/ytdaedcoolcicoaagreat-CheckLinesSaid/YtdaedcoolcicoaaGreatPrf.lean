/- A part of the proof. -/
import Derived.Test.YtdaedcoolcicoaaGreatPure
namespace Go.Arm
open Go Go.RowKit Go.Proofs
variable {σ : Type}
theorem slices_Clone_Lint_int_ok (N : Nat) (s0 : St) (w0 : Value) (a0 : List Int) (h0 : V s0 w0 a0) (r : (List Int)) (hr : slices_Clone_Lint_int N a0 = some r) :
    Calls Tryz.prog 74 #[w0] s0.w (Ret s0 fun v s => Bld s s0.w.heap.size 3 v r) := by
 unfold slices_Clone_Lint_int at hr
 have j0 := Ext.refl s0
 refine Calls_of (n := 8) (args := [w0]) Tryz.func74 rfl rfl (by simp) (sr (asg (rv (Value.slice none 0 0)) (nn (W_seq (sr (mv (rv w0) (L_eqNil Tryz.underlying38 (rv w0) h0 (by decide) (fun j1 j2 => nn ?_))))))))
 refine W_cond _ (rv (vb j1)) (fun j3 => ?_) (fun _ => ?_)
 ·obtain rfl := j2 j3; obtain ⟨_, hr⟩ := chk_some hr; refine sr (asg (rv (Value.slice none 0 0)) (nn (W_ret (then_r ?_)))); obtain rfl := Option.some.inj hr; exact done1 (Or.inl rfl) Tryz.results74 rfl ⟨_, _, rfl, rfl, j0, Bld.nil⟩
 ·refine W_skip (then_n (sr (L_buildSlice (xs := ([] : List Int)) Tryz.underlying38 tyz3 Parts_nil Vs.nil rfl (by decide) (by decide) (fun j4 j5 j6 j7 j8 => ?_)))); have j9 := Tch.ext j0 j6; refine mv (rv w0) ?_; obtain ⟨ja, hr⟩ := chk_some hr; refine L_append (xs := ([] : List Int)) (B := s0.w.heap.size) Tryz.underlying38 tyz3 (rv j5) (rv w0) ((j7.base j0.size)) (j9.size) (h0.mono j6.le) ja.1 ja.2 (by decide) (fun jb jc jd => ?_); have je := jd.tchM ((j7.base j0.size)) j9 (Nat.le_refl _); refine asg (rv jb) (nn (W_ret ?_)); obtain rfl := Option.some.inj hr; exact done1 (Or.inl rfl) Tryz.results74 rfl ⟨_, _, rfl, rfl, je, jd.bld⟩

theorem ref01_SameInts_ok (N : Nat) (s0 : St) (w0 : Value) (a0 : List Int) (h0 : V s0 w0 a0) (w1 : Value) (a1 : List Int) (h1 : V s0 w1 a1) (r : Bool) (hr : ref01_SameInts N a0 a1 = some r) :
    Calls Tryz.prog 26 #[w0, w1] s0.w (Ret s0 fun v s => V s v r) := by
 unfold ref01_SameInts at hr
 have j0 := Ext.refl s0
 refine Calls_of (n := 26) (args := [w0, w1]) Tryz.func26 rfl rfl (by simp) (sr (asg (rv (vb false)) (nn (W_seq (sr (mv (rv w0) (ln Tryz.underlying38 (rv w0) h0 (mv (rv w1) (ln Tryz.underlying38 (rv w1) h1 (ne (rv (vi ((a0.length : Int)))) (rv (vi ((a1.length : Int)))) (nn ?_)))))))))))
 refine W_cond _ (rv (vb (!decide ((a0.length : Int) = (a1.length : Int))))) (fun j1 => ?_) (fun j1 => ?_)
 ·have hr := ite_t j1 hr; refine sr (asg (rv (vb false)) (nn (W_ret (then_r ?_)))); obtain rfl := Option.some.inj hr; exact done1 (Or.inl rfl) Tryz.results26 rfl ⟨_, _, rfl, rfl, j0, Vbool⟩
 ·have hr := ite_f j1 hr
  refine W_skip (then_n (W_seq (sr (asg (rv (vi 0)) (nn ?_)))))
  obtain ⟨j2, j3, j4⟩ := bind_some hr
  refine W_cut (fun f w => ∃ (s : St), s.w = w ∧ Ext s0 s ∧ Le s0 s ∧ Sum.inl () = j2) ?_ ?_
  ·refine W_block (W_loop (fun m f w => ∃ (s : St) (j5 : Int), s.w = w ∧ Ext s0 s ∧ Le s0 s ∧ ref01_SameInts_l1 N a0 a1 m j5 = some j2 ∧ f 5 = vi j5 ∧ f 0 = w0 ∧ f 1 = w1) N ⟨s0, 0, rfl, j0, (Le.refl _), j3, rfl, rfl, rfl⟩ ?_)
   rintro j6 j7 j8 ⟨j9, j5, rfl, ja, jb, hr, jc, jd, je⟩
   cases j6 with
   | zero => exact absurd hr (by simp [ref01_SameInts_l1])
   | succ j6 =>
    rw [ref01_SameInts_l1.eq_2] at hr
    refine W_seq (sr (mv jc (mv jd (ln Tryz.underlying38 (rv w0) (h0.mono jb) (ls (rv (vi j5)) (rv (vi ((a0.length : Int)))) (nn ?_))))))
    refine W_cond _ (rv (vb (decide (j5 < (a0.length : Int))))) (fun jf => ?_) (fun jf => ?_)
    ·have hr := ite_t jf hr
     refine W_skip (then_n (W_seq (W_block (W_seq ?_))))
     obtain ⟨jg, jh, hr⟩ := bind_some hr
     obtain ⟨ji, jj, hr⟩ := bind_some hr
     refine W_draws mixed (by kernel_rfl) [PV.data (a0 : List Int), PV.eq (vi j5), PV.ptr (jg : Int), PV.eq (vi jg), PV.data (a1 : List Int), PV.eq (vi j5), PV.ptr (ji : Int), PV.eq (vi ji), PV.eq (vb (!decide (jg = ji)))] (Steps_cons ?_ (Steps_cons ?_ (Steps_cons ?_ (Steps_cons ?_ (Steps_cons ?_ (Steps_cons ?_ (Steps_cons ?_ (Steps_cons ?_ (Steps_cons ?_ Steps_nil))))))))) ?_
     ·intro jk jl jm jn jo Q jp; have jq : jk 0 = w0 := (jo 0 (by kernel_rfl)).trans jd; exact mv jq (fin jp (h0.mono (jb.trans jm.le)))
     ·intro jk jl jm jn jo Q jp; have jq : jk 5 = vi (j5) := (jo 5 (by kernel_rfl)).trans jc; exact mv jq (fin jp rfl)
     ·intro jk jl jm jn jo Q jp; have jq : V _ (jk 17) (a0 : List Int) := jn 0 17 (by kernel_rfl) (by kernel_rfl); obtain ⟨jr, js, jt⟩ : ∃ v, _ = v ∧ V _ v _ := ⟨_, rfl, jq⟩; have ju : jk 18 = vi (j5) := jn 1 18 (by kernel_rfl) (by kernel_rfl); exact ix Tryz.underlying38 ty3.inf js jt ju jh (fun jv jw => fin jp jw)
     ·intro jk jl jm jn jo Q jp; have jq : Ptr _ (jk 19) (jg : Int) := jn 2 19 (by kernel_rfl) (by kernel_rfl); obtain ⟨jr, js, jt⟩ : ∃ v, _ = v ∧ Ptr _ v _ := ⟨_, rfl, jq⟩; exact li ty3 js jt (fin jp rfl)
     ·intro jk jl jm jn jo Q jp; have jq : jk 1 = w1 := (jo 1 (by kernel_rfl)).trans je; exact mv jq (fin jp (h1.mono (jb.trans jm.le)))
     ·intro jk jl jm jn jo Q jp; have jq : jk 5 = vi (j5) := (jo 5 (by kernel_rfl)).trans jc; exact mv jq (fin jp rfl)
     ·intro jk jl jm jn jo Q jp; have jq : V _ (jk 21) (a1 : List Int) := jn 4 21 (by kernel_rfl) (by kernel_rfl); obtain ⟨jr, js, jt⟩ : ∃ v, _ = v ∧ V _ v _ := ⟨_, rfl, jq⟩; have ju : jk 22 = vi (j5) := jn 5 22 (by kernel_rfl) (by kernel_rfl); exact ix Tryz.underlying38 ty3.inf js jt ju jj (fun jv jw => fin jp jw)
     ·intro jk jl jm jn jo Q jp; have jq : Ptr _ (jk 23) (ji : Int) := jn 6 23 (by kernel_rfl) (by kernel_rfl); obtain ⟨jr, js, jt⟩ : ∃ v, _ = v ∧ Ptr _ v _ := ⟨_, rfl, jq⟩; exact li ty3 js jt (fin jp rfl)
     ·intro jk jl jm jn jo Q jp; have jq : jk 20 = vi (jg) := jn 3 20 (by kernel_rfl) (by kernel_rfl); have jr : jk 24 = vi (ji) := jn 7 24 (by kernel_rfl) (by kernel_rfl); exact ne jq jr (fin jp rfl)
     ·intro jk jl jm jn jo
      have jp := Tch.ext ja jm
      have jq : jk 0 = w0 := (jo 0 (by kernel_rfl)).trans jd
      have jr : jk 1 = w1 := (jo 1 (by kernel_rfl)).trans je
      have js : jk 5 = vi (j5) := (jo 5 (by kernel_rfl)).trans jc
      have jt : jk 25 = vb (!decide (jg = ji)) := jn 8 25 (by kernel_rfl)
      refine then_n ?_
      refine W_cond _ jt (fun ju => ?_) (fun ju => ?_)
      ·have hr := ite_t ju hr; refine sr (asg (rv (vb false)) (nn (W_ret (block_r (then_r (then_r (block_r ?_))))))); obtain rfl := Option.some.inj hr; have hr := j4; (try dsimp only at hr); refine then_r (then_r ?_); obtain rfl := Option.some.inj hr; exact done1 (Or.inl rfl) Tryz.results26 rfl ⟨_, _, rfl, rfl, jp, Vbool⟩
      ·have hr := ite_f ju hr; refine W_skip (block_n (then_n (W_region (mv js ?_)))); obtain ⟨jv, hr⟩ := chk_some hr; exact ad (rv (vi j5)) (rv (vi 1)) jv (asg (rv (vi (j5 + 1))) (nn ⟨j6, Nat.lt_succ_self _, ⟨jl, (j5 + 1), rfl, jp, (jb.trans jm.le), hr, rfl, jq, jr⟩⟩))
    ·have hr := ite_f jf hr; refine W_exit (then_x (then_x (block_here ?_))); exact then_n ⟨j9, rfl, ja, jb, Option.some.inj hr⟩
  ·rintro j5 j6 ⟨j7, rfl, j8, j9, j3⟩; subst j3; have hr := j4; (try dsimp only at hr); refine then_n (sr (asg (rv (vb true)) (nn (W_ret ?_)))); obtain rfl := Option.some.inj hr; exact done1 (Or.inl rfl) Tryz.results26 rfl ⟨_, _, rfl, rfl, j8, Vbool⟩

theorem law14_items_ok (N : Nat) (s0 : St) (w0 : Value) (a0 : List (List Item)) (h0 : V s0 w0 a0) (r : (List (List Item))) (hr : law14_items N a0 = some r) :
    Calls Tryz.prog 28 #[w0] s0.w (Ret s0 fun v s => V s v r) := by
 unfold law14_items at hr
 have j0 := Ext.refl s0
 refine Calls_of (n := 47) (args := [w0]) Tryz.func28 rfl rfl (by simp) (sr (asg (rv (Value.slice none 0 0)) (nn (sr (asg (rv (Value.slice none 0 0)) (nn (W_seq (sr (asg (rv (vi 0)) (nn ?_))))))))))
 obtain ⟨j1, j2, j3⟩ := bind_some hr
 refine W_cut (fun f w => ∃ (s : St) (j4 : Value) (j5 : List (List Item)), s.w = w ∧ Ext s0 s ∧ Le s0 s ∧ j5 = j1 ∧ f 3 = j4 ∧ Bld s s0.w.heap.size 106 j4 j5) ?_ ?_
 ·refine W_block (W_loop (fun m f w => ∃ (s : St) (j6 : Value) (j7 : List (List Item)) (j8 : Int), s.w = w ∧ Ext s0 s ∧ Le s0 s ∧ law14_items_l1 N a0 m j7 j8 = some j1 ∧ f 3 = j6 ∧ Bld s s0.w.heap.size 106 j6 j7 ∧ f 4 = vi j8 ∧ f 0 = w0) N ⟨s0, (Value.slice none 0 0), ([]), 0, rfl, j0, (Le.refl _), j2, rfl, Bld.nil, rfl, rfl⟩ ?_)
  rintro j9 ja jb ⟨jc, j6, j7, j8, rfl, jd, je, hr, jf, jg, jh, ji⟩
  cases j9 with
  | zero => exact absurd hr (by simp [law14_items_l1])
  | succ j9 =>
   rw [law14_items_l1.eq_2] at hr
   refine W_seq (sr (mv jh (mv ji (ln Tryz.underlying53 (rv w0) (h0.mono je) (ls (rv (vi j8)) (rv (vi ((a0.length : Int)))) (nn ?_))))))
   refine W_cond _ (rv (vb (decide (j8 < (a0.length : Int))))) (fun jj => ?_) (fun jj => ?_)
   ·have hr := ite_t jj hr
    refine W_skip (then_n (W_seq (W_block (sr (asg (rv (Value.slice none 0 0)) (nn (W_seq (sr (asg (rv (vi 0)) (nn ?_))))))))))
    obtain ⟨jk, jl, jm⟩ := bind_some hr
    refine W_cut (fun f w => ∃ (s : St) (jn : Value) (jo : List Item), s.w = w ∧ Ext s0 s ∧ Le jc s ∧ jo = jk ∧ f 5 = jn ∧ Bld s s0.w.heap.size 105 jn jo ∧ f 0 = w0 ∧ f 3 = j6 ∧ f 4 = vi (j8) ∧ Bld s s0.w.heap.size 106 j6 j7 ∧ (∀ k, (own jn) k → ¬ (own j6) k)) ?_ ?_
    ·refine W_block (W_loop (fun m f w => ∃ (s : St) (jp : Value) (jq : List Item) (jr : Int), s.w = w ∧ Ext s0 s ∧ Le jc s ∧ law14_items_l2 N a0 j8 m jq jr = some jk ∧ f 5 = jp ∧ Bld s s0.w.heap.size 105 jp jq ∧ f 6 = vi jr ∧ f 0 = w0 ∧ f 3 = j6 ∧ f 4 = vi (j8) ∧ Bld s s0.w.heap.size 106 j6 j7 ∧ (∀ k, (own jp) k → ¬ (own j6) k)) N ⟨jc, (Value.slice none 0 0), ([]), 0, rfl, jd, (Le.refl _), jl, rfl, Bld.nil, rfl, ji, jf, jh, jg, (fun k h => absurd h own_nil)⟩ ?_)
     rintro js jt ju ⟨jv, jp, jq, jr, rfl, jw, jx, hr, jy, jz, k0, k1, k2, k3, k4, k5⟩
     cases js with
     | zero => exact absurd hr (by simp [law14_items_l2])
     | succ js =>
      rw [law14_items_l2.eq_2] at hr
      refine W_seq (sr (mv k0 (mv k1 (mv k3 ?_))))
      obtain ⟨k6, k7, hr⟩ := bind_some hr
      refine ix Tryz.underlying53 ty54.inf (rv w0) (h0.mono (je.trans jx)) (rv (vi j8)) k7 (fun k8 k9 => ld ty54 (rv k8) k9 (fun ka kb => ln Tryz.underlying54 (rv ka) kb (ls (rv (vi jr)) (rv (vi ((k6.length : Int)))) (nn ?_))))
      refine W_cond _ (rv (vb (decide (jr < (k6.length : Int))))) (fun kc => ?_) (fun kc => ?_)
      ·have hr := ite_t kc hr
       refine W_skip (then_n (W_seq (W_block ?_)))
       obtain ⟨kd, ke, hr⟩ := bind_some hr
       obtain ⟨kf, kg, hr⟩ := bind_some hr
       obtain ⟨kh, ki, hr⟩ := bind_some hr
       obtain ⟨kj, kk, hr⟩ := bind_some hr
       obtain ⟨kl, hr⟩ := chk_some hr
       refine W_drawO mixed 21 [PX.bld s0.w.heap.size 105 (jq : List Item), PX.data (a0 : List (List Item)), PX.eq (vi j8), PX.ptr (kd : List Item), PX.data (kd : List Item), PX.eq (vi jr), PX.ptr (kf : Item), PX.ptr (kf.Kind : Int), PX.eq (vi (kf.Kind)), PX.data (a0 : List (List Item)), PX.eq (vi j8), PX.ptr (kh : List Item), PX.data (kh : List Item), PX.eq (vi jr), PX.ptr (kj : Item), PX.ptr (kj.No : Int), PX.eq (vi (kj.No)), PX.data ((⟨kf.Kind, kj.No⟩ : Item) : Item), PX.data (([(⟨kf.Kind, kj.No⟩ : Item)] : List Item) : List Item), PX.bld s0.w.heap.size 105 (jq ++ ([(⟨kf.Kind, kj.No⟩ : Item)] : List Item) : List Item), PX.bld s0.w.heap.size 105 (jq ++ ([(⟨kf.Kind, kj.No⟩ : Item)] : List Item) : List Item), PX.bld s0.w.heap.size 105 (jq : List Item)] [22, 23, 24, 25, 26, 27, 28, 29, 30, 31, 32, 33, 34, 35, 36, 37, 38, 39, 40, 41, 5, 5] [[21], [], [], [], [], [], [], [], [], [], [], [], [], [], [], [], [], [], [], [0], [19]] rfl (by kernel_rfl) (ent1 rfl (by have hh := jz; rw [← jy] at hh; exact hh)) (dis1 rfl) (StepsX_cons ?_ (StepsX_cons ?_ (StepsX_cons ?_ (StepsX_cons ?_ (StepsX_cons ?_ (StepsX_cons ?_ (StepsX_cons ?_ (StepsX_cons ?_ (StepsX_cons ?_ (StepsX_cons ?_ (StepsX_cons ?_ (StepsX_cons ?_ (StepsX_cons ?_ (StepsX_cons ?_ (StepsX_cons ?_ (StepsX_cons ?_ (StepsX_cons ?_ (StepsX_cons ?_ (StepsX_cons ?_ (StepsX_cons ?_ (StepsX_cons ?_ StepsX_nil))))))))))))))))))))) ?_
       ·intro km kn ko kp kq kr Q ks; obtain ⟨kt, ku, kv⟩ : ∃ v, km 5 = v ∧ Bld kn s0.w.heap.size 105 v (jq : List Item) := ⟨_, rfl, kp 21 (by kernel_rfl) (by show _ < 22; decide)⟩; exact mv ku (L_nil (ks _ _ No (Ext.refl kn) (fun _ h => h.elim) kv (fun k h => Or.inl ⟨21, (List.mem_singleton.2 rfl : (21 : Nat) ∈ [21]), (by show own (km 5) k; rw [ku]; exact h)⟩)))
       ·intro km kn ko kp kq kr Q ks; have kt : km 0 = w0 := (kq 0 (by kernel_rfl)).trans k1; exact mv kt (L_nil (ks _ _ No (Ext.refl kn) (fun _ h => h.elim) (h0.mono (je.trans (jx.trans ko.le))) (fun _ h => h.elim)))
       ·intro km kn ko kp kq kr Q ks; have kt : km 4 = vi (j8) := (kq 4 (by kernel_rfl)).trans k3; exact mv kt (L_nil (ks _ _ No (Ext.refl kn) (fun _ h => h.elim) rfl (fun _ h => h.elim)))
       ·intro km kn ko kp kq kr Q ks; have kt : V _ (km 23) (a0 : List (List Item)) := kp 1 (by kernel_rfl) (by show _ < 22; decide); obtain ⟨ku, kv, kw⟩ : ∃ v, _ = v ∧ V _ v _ := ⟨_, rfl, kt⟩; have kx : km 24 = vi (j8) := kp 2 (by kernel_rfl) (by show _ < 22; decide); exact ix Tryz.underlying53 ty54.inf kv kw kx ke (fun ky kz => L_nil (ks _ _ No (Ext.refl kn) (fun _ h => h.elim) kz (fun _ h => h.elim)))
       ·intro km kn ko kp kq kr Q ks; have kt : Ptr _ (km 25) (kd : List Item) := kp 3 (by kernel_rfl) (by show _ < 22; decide); obtain ⟨ku, kv, kw⟩ : ∃ v, _ = v ∧ Ptr _ v _ := ⟨_, rfl, kt⟩; exact ld ty54 kv kw (fun kx ky => L_nil (ks _ _ No (Ext.refl kn) (fun _ h => h.elim) ky (fun _ h => h.elim)))
       ·intro km kn ko kp kq kr Q ks; have kt : km 6 = vi (jr) := (kq 6 (by kernel_rfl)).trans k0; exact mv kt (L_nil (ks _ _ No (Ext.refl kn) (fun _ h => h.elim) rfl (fun _ h => h.elim)))
       ·intro km kn ko kp kq kr Q ks; have kt : V _ (km 26) (kd : List Item) := kp 4 (by kernel_rfl) (by show _ < 22; decide); obtain ⟨ku, kv, kw⟩ : ∃ v, _ = v ∧ V _ v _ := ⟨_, rfl, kt⟩; have kx : km 27 = vi (jr) := kp 5 (by kernel_rfl) (by show _ < 22; decide); exact ix Tryz.underlying54 ty146.inf kv kw kx kg (fun ky kz => L_nil (ks _ _ No (Ext.refl kn) (fun _ h => h.elim) kz (fun _ h => h.elim)))
       ·intro km kn ko kp kq kr Q ks; have kt : Ptr _ (km 28) (kf : Item) := kp 6 (by kernel_rfl) (by show _ < 22; decide); obtain ⟨ku, kv, kw⟩ : ∃ v, _ = v ∧ Ptr _ v _ := ⟨_, rfl, kt⟩; exact fa fld146_0 Item.of_Kind kv kw (fun kx ky => L_nil (ks _ _ No (Ext.refl kn) (fun _ h => h.elim) ky (fun _ h => h.elim)))
       ·intro km kn ko kp kq kr Q ks; have kt : Ptr _ (km 29) (kf.Kind : Int) := kp 7 (by kernel_rfl) (by show _ < 22; decide); obtain ⟨ku, kv, kw⟩ : ∃ v, _ = v ∧ Ptr _ v _ := ⟨_, rfl, kt⟩; exact li ty3 kv kw (L_nil (ks _ _ No (Ext.refl kn) (fun _ h => h.elim) rfl (fun _ h => h.elim)))
       ·intro km kn ko kp kq kr Q ks; have kt : km 0 = w0 := (kq 0 (by kernel_rfl)).trans k1; exact mv kt (L_nil (ks _ _ No (Ext.refl kn) (fun _ h => h.elim) (h0.mono (je.trans (jx.trans ko.le))) (fun _ h => h.elim)))
       ·intro km kn ko kp kq kr Q ks; have kt : km 4 = vi (j8) := (kq 4 (by kernel_rfl)).trans k3; exact mv kt (L_nil (ks _ _ No (Ext.refl kn) (fun _ h => h.elim) rfl (fun _ h => h.elim)))
       ·intro km kn ko kp kq kr Q ks; have kt : V _ (km 31) (a0 : List (List Item)) := kp 9 (by kernel_rfl) (by show _ < 22; decide); obtain ⟨ku, kv, kw⟩ : ∃ v, _ = v ∧ V _ v _ := ⟨_, rfl, kt⟩; have kx : km 32 = vi (j8) := kp 10 (by kernel_rfl) (by show _ < 22; decide); exact ix Tryz.underlying53 ty54.inf kv kw kx ki (fun ky kz => L_nil (ks _ _ No (Ext.refl kn) (fun _ h => h.elim) kz (fun _ h => h.elim)))
       ·intro km kn ko kp kq kr Q ks; have kt : Ptr _ (km 33) (kh : List Item) := kp 11 (by kernel_rfl) (by show _ < 22; decide); obtain ⟨ku, kv, kw⟩ : ∃ v, _ = v ∧ Ptr _ v _ := ⟨_, rfl, kt⟩; exact ld ty54 kv kw (fun kx ky => L_nil (ks _ _ No (Ext.refl kn) (fun _ h => h.elim) ky (fun _ h => h.elim)))
       ·intro km kn ko kp kq kr Q ks; have kt : km 6 = vi (jr) := (kq 6 (by kernel_rfl)).trans k0; exact mv kt (L_nil (ks _ _ No (Ext.refl kn) (fun _ h => h.elim) rfl (fun _ h => h.elim)))
       ·intro km kn ko kp kq kr Q ks; have kt : V _ (km 34) (kh : List Item) := kp 12 (by kernel_rfl) (by show _ < 22; decide); obtain ⟨ku, kv, kw⟩ : ∃ v, _ = v ∧ V _ v _ := ⟨_, rfl, kt⟩; have kx : km 35 = vi (jr) := kp 13 (by kernel_rfl) (by show _ < 22; decide); exact ix Tryz.underlying54 ty146.inf kv kw kx kk (fun ky kz => L_nil (ks _ _ No (Ext.refl kn) (fun _ h => h.elim) kz (fun _ h => h.elim)))
       ·intro km kn ko kp kq kr Q ks; have kt : Ptr _ (km 36) (kj : Item) := kp 14 (by kernel_rfl) (by show _ < 22; decide); obtain ⟨ku, kv, kw⟩ : ∃ v, _ = v ∧ Ptr _ v _ := ⟨_, rfl, kt⟩; exact fa fld146_1 Item.of_No kv kw (fun kx ky => L_nil (ks _ _ No (Ext.refl kn) (fun _ h => h.elim) ky (fun _ h => h.elim)))
       ·intro km kn ko kp kq kr Q ks; have kt : Ptr _ (km 37) (kj.No : Int) := kp 15 (by kernel_rfl) (by show _ < 22; decide); obtain ⟨ku, kv, kw⟩ : ∃ v, _ = v ∧ Ptr _ v _ := ⟨_, rfl, kt⟩; exact li ty3 kv kw (L_nil (ks _ _ No (Ext.refl kn) (fun _ h => h.elim) rfl (fun _ h => h.elim)))
       ·intro km kn ko kp kq kr Q ks; have kt : km 30 = vi (kf.Kind) := kp 8 (by kernel_rfl) (by show _ < 22; decide); have ku : km 38 = vi (kj.No) := kp 16 (by kernel_rfl) (by show _ < 22; decide); exact L_bld105_0_1 (s := kn) kt ku (Vint : V _ _ (kf.Kind : Int)) (Vint : V _ _ (kj.No : Int)) (by decide) (fun kv kw => L_nil (ks _ _ No (Ext.refl kn) (fun _ h => h.elim) kw (fun _ h => h.elim)))
       ·intro km kn ko kp kq kr Q ks; have kt : V _ (km 39) ((⟨kf.Kind, kj.No⟩ : Item) : Item) := kp 17 (by kernel_rfl) (by show _ < 22; decide); obtain ⟨ku, kv, kw⟩ : ∃ v, _ = v ∧ V _ v _ := ⟨_, rfl, kt⟩; refine L_buildSlice (xs := ([(⟨kf.Kind, kj.No⟩ : Item)] : List Item)) Tryz.underlying106 tyz105 (Parts_cons rfl kv Parts_nil) (Vs.cons kw Vs.nil) rfl (by decide) (by decide) (fun kx ky kz g0 g1 => ?_); have g2 := Tch.ext (Ext.refl kn) kz; exact L_nil (ks _ _ No g2 (fun _ h => h.elim) g1 (fun _ h => h.elim))
       ·intro km kn ko kp kq kr Q ks; obtain ⟨kt, ku, kv⟩ : ∃ v, km 22 = v ∧ Bld kn s0.w.heap.size 105 v (jq : List Item) := ⟨_, rfl, kp 0 (by kernel_rfl) (by show _ < 22; decide)⟩; have kw : V _ (km 40) (([(⟨kf.Kind, kj.No⟩ : Item)] : List Item) : List Item) := kp 18 (by kernel_rfl) (by show _ < 22; decide); obtain ⟨kx, ky, kz⟩ : ∃ v, _ = v ∧ V _ v _ := ⟨_, rfl, kw⟩; exact L_append (xs := jq) (B := s0.w.heap.size) Tryz.underlying106 tyz105 ku ky (kv) (Nat.le_trans jw.size ko.size) kz kl.1 kl.2 (by decide) (fun g0 g1 g2 => L_nil (ks _ _ _ g2.tch (fun k h => ⟨0, (List.mem_singleton.2 rfl : (0 : Nat) ∈ [0]), (by show own (km 22) k; rw [ku]; exact h)⟩) g2.bld (fun k h => (g2.own k h).imp (fun h => ⟨0, (List.mem_singleton.2 rfl : (0 : Nat) ∈ [0]), (by show own (km 22) k; rw [ku]; exact h)⟩) (fun h => h))))
       ·intro km kn ko kp kq kr Q ks; obtain ⟨kt, ku, kv⟩ : ∃ v, km 41 = v ∧ Bld kn s0.w.heap.size 105 v (jq ++ ([(⟨kf.Kind, kj.No⟩ : Item)] : List Item) : List Item) := ⟨_, rfl, kp 19 (by kernel_rfl) (by show _ < 22; decide)⟩; exact asg ku (L_nil (ks _ _ No (Ext.refl kn) (fun _ h => h.elim) kv (fun k h => Or.inl ⟨19, (List.mem_singleton.2 rfl : (19 : Nat) ∈ [19]), (by show own (km 41) k; rw [ku]; exact h)⟩)))
       ·intro km kn ko kp kq kr ks; have kt := Tch.trans jw ko (fun k h => Or.inr (by have ku := ent_is (k := 21) rfl rfl h; have kv := Eq.mp (congrArg (fun v => own v k) (jy : _ = jp)) ku; exact ((jz).lt kv).1)); obtain ⟨kw, kx, ky⟩ : ∃ v, km 5 = v ∧ Bld kn s0.w.heap.size 105 v (jq ++ ([(⟨kf.Kind, kj.No⟩ : Item)] : List Item) : List Item) := ⟨_, rfl, kp 20 (by show _ < 22; decide) (by kernel_rfl)⟩; have kz : ∀ k, (own j6) k → ¬ (own kw) k := fun k g0 ku => (kr 20 k (by show _ < 22; decide) (by kernel_rfl) (by show own (km 5) k; rw [kx]; exact ku)).elim (fun kv => absurd kv (ent_one (k := 21) rfl rfl (fun ku => (fun k hk hm => k5 k hm hk) _ g0 (Eq.mp (congrArg (fun v => own v k) (jy : _ = jp)) ku)))) (fun kv => absurd (((k4).lt g0).2) (Nat.not_lt.2 kv)); have g1 : km 0 = w0 := (ks 0 (by kernel_rfl)).trans k1; have g2 : km 3 = j6 := (ks 3 (by kernel_rfl)).trans k2; have g3 : km 4 = vi (j8) := (ks 4 (by kernel_rfl)).trans k3; have g4 : km 6 = vi (jr) := (ks 6 (by kernel_rfl)).trans k0; refine block_n (then_n (W_region (mv g4 ?_))); obtain ⟨g5, hr⟩ := chk_some hr; exact ad (rv (vi jr)) (rv (vi 1)) g5 (asg (rv (vi (jr + 1))) (nn ⟨js, Nat.lt_succ_self _, ⟨kn, kw, (jq ++ ([(⟨kf.Kind, kj.No⟩ : Item)] : List Item)), (jr + 1), rfl, kt, (jx.trans ko.le), hr, kx, ky, rfl, g1, g2, g3, (k4).tch ko (fun k hx => ent_one (k := 21) rfl rfl (fun ku => (fun k hk hm => k5 k hm hk) _ hx (Eq.mp (congrArg (fun v => own v k) (jy : _ = jp)) ku))), (fun k hk hm => kz k hm hk)⟩⟩))
      ·have hr := ite_f kc hr; refine W_exit (then_x (then_x (block_here ?_))); exact then_n ⟨jv, jp, jq, rfl, jw, jx, Option.some.inj hr, jy, jz, k1, k2, k3, k4, k5⟩
    ·rintro jp jq ⟨jr, jn, jo, rfl, js, jt, jl, ju, jv, jw, jx, jy, jz, k0⟩; subst jl; have hr := jm; (try dsimp only at hr); refine then_n (W_region (mv jx (mv ju ?_))); have k1 := (jv).toV; refine L_buildSlice (xs := ([jo] : List (List Item))) Tryz.underlying57 tyz106 (Parts_cons rfl (rv jn) Parts_nil) (Vs.cons k1 Vs.nil) rfl (by decide) (by decide) (fun k2 k3 k4 k5 k6 => ?_); have k7 := Tch.ext js k4; obtain ⟨k8, hr⟩ := chk_some hr; refine L_append (xs := j7) (B := s0.w.heap.size) Tryz.underlying57 tyz106 (rv j6) (rv k3) ((jz).ext k4) (k7.size) k6 k8.1 k8.2 (by decide) (fun k9 ka kb => ?_); have kc := kb.tchM ((jz).ext k4) k7 (Nat.le_refl _); refine asg (rv k9) (L_nil (block_n (then_n (W_region (mv jy ?_))))); obtain ⟨kd, hr⟩ := chk_some hr; exact ad (rv (vi j8)) (rv (vi 1)) kd (asg (rv (vi (j8 + 1))) (nn ⟨j9, Nat.lt_succ_self _, ⟨ka, k9, (j7 ++ ([jo] : List (List Item))), (j8 + 1), rfl, kc, (je.trans (jt.trans (k4.le.trans kb.tch.le))), hr, rfl, kb.bld, rfl, jw⟩⟩))
   ·have hr := ite_f jj hr; refine W_exit (then_x (then_x (block_here ?_))); exact then_n ⟨jc, j6, j7, rfl, jd, je, Option.some.inj hr, jf, jg⟩
 ·rintro j6 j7 ⟨j8, j4, j5, rfl, j9, ja, j2, jb, jc⟩; subst j2; have hr := j3; (try dsimp only at hr); refine then_n (sr (mv jb ?_)); have jd := (jc).toV; refine asg (rv j4) (nn (W_ret ?_)); obtain rfl := Option.some.inj hr; exact done1 (Or.inl rfl) Tryz.results28 rfl ⟨_, _, rfl, rfl, j9, jd⟩

theorem ref14_place_ok (N : Nat) (s0 : St) (w0 : Value) (a0 : List (List Item)) (h0 : V s0 w0 a0) (a1 : Int) (a2 : Int) (r : Int × Int) (hr : ref14_place N a0 a1 a2 = some r) :
    Calls Tryz.prog 80 #[w0, .int .i64 a1, .int .i64 a2] s0.w (Ret s0 fun v s => ∃ a b, v = .tuple #[a, b] ∧ V s a r.1 ∧ V s b r.2) := by
 unfold ref14_place at hr
 have j0 := Ext.refl s0
 refine Calls_of (n := 49) (args := [w0, .int .i64 a1, .int .i64 a2]) Tryz.func80 rfl rfl (by simp) (sr (asg (rv (vi 0)) (asg (rv (vi 0)) (nn (W_seq (sr (asg (rv (vi 0)) (nn ?_))))))))
 obtain ⟨j1, j2, j3⟩ := bind_some hr
 refine W_cut (fun f w => ∃ (s : St), s.w = w ∧ Ext s0 s ∧ Le s0 s ∧ Sum.inl () = j1) ?_ ?_
 ·refine W_block (W_loop (fun m f w => ∃ (s : St) (j4 : Int), s.w = w ∧ Ext s0 s ∧ Le s0 s ∧ ref14_place_l1 N a0 a1 a2 m j4 = some j1 ∧ f 8 = vi j4 ∧ f 0 = w0 ∧ f 1 = vi (a1) ∧ f 2 = vi (a2)) N ⟨s0, 0, rfl, j0, (Le.refl _), j2, rfl, rfl, rfl, rfl⟩ ?_)
  rintro j5 j6 j7 ⟨j8, j4, rfl, j9, ja, hr, jb, jc, jd, je⟩
  cases j5 with
  | zero => exact absurd hr (by simp [ref14_place_l1])
  | succ j5 =>
   rw [ref14_place_l1.eq_2] at hr
   refine W_seq (sr (mv jb (mv jc (ln Tryz.underlying53 (rv w0) (h0.mono ja) (ls (rv (vi j4)) (rv (vi ((a0.length : Int)))) (nn ?_))))))
   refine W_cond _ (rv (vb (decide (j4 < (a0.length : Int))))) (fun jf => ?_) (fun jf => ?_)
   ·have hr := ite_t jf hr
    refine W_skip (then_n (W_seq (W_block (sr (asg (rv (vi 0)) (nn ?_))))))
    obtain ⟨jg, jh, ji⟩ := bind_some hr
    refine W_cut (fun f w => ∃ (s : St), s.w = w ∧ Ext s0 s ∧ Le j8 s ∧ Sum.inl () = jg ∧ f 0 = w0 ∧ f 1 = vi (a1) ∧ f 2 = vi (a2) ∧ f 8 = vi (j4)) ?_ ?_
    ·refine W_block (W_loop (fun m f w => ∃ (s : St) (jj : Int), s.w = w ∧ Ext s0 s ∧ Le j8 s ∧ ref14_place_l2 N a0 a1 a2 j4 m jj = some jg ∧ f 9 = vi jj ∧ f 0 = w0 ∧ f 1 = vi (a1) ∧ f 2 = vi (a2) ∧ f 8 = vi (j4)) N ⟨j8, 0, rfl, j9, (Le.refl _), jh, rfl, jc, jd, je, jb⟩ ?_)
     rintro jk jl jm ⟨jn, jj, rfl, jo, jp, hr, jq, jr, js, jt, ju⟩
     cases jk with
     | zero => exact absurd hr (by simp [ref14_place_l2])
     | succ jk =>
      rw [ref14_place_l2.eq_2] at hr
      refine W_seq (sr (mv jq (mv jr (mv ju ?_))))
      obtain ⟨jv, jw, hr⟩ := bind_some hr
      refine ix Tryz.underlying53 ty54.inf (rv w0) (h0.mono (ja.trans jp)) (rv (vi j4)) jw (fun jx jy => ld ty54 (rv jx) jy (fun jz k0 => ln Tryz.underlying54 (rv jz) k0 (ls (rv (vi jj)) (rv (vi ((jv.length : Int)))) (nn ?_))))
      refine W_cond _ (rv (vb (decide (jj < (jv.length : Int))))) (fun k1 => ?_) (fun k1 => ?_)
      ·have hr := ite_t k1 hr
       refine W_skip (then_n (W_seq (W_block ?_)))
       obtain ⟨k2, k3, k4⟩ := bind_some hr
       refine W_seq_cut (fun f w => ∃ (s : St) (k5 : Bool), s.w = w ∧ Ext s0 s ∧ Le jn s ∧ k5 = k2 ∧ f 46 = vb k5 ∧ f 0 = w0 ∧ f 1 = vi (a1) ∧ f 2 = vi (a2) ∧ f 8 = vi (j4) ∧ f 9 = vi (jj)) ?_ ?_
       ·have hr := k3
        refine W_region (mv jr (mv ju ?_))
        obtain ⟨k6, k7, hr⟩ := bind_some hr
        refine ix Tryz.underlying53 ty54.inf (rv w0) (h0.mono (ja.trans jp)) (rv (vi j4)) k7 (fun k8 k9 => ld ty54 (rv k8) k9 (fun ka kb => mv jq ?_))
        obtain ⟨kc, kd, hr⟩ := bind_some hr
        refine ix Tryz.underlying54 ty146.inf (rv ka) kb (rv (vi jj)) kd (fun ke kf => fa fld146_0 Item.of_Kind (rv ke) kf (fun kg kh => li ty3 (rv kg) kh (mv js (el (rv (vi (kc.Kind))) (rv (vi a1)) (mv (rv (vb (decide (kc.Kind = a1)))) ?_)))))
        rcases tf (decide (kc.Kind = a1)) with ki | ki
        ·have hr := ite_t ki hr; refine gt 35 (rv (vb (decide (kc.Kind = a1)))) ki (mv jr (gt 35 (rv (vb (decide (kc.Kind = a1)))) ki (mv ju (gt 35 (rv (vb (decide (kc.Kind = a1)))) ki ?_)))); obtain ⟨kj, kk, hr⟩ := bind_some hr; refine ix Tryz.underlying53 ty54.inf (rv w0) (h0.mono (ja.trans jp)) (rv (vi j4)) kk (fun kl km => gt 35 (rv (vb (decide (kc.Kind = a1)))) ki (ld ty54 (rv kl) km (fun kn ko => gt 35 (rv (vb (decide (kc.Kind = a1)))) ki (mv jq (gt 35 (rv (vb (decide (kc.Kind = a1)))) ki ?_))))); obtain ⟨kp, kq, hr⟩ := bind_some hr; exact ix Tryz.underlying54 ty146.inf (rv kn) ko (rv (vi jj)) kq (fun kr ks => gt 35 (rv (vb (decide (kc.Kind = a1)))) ki (fa fld146_1 Item.of_No (rv kr) ks (fun kt ku => gt 35 (rv (vb (decide (kc.Kind = a1)))) ki (li ty3 (rv kt) ku (gt 35 (rv (vb (decide (kc.Kind = a1)))) ki (mv jt (gt 35 (rv (vb (decide (kc.Kind = a1)))) ki (el (rv (vi (kp.No))) (rv (vi a2)) (pt (rv (vb (decide (kc.Kind = a1)))) ki (rv (vb (decide (kp.No = a2)))) (nn ⟨jn, (decide (kp.No = a2)), rfl, jo, (Le.refl _), Option.some.inj hr, rfl, jr, js, jt, ju, jq⟩))))))))))
        ·have hr := ite_f ki hr; exact gf 35 (rv (vb (decide (kc.Kind = a1)))) ki (gf 35 (rv (vb (decide (kc.Kind = a1)))) ki (gf 35 (rv (vb (decide (kc.Kind = a1)))) ki (gf 35 (rv (vb (decide (kc.Kind = a1)))) ki (gf 35 (rv (vb (decide (kc.Kind = a1)))) ki (gf 35 (rv (vb (decide (kc.Kind = a1)))) ki (gf 35 (rv (vb (decide (kc.Kind = a1)))) ki (gf 35 (rv (vb (decide (kc.Kind = a1)))) ki (gf 35 (rv (vb (decide (kc.Kind = a1)))) ki (gf 35 (rv (vb (decide (kc.Kind = a1)))) ki (pf (rv (vb (decide (kc.Kind = a1)))) ki (rv (vb false)) (nn ⟨jn, false, rfl, jo, (Le.refl _), Option.some.inj hr, rfl, jr, js, jt, ju, jq⟩)))))))))))
       ·rintro k6 k7 ⟨k8, k5, rfl, k9, ka, k3, kb, kc, kd, ke, kf, kg⟩
        subst k3
        have hr := k4
        try dsimp only at hr
        refine W_cond _ kb (fun kh => ?_) (fun kh => ?_)
        ·have hr := ite_t kh hr; refine sr (mv kf (mv kg (asg (rv (vi j4)) (asg (rv (vi jj)) (nn (W_ret (block_r (then_r (then_r (block_r ?_)))))))))); obtain rfl := Option.some.inj hr; have hr := ji; (try dsimp only at hr); refine then_r (block_r (then_r (then_r (block_r ?_)))); obtain rfl := Option.some.inj hr; have hr := j3; (try dsimp only at hr); refine then_r (then_r ?_); obtain rfl := Option.some.inj hr; exact done2 (Or.inl rfl) Tryz.results80 rfl rfl ⟨_, _, rfl, rfl, k9, _, _, rfl, Vint, Vint⟩
        ·have hr := ite_f kh hr; refine W_skip (block_n (then_n (W_region (mv kg ?_)))); obtain ⟨ki, hr⟩ := chk_some hr; exact ad (rv (vi jj)) (rv (vi 1)) ki (asg (rv (vi (jj + 1))) (nn ⟨jk, Nat.lt_succ_self _, ⟨k8, (jj + 1), rfl, k9, (jp.trans ka), hr, rfl, kc, kd, ke, kf⟩⟩))
      ·have hr := ite_f k1 hr; refine W_exit (then_x (then_x (block_here ?_))); exact then_n ⟨jn, rfl, jo, jp, Option.some.inj hr, jr, js, jt, ju⟩
    ·rintro jj jk ⟨jl, rfl, jm, jn, jh, jo, jp, jq, jr⟩; subst jh; have hr := ji; (try dsimp only at hr); refine block_n (then_n (W_region (mv jr ?_))); obtain ⟨js, hr⟩ := chk_some hr; exact ad (rv (vi j4)) (rv (vi 1)) js (asg (rv (vi (j4 + 1))) (nn ⟨j5, Nat.lt_succ_self _, ⟨jl, (j4 + 1), rfl, jm, (ja.trans jn), hr, rfl, jo, jp, jq⟩⟩))
   ·have hr := ite_f jf hr; refine W_exit (then_x (then_x (block_here ?_))); exact then_n ⟨j8, rfl, j9, ja, Option.some.inj hr⟩
 ·rintro j4 j5 ⟨j6, rfl, j7, j8, j2⟩; subst j2; have hr := j3; (try dsimp only at hr); refine then_n (sr (asg (rv (vi (-1))) (asg (rv (vi 0)) (nn (W_ret ?_))))); obtain rfl := Option.some.inj hr; exact done2 (Or.inl rfl) Tryz.results80 rfl rfl ⟨_, _, rfl, rfl, j7, _, _, rfl, Vint, Vint⟩

theorem ref14_history_ok (N : Nat) (s0 : St) (w0 : Value) (a0 : List (List Item)) (h0 : V s0 w0 a0) (r : Int) (hr : ref14_history N a0 = some r) :
    Calls Tryz.prog 77 #[w0] s0.w (Ret s0 fun v s => V s v r) := by
 unfold ref14_history at hr
 have j0 := Ext.refl s0
 refine Calls_of (n := 144) (args := [w0]) Tryz.func77 rfl rfl (by simp) (sr (asg (rv (vi 0)) (nn (W_seq ?_))))
 obtain ⟨j1, j2, j3⟩ := bind_some hr
 refine W_seq_cut (fun f w => ∃ (s : St) (j4 : Bool), s.w = w ∧ Ext s0 s ∧ Le s0 s ∧ j4 = j1 ∧ f 20 = vb j4 ∧ f 0 = w0) ?_ ?_
 ·have hr := j2
  refine W_region (mv (rv w0) (ln Tryz.underlying53 (rv w0) h0 (ls (rv (vi ((a0.length : Int)))) (rv (vi 1)) (mv (rv (vb (decide ((a0.length : Int) < 1)))) ?_))))
  rcases tf (decide ((a0.length : Int) < 1)) with j5 | j5
  ·have hr := ite_t j5 hr; exact gf 16 (rv (vb (decide ((a0.length : Int) < 1)))) j5 (gf 16 (rv (vb (decide ((a0.length : Int) < 1)))) j5 (gf 16 (rv (vb (decide ((a0.length : Int) < 1)))) j5 (pt (rv (vb (decide ((a0.length : Int) < 1)))) j5 (rv (vb true)) (nn ⟨s0, true, rfl, j0, (Le.refl _), Option.some.inj hr, rfl, rfl⟩))))
  ·have hr := ite_f j5 hr; exact gt 16 (rv (vb (decide ((a0.length : Int) < 1)))) j5 (mv (rv w0) (gt 16 (rv (vb (decide ((a0.length : Int) < 1)))) j5 (ln Tryz.underlying53 (rv w0) h0 (gt 16 (rv (vb (decide ((a0.length : Int) < 1)))) j5 (L_gtr (rv (vi ((a0.length : Int)))) (rv (vi 64)) (by decide) (pf (rv (vb (decide ((a0.length : Int) < 1)))) j5 (rv (vb (decide (64 < (a0.length : Int))))) (nn ⟨s0, (decide (64 < (a0.length : Int))), rfl, j0, (Le.refl _), Option.some.inj hr, rfl, rfl⟩)))))))
 ·rintro j5 j6 ⟨j7, j4, rfl, j8, j9, j2, ja, jb⟩
  subst j2
  have hr := j3
  try dsimp only at hr
  refine W_cond _ ja (fun jc => ?_) (fun jc => ?_)
  ·have hr := ite_t jc hr; refine sr (asg (rv (vi 3)) (nn (W_ret (then_r ?_)))); obtain rfl := Option.some.inj hr; exact done1 (Or.inl rfl) Tryz.results77 rfl ⟨_, _, rfl, rfl, j8, Vint⟩
  ·have hr := ite_f jc hr
   refine W_skip (then_n (W_seq (sr (asg (rv (vi 0)) (nn ?_)))))
   obtain ⟨jd, je, jf⟩ := bind_some hr
   refine W_cut (fun f w => ∃ (s : St), s.w = w ∧ Ext s0 s ∧ Le j7 s ∧ Sum.inl () = jd ∧ f 0 = w0) ?_ ?_
   ·refine W_block (W_loop (fun m f w => ∃ (s : St) (jg : Int), s.w = w ∧ Ext s0 s ∧ Le j7 s ∧ ref14_history_l1 N a0 m jg = some jd ∧ f 3 = vi jg ∧ f 0 = w0) N ⟨j7, 0, rfl, j8, (Le.refl _), je, rfl, jb⟩ ?_)
    rintro jh ji jj ⟨jk, jg, rfl, jl, jm, hr, jn, jo⟩
    cases jh with
    | zero => exact absurd hr (by simp [ref14_history_l1])
    | succ jh =>
     rw [ref14_history_l1.eq_2] at hr
     refine W_seq (sr (mv jn (mv jo (ln Tryz.underlying53 (rv w0) (h0.mono (j9.trans jm)) (ls (rv (vi jg)) (rv (vi ((a0.length : Int)))) (nn ?_))))))
     refine W_cond _ (rv (vb (decide (jg < (a0.length : Int))))) (fun jp => ?_) (fun jp => ?_)
     ·have hr := ite_t jp hr
      refine W_skip (then_n (W_seq (W_block (sr (mv jo (mv jn ?_))))))
      obtain ⟨jq, jr, hr⟩ := bind_some hr
      refine ix Tryz.underlying53 ty54.inf (rv w0) (h0.mono (j9.trans jm)) (rv (vi jg)) jr (fun js jt => ld ty54 (rv js) jt (fun ju jv => ln Tryz.underlying54 (rv ju) jv (L_gtr (rv (vi ((jq.length : Int)))) (rv (vi 100)) (by decide) (nn ?_))))
      refine W_cond _ (rv (vb (decide (100 < (jq.length : Int))))) (fun jw => ?_) (fun jw => ?_)
      ·have hr := ite_t jw hr; refine sr (asg (rv (vi 9)) (nn (W_ret (block_r (then_r (then_r (block_r ?_))))))); obtain rfl := Option.some.inj hr; have hr := jf; (try dsimp only at hr); refine then_r (then_r ?_); obtain rfl := Option.some.inj hr; exact done1 (Or.inl rfl) Tryz.results77 rfl ⟨_, _, rfl, rfl, jl, Vint⟩
      ·have hr := ite_f jw hr; refine W_skip (block_n (then_n (W_region (mv jn ?_)))); obtain ⟨jx, hr⟩ := chk_some hr; exact ad (rv (vi jg)) (rv (vi 1)) jx (asg (rv (vi (jg + 1))) (nn ⟨jh, Nat.lt_succ_self _, ⟨jk, (jg + 1), rfl, jl, jm, hr, rfl, jo⟩⟩))
     ·have hr := ite_f jp hr; refine W_exit (then_x (then_x (block_here ?_))); exact then_n ⟨jk, rfl, jl, jm, Option.some.inj hr, jo⟩
   ·rintro jg jh ⟨ji, rfl, jj, jk, je, jl⟩
    subst je
    have hr := jf
    try dsimp only at hr
    refine then_n (W_seq (sr (asg (rv (vi 0)) (nn ?_))))
    obtain ⟨jm, jn, jo⟩ := bind_some hr
    refine W_cut (fun f w => ∃ (s : St), s.w = w ∧ Ext s0 s ∧ Le ji s ∧ Sum.inl () = jm ∧ f 0 = w0) ?_ ?_
    ·refine W_block (W_loop (fun m f w => ∃ (s : St) (jp : Int), s.w = w ∧ Ext s0 s ∧ Le ji s ∧ ref14_history_l2 N a0 m jp = some jm ∧ f 4 = vi jp ∧ f 0 = w0) N ⟨ji, 0, rfl, jj, (Le.refl _), jn, rfl, jl⟩ ?_)
     rintro jq jr js ⟨jt, jp, rfl, ju, jv, hr, jw, jx⟩
     cases jq with
     | zero => exact absurd hr (by simp [ref14_history_l2])
     | succ jq =>
      rw [ref14_history_l2.eq_2] at hr
      refine W_seq (sr (mv jw (mv jx (ln Tryz.underlying53 (rv w0) (h0.mono (j9.trans (jk.trans jv))) (ls (rv (vi jp)) (rv (vi ((a0.length : Int)))) (nn ?_))))))
      refine W_cond _ (rv (vb (decide (jp < (a0.length : Int))))) (fun jy => ?_) (fun jy => ?_)
      ·have hr := ite_t jy hr
       refine W_skip (then_n (W_seq (W_block (sr (asg (rv (vi 0)) (nn ?_))))))
       obtain ⟨jz, k0, k1⟩ := bind_some hr
       refine W_cut (fun f w => ∃ (s : St), s.w = w ∧ Ext s0 s ∧ Le jt s ∧ Sum.inl () = jz ∧ f 0 = w0 ∧ f 4 = vi (jp)) ?_ ?_
       ·refine W_block (W_loop (fun m f w => ∃ (s : St) (k2 : Int), s.w = w ∧ Ext s0 s ∧ Le jt s ∧ ref14_history_l3 N a0 jp m k2 = some jz ∧ f 5 = vi k2 ∧ f 0 = w0 ∧ f 4 = vi (jp)) N ⟨jt, 0, rfl, ju, (Le.refl _), k0, rfl, jx, jw⟩ ?_)
        rintro k3 k4 k5 ⟨k6, k2, rfl, k7, k8, hr, k9, ka, kb⟩
        cases k3 with
        | zero => exact absurd hr (by simp [ref14_history_l3])
        | succ k3 =>
         rw [ref14_history_l3.eq_2] at hr
         refine W_seq (sr (mv k9 (mv ka (mv kb ?_))))
         obtain ⟨kc, kd, hr⟩ := bind_some hr
         refine ix Tryz.underlying53 ty54.inf (rv w0) (h0.mono (j9.trans (jk.trans (jv.trans k8)))) (rv (vi jp)) kd (fun ke kf => ld ty54 (rv ke) kf (fun kg kh => ln Tryz.underlying54 (rv kg) kh (ls (rv (vi k2)) (rv (vi ((kc.length : Int)))) (nn ?_))))
         refine W_cond _ (rv (vb (decide (k2 < (kc.length : Int))))) (fun ki => ?_) (fun ki => ?_)
         ·have hr := ite_t ki hr
          refine W_skip (then_n (W_seq (W_block (sr (mv ka (mv kb ?_))))))
          obtain ⟨kj, kk, hr⟩ := bind_some hr
          refine ix Tryz.underlying53 ty54.inf (rv w0) (h0.mono (j9.trans (jk.trans (jv.trans k8)))) (rv (vi jp)) kk (fun kl km => ld ty54 (rv kl) km (fun kn ko => mv k9 ?_))
          obtain ⟨kp, kq, hr⟩ := bind_some hr
          refine ix Tryz.underlying54 ty146.inf (rv kn) ko (rv (vi k2)) kq (fun kr ks => ld ty146 (rv kr) ks (fun kt ku => L_alloc (α := Item) (x := ⟨0, 0⟩) zero146 Item.zero_rel (by decide) (fun kv kw kx ky kz => ?_)))
          have g0 := Tch.ext k7 kx
          refine L_store_ro ty146 (rv (Value.pointer (some ⟨kw, 0, none⟩))) (rv kt) (ku.mono kx.le) (kz) (fun g1 g2 g3 => ?_)
          have g4 := Tch.trans g0 g2 (fun k hk => Or.inr (by subst hk; exact (Nat.le_trans k7.size ky)))
          refine nn (W_seq ?_)
          obtain ⟨g5, g6, g7⟩ := bind_some hr
          refine W_seq_cut (fun f w => ∃ (s : St) (g8 : Bool), s.w = w ∧ Ext s0 s ∧ Le g1 s ∧ g8 = g5 ∧ f 77 = vb g8 ∧ f 0 = w0 ∧ f 4 = vi (jp) ∧ f 5 = vi (k2) ∧ f 6 = Value.pointer (some ⟨kw, 0, none⟩)) ?_ ?_
          ·have hr := g6
           refine W_region (fa fld146_0 Item.of_Kind (rv (Value.pointer (some ⟨kw, 0, none⟩))) g3 (fun g9 ga => li ty3 (rv g9) ga (ls (rv (vi (kp.Kind))) (rv (vi 1)) (mv (rv (vb (decide (kp.Kind < 1)))) ?_))))
           rcases tf (decide (kp.Kind < 1)) with gb | gb
           ·have hr := ite_t gb hr; refine gf 58 (rv (vb (decide (kp.Kind < 1)))) gb (gf 58 (rv (vb (decide (kp.Kind < 1)))) gb (gf 58 (rv (vb (decide (kp.Kind < 1)))) gb (pt (rv (vb (decide (kp.Kind < 1)))) gb (rv (vb true)) (mv (rv (vb true)) (gf 63 (rv (vb true)) rfl (gf 63 (rv (vb true)) rfl (gf 63 (rv (vb true)) rfl (gf 63 (rv (vb true)) rfl (L_gu (e := 67) (by rfl) (rv (undef)) (by decide) (L_gu (e := 67) (by rfl) (rv (undef)) (by decide) (L_gu (e := 67) (by rfl) (rv (undef)) (by decide) (gf 63 (rv (vb true)) rfl (pt (rv (vb true)) rfl (rv (vb true)) ?_))))))))))))); exact mv (rv (vb true)) (gf 73 (rv (vb true)) rfl (gf 73 (rv (vb true)) rfl (gf 73 (rv (vb true)) rfl (pt (rv (vb true)) rfl (rv (vb true)) (nn ⟨g1, true, rfl, g4, (Le.refl _), Option.some.inj hr, rfl, ka, kb, k9, rfl⟩)))))
           ·have hr := ite_f gb hr
            refine gt 58 (rv (vb (decide (kp.Kind < 1)))) gb (fa fld146_0 Item.of_Kind (rv (Value.pointer (some ⟨kw, 0, none⟩))) g3 (fun gc gd => gt 58 (rv (vb (decide (kp.Kind < 1)))) gb (li ty3 (rv gc) gd (gt 58 (rv (vb (decide (kp.Kind < 1)))) gb (L_gtr (rv (vi (kp.Kind))) (rv (vi 3)) (by decide) (pf (rv (vb (decide (kp.Kind < 1)))) gb (rv (vb (decide (3 < kp.Kind)))) (mv (rv (vb (decide (3 < kp.Kind)))) ?_)))))))
            rcases tf (decide (3 < kp.Kind)) with gg | gg
            ·have hr := ite_t gg hr; refine gf 63 (rv (vb (decide (3 < kp.Kind)))) gg (gf 63 (rv (vb (decide (3 < kp.Kind)))) gg (gf 63 (rv (vb (decide (3 < kp.Kind)))) gg (gf 63 (rv (vb (decide (3 < kp.Kind)))) gg (L_gu (e := 67) (by rfl) (rv (undef)) (by decide) (L_gu (e := 67) (by rfl) (rv (undef)) (by decide) (L_gu (e := 67) (by rfl) (rv (undef)) (by decide) (gf 63 (rv (vb (decide (3 < kp.Kind)))) gg (pt (rv (vb (decide (3 < kp.Kind)))) gg (rv (vb true)) (mv (rv (vb true)) (gf 73 (rv (vb true)) rfl (gf 73 (rv (vb true)) rfl (gf 73 (rv (vb true)) rfl (pt (rv (vb true)) rfl (rv (vb true)) ?_))))))))))))); exact nn ⟨g1, true, rfl, g4, (Le.refl _), Option.some.inj hr, rfl, ka, kb, k9, rfl⟩
            ·have hr := ite_f gg hr
             refine gt 63 (rv (vb (decide (3 < kp.Kind)))) gg (fa fld146_0 Item.of_Kind (rv (Value.pointer (some ⟨kw, 0, none⟩))) g3 (fun gh gi => gt 63 (rv (vb (decide (3 < kp.Kind)))) gg (li ty3 (rv gh) gi (gt 63 (rv (vb (decide (3 < kp.Kind)))) gg (el (rv (vi (kp.Kind))) (rv (vi 1)) (gt 63 (rv (vb (decide (3 < kp.Kind)))) gg (mv (rv (vb (decide (kp.Kind = 1)))) ?_)))))))
             rcases tf (decide (kp.Kind = 1)) with gj | gj
             ·have hr := ite_t gj hr
              refine gt 67 (rv (vb (decide (kp.Kind = 1)))) gj (fa fld146_1 Item.of_No (rv (Value.pointer (some ⟨kw, 0, none⟩))) g3 (fun gk gl => gt 67 (rv (vb (decide (kp.Kind = 1)))) gj (li ty3 (rv gk) gl (gt 67 (rv (vb (decide (kp.Kind = 1)))) gj (ne (rv (vi (kp.No))) (rv (vi 0)) (gt 63 (rv (vb (decide (3 < kp.Kind)))) gg (pt (rv (vb (decide (kp.Kind = 1)))) gj (rv (vb (!decide (kp.No = 0)))) (pf (rv (vb (decide (3 < kp.Kind)))) gg (rv (vb (!decide (kp.No = 0)))) (mv (rv (vb (!decide (kp.No = 0)))) ?_)))))))))
              rcases tf (!decide (kp.No = 0)) with gm | gm
              ·have hr := ite_t gm hr; exact gf 73 (rv (vb (!decide (kp.No = 0)))) gm (gf 73 (rv (vb (!decide (kp.No = 0)))) gm (gf 73 (rv (vb (!decide (kp.No = 0)))) gm (pt (rv (vb (!decide (kp.No = 0)))) gm (rv (vb true)) (nn ⟨g1, true, rfl, g4, (Le.refl _), Option.some.inj hr, rfl, ka, kb, k9, rfl⟩))))
              ·have hr := ite_f gm hr; exact gt 73 (rv (vb (!decide (kp.No = 0)))) gm (fa fld146_1 Item.of_No (rv (Value.pointer (some ⟨kw, 0, none⟩))) g3 (fun gn go => gt 73 (rv (vb (!decide (kp.No = 0)))) gm (li ty3 (rv gn) go (gt 73 (rv (vb (!decide (kp.No = 0)))) gm (ls (rv (vi (kp.No))) (rv (vi 0)) (pf (rv (vb (!decide (kp.No = 0)))) gm (rv (vb (decide (kp.No < 0)))) (nn ⟨g1, (decide (kp.No < 0)), rfl, g4, (Le.refl _), Option.some.inj hr, rfl, ka, kb, k9, rfl⟩)))))))
             ·have hr := ite_f gj hr; refine gf 67 (rv (vb (decide (kp.Kind = 1)))) gj (gf 67 (rv (vb (decide (kp.Kind = 1)))) gj (gf 67 (rv (vb (decide (kp.Kind = 1)))) gj (gt 63 (rv (vb (decide (3 < kp.Kind)))) gg (pf (rv (vb (decide (kp.Kind = 1)))) gj (rv (vb false)) (pf (rv (vb (decide (3 < kp.Kind)))) gg (rv (vb false)) (mv (rv (vb false)) (gt 73 (rv (vb false)) rfl (fa fld146_1 Item.of_No (rv (Value.pointer (some ⟨kw, 0, none⟩))) g3 (fun gk gl => gt 73 (rv (vb false)) rfl (li ty3 (rv gk) gl (gt 73 (rv (vb false)) rfl (ls (rv (vi (kp.No))) (rv (vi 0)) (pf (rv (vb false)) rfl (rv (vb (decide (kp.No < 0)))) ?_))))))))))))); exact nn ⟨g1, (decide (kp.No < 0)), rfl, g4, (Le.refl _), Option.some.inj hr, rfl, ka, kb, k9, rfl⟩
          ·rintro g9 ga ⟨gb, g8, rfl, gc, gd, g6, gg, gh, gi, gj, gk⟩
           subst g6
           have hr := g7
           try dsimp only at hr
           refine W_cond _ gg (fun gl => ?_) (fun gl => ?_)
           ·have hr := ite_t gl hr; refine sr (asg (rv (vi 2)) (nn (W_ret (then_r (block_r (then_r (then_r (block_r ?_)))))))); obtain rfl := Option.some.inj hr; have hr := k1; (try dsimp only at hr); refine then_r (block_r (then_r (then_r (block_r ?_)))); obtain rfl := Option.some.inj hr; have hr := jo; (try dsimp only at hr); refine then_r (then_r ?_); obtain rfl := Option.some.inj hr; exact done1 (Or.inl rfl) Tryz.results77 rfl ⟨_, _, rfl, rfl, gc, Vint⟩
           ·have hr := ite_f gl hr
            refine W_skip (then_n (sr (mv gh (fa fld146_0 Item.of_Kind gk (g3.mono gd) (fun gm gn => li ty3 (rv gm) gn (fa fld146_1 Item.of_No gk (g3.mono gd) (fun go gp => li ty3 (rv go) gp ?_)))))))
            obtain ⟨gq, gr, hr⟩ := bind_some hr
            refine L_calls cal80 (args3 (rv w0) (rv (vi (kp.Kind))) (rv (vi (kp.No)))) (ref14_place_ok N _ _ _ (h0.mono (j9.trans (jk.trans (jv.trans (k8.trans (kx.le.trans (g2.le.trans gd))))))) kp.Kind kp.No gq gr) (by decide) (fun gs gu gv gw => ?_)
            have gx := Tch.ext gc gv
            obtain ⟨gy, gz, rfl, u0, u1⟩ := gw
            obtain rfl := u0.int
            obtain rfl := u1.int
            refine mv (rv (Value.tuple #[vi (gq.1), vi (gq.2)])) (xt (rv (Value.tuple #[vi (gq.1), vi (gq.2)])) (k := 0) rfl (xt (rv (Value.tuple #[vi (gq.1), vi (gq.2)])) (k := 1) rfl (asg (rv (vi (gq.1))) (asg (rv (vi (gq.2))) (nn ?_)))))
            obtain ⟨u2, u3, u4⟩ := bind_some hr
            refine W_seq_cut (fun f w => ∃ (s : St) (u5 : Bool), s.w = w ∧ Ext s0 s ∧ Le gu s ∧ u5 = u2 ∧ f 99 = vb u5 ∧ f 0 = w0 ∧ f 4 = vi (jp) ∧ f 5 = vi (k2)) ?_ ?_
            ·have hr := u3
             refine W_region (fa fld146_0 Item.of_Kind gk (g3.mono (gd.trans gv.le)) (fun u6 u7 => li ty3 (rv u6) u7 (ne (rv (vi (kp.Kind))) (rv (vi 1)) (mv (rv (vb (!decide (kp.Kind = 1)))) ?_))))
             rcases tf (!decide (kp.Kind = 1)) with u9 | u9
             ·have hr := ite_t u9 hr
              refine gt 90 (rv (vb (!decide (kp.Kind = 1)))) u9 (mv (rv (vi (gq.1))) (gt 90 (rv (vb (!decide (kp.Kind = 1)))) u9 (mv gi (gt 90 (rv (vb (!decide (kp.Kind = 1)))) u9 (ne (rv (vi (gq.1))) (rv (vi jp)) (gt 90 (rv (vb (!decide (kp.Kind = 1)))) u9 (mv (rv (vb (!decide (gq.1 = jp)))) ?_)))))))
              rcases tf (!decide (gq.1 = jp)) with ua | ua
              ·have hr := ite_t ua hr; exact gf 94 (rv (vb (!decide (gq.1 = jp)))) ua (gf 94 (rv (vb (!decide (gq.1 = jp)))) ua (gf 94 (rv (vb (!decide (gq.1 = jp)))) ua (gt 90 (rv (vb (!decide (kp.Kind = 1)))) u9 (pt (rv (vb (!decide (gq.1 = jp)))) ua (rv (vb true)) (pt (rv (vb (!decide (kp.Kind = 1)))) u9 (rv (vb true)) (nn ⟨gu, true, rfl, gx, (Le.refl _), Option.some.inj hr, rfl, gh, gi, gj⟩))))))
              ·have hr := ite_f ua hr; exact gt 94 (rv (vb (!decide (gq.1 = jp)))) ua (mv (rv (vi (gq.2))) (gt 94 (rv (vb (!decide (gq.1 = jp)))) ua (mv gj (gt 94 (rv (vb (!decide (gq.1 = jp)))) ua (ne (rv (vi (gq.2))) (rv (vi k2)) (gt 90 (rv (vb (!decide (kp.Kind = 1)))) u9 (pf (rv (vb (!decide (gq.1 = jp)))) ua (rv (vb (!decide (gq.2 = k2)))) (pt (rv (vb (!decide (kp.Kind = 1)))) u9 (rv (vb (!decide (gq.2 = k2)))) (nn ⟨gu, (!decide (gq.2 = k2)), rfl, gx, (Le.refl _), Option.some.inj hr, rfl, gh, gi, gj⟩)))))))))
             ·have hr := ite_f u9 hr; exact gf 90 (rv (vb (!decide (kp.Kind = 1)))) u9 (gf 90 (rv (vb (!decide (kp.Kind = 1)))) u9 (gf 90 (rv (vb (!decide (kp.Kind = 1)))) u9 (gf 90 (rv (vb (!decide (kp.Kind = 1)))) u9 (L_gu (e := 94) (by rfl) (rv (undef)) (by decide) (L_gu (e := 94) (by rfl) (rv (undef)) (by decide) (L_gu (e := 94) (by rfl) (rv (undef)) (by decide) (gf 90 (rv (vb (!decide (kp.Kind = 1)))) u9 (pf (rv (vb (!decide (kp.Kind = 1)))) u9 (rv (vb false)) (nn ⟨gu, false, rfl, gx, (Le.refl _), Option.some.inj hr, rfl, gh, gi, gj⟩)))))))))
            ·rintro u6 u7 ⟨u9, u5, rfl, ua, ub, u3, uc, ud, ue, uf⟩
             subst u3
             have hr := u4
             try dsimp only at hr
             refine W_cond _ uc (fun ug => ?_) (fun ug => ?_)
             ·have hr := ite_t ug hr; refine sr (asg (rv (vi 2)) (nn (W_ret (block_r (then_r (then_r (block_r ?_))))))); obtain rfl := Option.some.inj hr; have hr := k1; (try dsimp only at hr); refine then_r (block_r (then_r (then_r (block_r ?_)))); obtain rfl := Option.some.inj hr; have hr := jo; (try dsimp only at hr); refine then_r (then_r ?_); obtain rfl := Option.some.inj hr; exact done1 (Or.inl rfl) Tryz.results77 rfl ⟨_, _, rfl, rfl, ua, Vint⟩
             ·have hr := ite_f ug hr; refine W_skip (block_n (then_n (W_region (mv uf ?_)))); obtain ⟨uh, hr⟩ := chk_some hr; exact ad (rv (vi k2)) (rv (vi 1)) uh (asg (rv (vi (k2 + 1))) (nn ⟨k3, Nat.lt_succ_self _, ⟨u9, (k2 + 1), rfl, ua, (k8.trans (kx.le.trans (g2.le.trans (gd.trans (gv.le.trans ub))))), hr, rfl, ud, ue⟩⟩))
         ·have hr := ite_f ki hr; refine W_exit (then_x (then_x (block_here ?_))); exact then_n ⟨k6, rfl, k7, k8, Option.some.inj hr, ka, kb⟩
       ·rintro k2 k3 ⟨k4, rfl, k5, k6, k0, k7, k8⟩; subst k0; have hr := k1; (try dsimp only at hr); refine block_n (then_n (W_region (mv k8 ?_))); obtain ⟨k9, hr⟩ := chk_some hr; exact ad (rv (vi jp)) (rv (vi 1)) k9 (asg (rv (vi (jp + 1))) (nn ⟨jq, Nat.lt_succ_self _, ⟨k4, (jp + 1), rfl, k5, (jv.trans k6), hr, rfl, k7⟩⟩))
      ·have hr := ite_f jy hr; refine W_exit (then_x (then_x (block_here ?_))); exact then_n ⟨jt, rfl, ju, jv, Option.some.inj hr, jx⟩
    ·rintro jp jq ⟨jr, rfl, js, jt, jn, ju⟩
     subst jn
     have hr := jo
     try dsimp only at hr
     refine then_n (W_seq (sr (asg (rv (vi 0)) (nn ?_))))
     obtain ⟨jv, jw, jx⟩ := bind_some hr
     refine W_cut (fun f w => ∃ (s : St), s.w = w ∧ Ext s0 s ∧ Le jr s ∧ Sum.inl () = jv) ?_ ?_
     ·refine W_block (W_loop (fun m f w => ∃ (s : St) (jy : Int), s.w = w ∧ Ext s0 s ∧ Le jr s ∧ ref14_history_l4 N a0 m jy = some jv ∧ f 9 = vi jy ∧ f 0 = w0) N ⟨jr, 0, rfl, js, (Le.refl _), jw, rfl, ju⟩ ?_)
      rintro jz k0 k1 ⟨k2, jy, rfl, k3, k4, hr, k5, k6⟩
      cases jz with
      | zero => exact absurd hr (by simp [ref14_history_l4])
      | succ jz =>
       rw [ref14_history_l4.eq_2] at hr
       refine W_seq (sr (mv k5 (mv k6 (ln Tryz.underlying53 (rv w0) (h0.mono (j9.trans (jk.trans (jt.trans k4)))) (ls (rv (vi jy)) (rv (vi ((a0.length : Int)))) (nn ?_))))))
       refine W_cond _ (rv (vb (decide (jy < (a0.length : Int))))) (fun k7 => ?_) (fun k7 => ?_)
       ·have hr := ite_t k7 hr
        refine W_skip (then_n (W_seq (W_block (sr (asg (rv (vi 0)) (nn ?_))))))
        obtain ⟨k8, k9, ka⟩ := bind_some hr
        refine W_cut (fun f w => ∃ (s : St), s.w = w ∧ Ext s0 s ∧ Le k2 s ∧ Sum.inl () = k8 ∧ f 0 = w0 ∧ f 9 = vi (jy)) ?_ ?_
        ·refine W_block (W_loop (fun m f w => ∃ (s : St) (kb : Int), s.w = w ∧ Ext s0 s ∧ Le k2 s ∧ ref14_history_l5 N a0 jy m kb = some k8 ∧ f 10 = vi kb ∧ f 0 = w0 ∧ f 9 = vi (jy)) N ⟨k2, 0, rfl, k3, (Le.refl _), k9, rfl, k6, k5⟩ ?_)
         rintro kc kd ke ⟨kf, kb, rfl, kg, kh, hr, ki, kj, kk⟩
         cases kc with
         | zero => exact absurd hr (by simp [ref14_history_l5])
         | succ kc =>
          rw [ref14_history_l5.eq_2] at hr
          refine W_seq (sr (mv ki (mv kj (mv kk ?_))))
          obtain ⟨kl, km, hr⟩ := bind_some hr
          refine ix Tryz.underlying53 ty54.inf (rv w0) (h0.mono (j9.trans (jk.trans (jt.trans (k4.trans kh))))) (rv (vi jy)) km (fun kn ko => ld ty54 (rv kn) ko (fun kp kq => ln Tryz.underlying54 (rv kp) kq (ls (rv (vi kb)) (rv (vi ((kl.length : Int)))) (nn ?_))))
          refine W_cond _ (rv (vb (decide (kb < (kl.length : Int))))) (fun kr => ?_) (fun kr => ?_)
          ·have hr := ite_t kr hr
           refine W_skip (then_n (W_seq (W_block (sr (mv kj (mv kk ?_))))))
           obtain ⟨ks, kt, hr⟩ := bind_some hr
           refine ix Tryz.underlying53 ty54.inf (rv w0) (h0.mono (j9.trans (jk.trans (jt.trans (k4.trans kh))))) (rv (vi jy)) kt (fun ku kv => ld ty54 (rv ku) kv (fun kw kx => mv ki ?_))
           obtain ⟨ky, kz, hr⟩ := bind_some hr
           refine ix Tryz.underlying54 ty146.inf (rv kw) kx (rv (vi kb)) kz (fun g0 g1 => fa fld146_0 Item.of_Kind (rv g0) g1 (fun g2 g3 => li ty3 (rv g2) g3 (el (rv (vi (ky.Kind))) (rv (vi 3)) (nn ?_))))
           refine W_cond _ (rv (vb (decide (ky.Kind = 3)))) (fun g4 => ?_) (fun g4 => ?_)
           ·have hr := ite_t g4 hr
            refine sr (mv kj (mv kj (mv kk ?_)))
            obtain ⟨g5, g6, hr⟩ := bind_some hr
            refine ix Tryz.underlying53 ty54.inf (rv w0) (h0.mono (j9.trans (jk.trans (jt.trans (k4.trans kh))))) (rv (vi jy)) g6 (fun g7 g8 => ld ty54 (rv g7) g8 (fun g9 ga => mv ki ?_))
            obtain ⟨gb, gc, hr⟩ := bind_some hr
            refine ix Tryz.underlying54 ty146.inf (rv g9) ga (rv (vi kb)) gc (fun gd gg => fa fld146_1 Item.of_No (rv gd) gg (fun gh gi => li ty3 (rv gh) gi ?_))
            obtain ⟨gj, gk, hr⟩ := bind_some hr
            refine L_calls cal80 (args3 (rv w0) (rv (vi 2)) (rv (vi (gb.No)))) (ref14_place_ok N _ _ _ (h0.mono (j9.trans (jk.trans (jt.trans (k4.trans kh))))) 2 gb.No gj gk) (by decide) (fun gl gm gn go => ?_)
            have gp := Tch.ext kg gn
            obtain ⟨gq, gr, rfl, gs, gu⟩ := go
            obtain rfl := gs.int
            obtain rfl := gu.int
            refine mv (rv (Value.tuple #[vi (gj.1), vi (gj.2)])) (xt (rv (Value.tuple #[vi (gj.1), vi (gj.2)])) (k := 0) rfl (xt (rv (Value.tuple #[vi (gj.1), vi (gj.2)])) (k := 1) rfl (asg (rv (vi (gj.1))) (asg (rv (vi (gj.2))) (nn ?_)))))
            obtain ⟨gv, gw, gx⟩ := bind_some hr
            refine W_seq_cut (fun f w => ∃ (s : St) (gy : Bool), s.w = w ∧ Ext s0 s ∧ Le gm s ∧ gy = gv ∧ f 143 = vb gy ∧ f 0 = w0 ∧ f 9 = vi (jy) ∧ f 10 = vi (kb)) ?_ ?_
            ·have hr := gw
             refine W_region (mv (rv (vi (gj.1))) (ls (rv (vi (gj.1))) (rv (vi 0)) (mv (rv (vb (decide (gj.1 < 0)))) ?_)))
             rcases tf (decide (gj.1 < 0)) with gz | gz
             ·have hr := ite_t gz hr; exact gf 139 (rv (vb (decide (gj.1 < 0)))) gz (gf 139 (rv (vb (decide (gj.1 < 0)))) gz (gf 139 (rv (vb (decide (gj.1 < 0)))) gz (pt (rv (vb (decide (gj.1 < 0)))) gz (rv (vb true)) (nn ⟨gm, true, rfl, gp, (Le.refl _), Option.some.inj hr, rfl, kj, kk, ki⟩))))
             ·have hr := ite_f gz hr; exact gt 139 (rv (vb (decide (gj.1 < 0)))) gz (mv (rv (vi (gj.1))) (gt 139 (rv (vb (decide (gj.1 < 0)))) gz (mv kk (gt 139 (rv (vb (decide (gj.1 < 0)))) gz (el (rv (vi (gj.1))) (rv (vi jy)) (pf (rv (vb (decide (gj.1 < 0)))) gz (rv (vb (decide (gj.1 = jy)))) (nn ⟨gm, (decide (gj.1 = jy)), rfl, gp, (Le.refl _), Option.some.inj hr, rfl, kj, kk, ki⟩)))))))
            ·rintro gz u0 ⟨u1, gy, rfl, u2, u3, gw, u4, u5, u6, u7⟩
             subst gw
             have hr := gx
             try dsimp only at hr
             refine W_cond _ u4 (fun u9 => ?_) (fun u9 => ?_)
             ·have hr := ite_t u9 hr; refine sr (asg (rv (vi 2)) (nn (W_ret (block_r (then_r (then_r (block_r ?_))))))); obtain rfl := Option.some.inj hr; have hr := ka; (try dsimp only at hr); refine then_r (block_r (then_r (then_r (block_r ?_)))); obtain rfl := Option.some.inj hr; have hr := jx; (try dsimp only at hr); refine then_r (then_r ?_); obtain rfl := Option.some.inj hr; exact done1 (Or.inl rfl) Tryz.results77 rfl ⟨_, _, rfl, rfl, u2, Vint⟩
             ·have hr := ite_f u9 hr; refine W_skip (block_n (then_n (W_region (mv u7 ?_)))); obtain ⟨ua, hr⟩ := chk_some hr; exact ad (rv (vi kb)) (rv (vi 1)) ua (asg (rv (vi (kb + 1))) (nn ⟨kc, Nat.lt_succ_self _, ⟨u1, (kb + 1), rfl, u2, (kh.trans (gn.le.trans u3)), hr, rfl, u5, u6⟩⟩))
           ·have hr := ite_f g4 hr; refine W_skip (block_n (then_n (W_region (mv ki ?_)))); obtain ⟨g5, hr⟩ := chk_some hr; exact ad (rv (vi kb)) (rv (vi 1)) g5 (asg (rv (vi (kb + 1))) (nn ⟨kc, Nat.lt_succ_self _, ⟨kf, (kb + 1), rfl, kg, kh, hr, rfl, kj, kk⟩⟩))
          ·have hr := ite_f kr hr; refine W_exit (then_x (then_x (block_here ?_))); exact then_n ⟨kf, rfl, kg, kh, Option.some.inj hr, kj, kk⟩
        ·rintro kb kc ⟨kd, rfl, ke, kf, k9, kg, kh⟩; subst k9; have hr := ka; (try dsimp only at hr); refine block_n (then_n (W_region (mv kh ?_))); obtain ⟨ki, hr⟩ := chk_some hr; exact ad (rv (vi jy)) (rv (vi 1)) ki (asg (rv (vi (jy + 1))) (nn ⟨jz, Nat.lt_succ_self _, ⟨kd, (jy + 1), rfl, ke, (k4.trans kf), hr, rfl, kg⟩⟩))
       ·have hr := ite_f k7 hr; refine W_exit (then_x (then_x (block_here ?_))); exact then_n ⟨k2, rfl, k3, k4, Option.some.inj hr⟩
     ·rintro jy jz ⟨k0, rfl, k1, k2, jw⟩; subst jw; have hr := jx; (try dsimp only at hr); refine then_n (sr (asg (rv (vi 0)) (nn (W_ret ?_)))); obtain rfl := Option.some.inj hr; exact done1 (Or.inl rfl) Tryz.results77 rfl ⟨_, _, rfl, rfl, k1, Vint⟩

theorem ref14_saves_ok (N : Nat) (s0 : St) (w0 : Value) (a0 : List Item) (h0 : V s0 w0 a0) (r : Int) (hr : ref14_saves N a0 = some r) :
    Calls Tryz.prog 78 #[w0] s0.w (Ret s0 fun v s => V s v r) := by
 unfold ref14_saves at hr
 have j0 := Ext.refl s0
 refine Calls_of (n := 20) (args := [w0]) Tryz.func78 rfl rfl (by simp) (sr (asg (rv (vi 0)) (nn (sr (asg (rv (vi 0)) (nn (W_seq (sr (asg (rv (vi 0)) (nn ?_))))))))))
 obtain ⟨j1, j2, j3⟩ := bind_some hr
 refine W_cut (fun f w => ∃ (s : St) (j4 : Int), s.w = w ∧ Ext s0 s ∧ Le s0 s ∧ j4 = j1 ∧ f 3 = vi j4) ?_ ?_
 ·refine W_block (W_loop (fun m f w => ∃ (s : St) (j5 : Int) (j6 : Int), s.w = w ∧ Ext s0 s ∧ Le s0 s ∧ ref14_saves_l1 N a0 m j5 j6 = some j1 ∧ f 3 = vi j5 ∧ f 4 = vi j6 ∧ f 0 = w0) N ⟨s0, 0, 0, rfl, j0, (Le.refl _), j2, rfl, rfl, rfl⟩ ?_)
  rintro j7 j8 j9 ⟨ja, j5, j6, rfl, jb, jc, hr, jd, je, jf⟩
  cases j7 with
  | zero => exact absurd hr (by simp [ref14_saves_l1])
  | succ j7 =>
   rw [ref14_saves_l1.eq_2] at hr
   refine W_seq (sr (mv je (mv jf (ln Tryz.underlying54 (rv w0) (h0.mono jc) (ls (rv (vi j6)) (rv (vi ((a0.length : Int)))) (nn ?_))))))
   refine W_cond _ (rv (vb (decide (j6 < (a0.length : Int))))) (fun jg => ?_) (fun jg => ?_)
   ·have hr := ite_t jg hr
    refine W_skip (then_n (W_seq (W_block (sr (mv jf (mv je ?_))))))
    obtain ⟨jh, ji, hr⟩ := bind_some hr
    refine ix Tryz.underlying54 ty146.inf (rv w0) (h0.mono jc) (rv (vi j6)) ji (fun jj jk => fa fld146_0 Item.of_Kind (rv jj) jk (fun jl jm => li ty3 (rv jl) jm (el (rv (vi (jh.Kind))) (rv (vi 1)) (nn ?_))))
    refine W_cond _ (rv (vb (decide (jh.Kind = 1)))) (fun jn => ?_) (fun jn => ?_)
    ·have hr := ite_t jn hr; refine W_region (mv jd ?_); obtain ⟨jo, hr⟩ := chk_some hr; refine ad (rv (vi j5)) (rv (vi 1)) jo (asg (rv (vi (j5 + 1))) (L_nil (block_n (then_n (W_region (mv je ?_)))))); obtain ⟨jp, hr⟩ := chk_some hr; exact ad (rv (vi j6)) (rv (vi 1)) jp (asg (rv (vi (j6 + 1))) (nn ⟨j7, Nat.lt_succ_self _, ⟨ja, (j5 + 1), (j6 + 1), rfl, jb, jc, hr, rfl, rfl, jf⟩⟩))
    ·have hr := ite_f jn hr; refine W_skip (block_n (then_n (W_region (mv je ?_)))); obtain ⟨jo, hr⟩ := chk_some hr; exact ad (rv (vi j6)) (rv (vi 1)) jo (asg (rv (vi (j6 + 1))) (nn ⟨j7, Nat.lt_succ_self _, ⟨ja, j5, (j6 + 1), rfl, jb, jc, hr, jd, rfl, jf⟩⟩))
   ·have hr := ite_f jg hr; refine W_exit (then_x (then_x (block_here ?_))); exact then_n ⟨ja, j5, rfl, jb, jc, Option.some.inj hr, jd⟩
 ·rintro j5 j6 ⟨j7, j4, rfl, j8, j9, j2, ja⟩; subst j2; have hr := j3; (try dsimp only at hr); refine then_n (sr (mv ja (asg (rv (vi j4)) (nn (W_ret ?_))))); obtain rfl := Option.some.inj hr; exact done1 (Or.inl rfl) Tryz.results78 rfl ⟨_, _, rfl, rfl, j8, Vint⟩

theorem ref14_before_ok (N : Nat) (s0 : St) (w0 : Value) (a0 : List Item) (h0 : V s0 w0 a0) (a1 : Int) (a2 : Int) (r : Bool) (hr : ref14_before N a0 a1 a2 = some r) :
    Calls Tryz.prog 79 #[w0, .int .i64 a1, .int .i64 a2] s0.w (Ret s0 fun v s => V s v r) := by
 unfold ref14_before at hr
 have j0 := Ext.refl s0
 refine Calls_of (n := 13) (args := [w0, .int .i64 a1, .int .i64 a2]) Tryz.func79 rfl rfl (by simp) (sr (asg (rv (vb false)) (nn (sr (mv (rv w0) (mv (rv (vi a1)) ?_))))))
 obtain ⟨j1, j2, hr⟩ := bind_some hr
 refine L_slice_h Tryz.underlying54 ty146.inf (rv w0) h0 (rv (vi a1)) j2 (by decide) (fun j3 j4 => ?_)
 obtain ⟨j5, j6, hr⟩ := bind_some hr
 refine L_calls cal78 (args1 (rv j3)) (ref14_saves_ok N _ _ _ j4 j5 j6) (by decide) (fun j7 j8 j9 ja => ?_)
 have jb := Tch.ext j0 j9
 obtain rfl := ja.int
 refine mv (rv (vi a2)) (ls (rv (vi j5)) (rv (vi a2)) (asg (rv (vb (decide (j5 < a2)))) (nn (W_ret ?_))))
 obtain rfl := Option.some.inj hr
 exact done1 (Or.inl rfl) Tryz.results79 rfl ⟨_, _, rfl, rfl, jb, Vbool⟩

theorem ref14_inserted_ok (N : Nat) (s0 : St) (w0 : Value) (a0 : List Int) (h0 : V s0 w0 a0) (a1 : Int) (r : (List Int)) (hr : ref14_inserted N a0 a1 = some r) :
    Calls Tryz.prog 81 #[w0, .int .i64 a1] s0.w (Ret s0 fun v s => V s v r) := by
 unfold ref14_inserted at hr
 have j0 := Ext.refl s0
 refine Calls_of (n := 32) (args := [w0, .int .i64 a1]) Tryz.func81 rfl rfl (by simp) (sr (asg (rv (Value.slice none 0 0)) (nn (sr (asg (rv (vi 0)) (nn (W_seq ?_)))))))
 obtain ⟨j1, j2, j3⟩ := bind_some hr
 refine W_cut (fun f w => ∃ (s : St) (j4 : Int), s.w = w ∧ Ext s0 s ∧ Le s0 s ∧ j4 = j1 ∧ f 5 = vi j4 ∧ f 0 = w0 ∧ f 1 = vi (a1)) ?_ ?_
 ·refine W_block (W_loop (fun m f w => ∃ (s : St) (j5 : Int), s.w = w ∧ Ext s0 s ∧ Le s0 s ∧ ref14_inserted_l1 N a0 a1 m j5 = some j1 ∧ f 5 = vi j5 ∧ f 0 = w0 ∧ f 1 = vi (a1)) N ⟨s0, 0, rfl, j0, (Le.refl _), j2, rfl, rfl, rfl⟩ ?_)
  rintro j6 j7 j8 ⟨j9, j5, rfl, ja, jb, hr, jc, jd, je⟩
  cases j6 with
  | zero => exact absurd hr (by simp [ref14_inserted_l1])
  | succ j6 =>
   rw [ref14_inserted_l1.eq_2] at hr
   refine W_seq ?_
   obtain ⟨jf, jg, jh⟩ := bind_some hr
   refine W_seq_cut (fun f w => ∃ (s : St) (ji : Bool), s.w = w ∧ Ext s0 s ∧ Le j9 s ∧ ji = jf ∧ f 17 = vb ji ∧ f 0 = w0 ∧ f 1 = vi (a1) ∧ f 5 = vi (j5)) ?_ ?_
   ·have hr := jg
    refine W_region (mv jc (mv jd (ln Tryz.underlying38 (rv w0) (h0.mono jb) (ls (rv (vi j5)) (rv (vi ((a0.length : Int)))) (mv (rv (vb (decide (j5 < (a0.length : Int))))) ?_)))))
    rcases tf (decide (j5 < (a0.length : Int))) with jj | jj
    ·have hr := ite_t jj hr; refine gt 10 (rv (vb (decide (j5 < (a0.length : Int))))) jj (mv jd (gt 10 (rv (vb (decide (j5 < (a0.length : Int))))) jj (mv jc (gt 10 (rv (vb (decide (j5 < (a0.length : Int))))) jj ?_)))); obtain ⟨jk, jl, hr⟩ := bind_some hr; exact ix Tryz.underlying38 ty3.inf (rv w0) (h0.mono jb) (rv (vi j5)) jl (fun jm jn => gt 10 (rv (vb (decide (j5 < (a0.length : Int))))) jj (li ty3 (rv jm) jn (gt 10 (rv (vb (decide (j5 < (a0.length : Int))))) jj (mv je (gt 10 (rv (vb (decide (j5 < (a0.length : Int))))) jj (ls (rv (vi jk)) (rv (vi a1)) (pt (rv (vb (decide (j5 < (a0.length : Int))))) jj (rv (vb (decide (jk < a1)))) (nn ⟨j9, (decide (jk < a1)), rfl, ja, (Le.refl _), Option.some.inj hr, rfl, jd, je, jc⟩))))))))
    ·have hr := ite_f jj hr; exact gf 10 (rv (vb (decide (j5 < (a0.length : Int))))) jj (gf 10 (rv (vb (decide (j5 < (a0.length : Int))))) jj (gf 10 (rv (vb (decide (j5 < (a0.length : Int))))) jj (gf 10 (rv (vb (decide (j5 < (a0.length : Int))))) jj (gf 10 (rv (vb (decide (j5 < (a0.length : Int))))) jj (gf 10 (rv (vb (decide (j5 < (a0.length : Int))))) jj (pf (rv (vb (decide (j5 < (a0.length : Int))))) jj (rv (vb false)) (nn ⟨j9, false, rfl, ja, (Le.refl _), Option.some.inj hr, rfl, jd, je, jc⟩)))))))
   ·rintro jj jk ⟨jl, ji, rfl, jm, jn, jg, jo, jp, jq, jr⟩
    subst jg
    have hr := jh
    try dsimp only at hr
    refine W_cond _ jo (fun js => ?_) (fun js => ?_)
    ·have hr := ite_t js hr; refine W_skip (then_n (W_block (W_region (mv jr ?_)))); obtain ⟨jt, hr⟩ := chk_some hr; refine ad (rv (vi j5)) (rv (vi 1)) jt (asg (rv (vi (j5 + 1))) (L_nil (block_n ?_))); exact then_n ⟨j6, Nat.lt_succ_self _, ⟨jl, (j5 + 1), rfl, jm, (jb.trans jn), hr, rfl, jp, jq⟩⟩
    ·have hr := ite_f js hr; refine W_exit (then_x (then_x (block_here ?_))); exact then_n ⟨jl, j5, rfl, jm, (jb.trans jn), Option.some.inj hr, jr, jp, jq⟩
 ·rintro j5 j6 ⟨j7, j4, rfl, j8, j9, j2, ja, jb, jc⟩
  subst j2
  have hr := j3
  try dsimp only at hr
  refine then_n (W_seq ?_)
  obtain ⟨jd, je, hr⟩ := bind_some hr
  obtain ⟨jf, hr⟩ := chk_some hr
  obtain ⟨jg, hr⟩ := chk_some hr
  obtain ⟨jh, ji, hr⟩ := bind_some hr
  obtain ⟨jj, hr⟩ := chk_some hr
  refine W_drawO mixed 13 [PX.bld s0.w.heap.size 3 (([] : List Int) : List Int), PX.data (a0 : List Int), PX.eq (vi j4), PX.data (jd : List Int), PX.bld s0.w.heap.size 3 (([] : List Int) ++ jd : List Int), PX.eq (vi a1), PX.data (([a1] : List Int) : List Int), PX.bld s0.w.heap.size 3 ((([] : List Int) ++ jd) ++ ([a1] : List Int) : List Int), PX.data (a0 : List Int), PX.eq (vi j4), PX.data (jh : List Int), PX.bld s0.w.heap.size 3 (((([] : List Int) ++ jd) ++ ([a1] : List Int)) ++ jh : List Int), PX.bld s0.w.heap.size 3 (((([] : List Int) ++ jd) ++ ([a1] : List Int)) ++ jh : List Int)] [20, 21, 22, 23, 24, 25, 26, 27, 28, 29, 30, 31, 4] [[], [], [], [], [0], [], [], [4], [], [], [], [7], [11]] rfl (by kernel_rfl) (ent0 rfl) (dis0 rfl) (StepsX_cons ?_ (StepsX_cons ?_ (StepsX_cons ?_ (StepsX_cons ?_ (StepsX_cons ?_ (StepsX_cons ?_ (StepsX_cons ?_ (StepsX_cons ?_ (StepsX_cons ?_ (StepsX_cons ?_ (StepsX_cons ?_ (StepsX_cons ?_ (StepsX_cons ?_ StepsX_nil))))))))))))) ?_
  ·intro jk jl jm jn jo jp Q jq; refine L_buildSlice (xs := ([] : List Int)) Tryz.underlying38 tyz3 Parts_nil Vs.nil rfl (by decide) (by decide) (fun jr js jt ju jv => ?_); have jw := Tch.ext (Ext.refl jl) jt; exact L_nil (jq _ _ No jw (fun _ h => h.elim) (ju.base (Nat.le_trans j8.size jm.size)) (fun k h => Or.inr ((ju.lt h).1)))
  ·intro jk jl jm jn jo jp Q jq; have jr : jk 0 = w0 := (jo 0 (by kernel_rfl)).trans jb; exact mv jr (L_nil (jq _ _ No (Ext.refl jl) (fun _ h => h.elim) (h0.mono (j9.trans jm.le)) (fun _ h => h.elim)))
  ·intro jk jl jm jn jo jp Q jq; have jr : jk 5 = vi (j4) := (jo 5 (by kernel_rfl)).trans ja; exact mv jr (L_nil (jq _ _ No (Ext.refl jl) (fun _ h => h.elim) rfl (fun _ h => h.elim)))
  ·intro jk jl jm jn jo jp Q jq; have jr : V _ (jk 21) (a0 : List Int) := jn 1 (by kernel_rfl) (by show _ < 13; decide); obtain ⟨js, jt, ju⟩ : ∃ v, _ = v ∧ V _ v _ := ⟨_, rfl, jr⟩; have jv : jk 22 = vi (j4) := jn 2 (by kernel_rfl) (by show _ < 13; decide); exact L_slice_h Tryz.underlying38 ty3.inf jt ju jv je (by decide) (fun jw jx => L_nil (jq _ _ No (Ext.refl jl) (fun _ h => h.elim) jx (fun _ h => h.elim)))
  ·intro jk jl jm jn jo jp Q jq; obtain ⟨jr, js, jt⟩ : ∃ v, jk 20 = v ∧ Bld jl s0.w.heap.size 3 v (([] : List Int) : List Int) := ⟨_, rfl, jn 0 (by kernel_rfl) (by show _ < 13; decide)⟩; have ju : V _ (jk 23) (jd : List Int) := jn 3 (by kernel_rfl) (by show _ < 13; decide); obtain ⟨jv, jw, jx⟩ : ∃ v, _ = v ∧ V _ v _ := ⟨_, rfl, ju⟩; exact L_append (xs := ([] : List Int)) (B := s0.w.heap.size) Tryz.underlying38 tyz3 js jw (jt) (Nat.le_trans j8.size jm.size) jx jf.1 jf.2 (by decide) (fun jy jz k0 => L_nil (jq _ _ _ k0.tch (fun k h => ⟨0, (List.mem_singleton.2 rfl : (0 : Nat) ∈ [0]), (by show own (jk 20) k; rw [js]; exact h)⟩) k0.bld (fun k h => (k0.own k h).imp (fun h => ⟨0, (List.mem_singleton.2 rfl : (0 : Nat) ∈ [0]), (by show own (jk 20) k; rw [js]; exact h)⟩) (fun h => h))))
  ·intro jk jl jm jn jo jp Q jq; have jr : jk 1 = vi (a1) := (jo 1 (by kernel_rfl)).trans jc; exact mv jr (L_nil (jq _ _ No (Ext.refl jl) (fun _ h => h.elim) rfl (fun _ h => h.elim)))
  ·intro jk jl jm jn jo jp Q jq; have jr : jk 25 = vi (a1) := jn 5 (by kernel_rfl) (by show _ < 13; decide); refine L_buildSlice (xs := ([a1] : List Int)) Tryz.underlying38 tyz3 (Parts_cons rfl jr Parts_nil) (Vs.cons Vint Vs.nil) rfl (by decide) (by decide) (fun js jt ju jv jw => ?_); have jx := Tch.ext (Ext.refl jl) ju; exact L_nil (jq _ _ No jx (fun _ h => h.elim) jw (fun _ h => h.elim))
  ·intro jk jl jm jn jo jp Q jq; obtain ⟨jr, js, jt⟩ : ∃ v, jk 24 = v ∧ Bld jl s0.w.heap.size 3 v (([] : List Int) ++ jd : List Int) := ⟨_, rfl, jn 4 (by kernel_rfl) (by show _ < 13; decide)⟩; have ju : V _ (jk 26) (([a1] : List Int) : List Int) := jn 6 (by kernel_rfl) (by show _ < 13; decide); obtain ⟨jv, jw, jx⟩ : ∃ v, _ = v ∧ V _ v _ := ⟨_, rfl, ju⟩; exact L_append (xs := (([] : List Int) ++ jd)) (B := s0.w.heap.size) Tryz.underlying38 tyz3 js jw (jt) (Nat.le_trans j8.size jm.size) jx jg.1 jg.2 (by decide) (fun jy jz k0 => L_nil (jq _ _ _ k0.tch (fun k h => ⟨4, (List.mem_singleton.2 rfl : (4 : Nat) ∈ [4]), (by show own (jk 24) k; rw [js]; exact h)⟩) k0.bld (fun k h => (k0.own k h).imp (fun h => ⟨4, (List.mem_singleton.2 rfl : (4 : Nat) ∈ [4]), (by show own (jk 24) k; rw [js]; exact h)⟩) (fun h => h))))
  ·intro jk jl jm jn jo jp Q jq; have jr : jk 0 = w0 := (jo 0 (by kernel_rfl)).trans jb; exact mv jr (L_nil (jq _ _ No (Ext.refl jl) (fun _ h => h.elim) (h0.mono (j9.trans jm.le)) (fun _ h => h.elim)))
  ·intro jk jl jm jn jo jp Q jq; have jr : jk 5 = vi (j4) := (jo 5 (by kernel_rfl)).trans ja; exact mv jr (L_nil (jq _ _ No (Ext.refl jl) (fun _ h => h.elim) rfl (fun _ h => h.elim)))
  ·intro jk jl jm jn jo jp Q jq; have jr : V _ (jk 28) (a0 : List Int) := jn 8 (by kernel_rfl) (by show _ < 13; decide); obtain ⟨js, jt, ju⟩ : ∃ v, _ = v ∧ V _ v _ := ⟨_, rfl, jr⟩; have jv : jk 29 = vi (j4) := jn 9 (by kernel_rfl) (by show _ < 13; decide); exact L_slice_l Tryz.underlying38 ty3.inf jt ju jv ji (by decide) (fun jw jx => L_nil (jq _ _ No (Ext.refl jl) (fun _ h => h.elim) jx (fun _ h => h.elim)))
  ·intro jk jl jm jn jo jp Q jq; obtain ⟨jr, js, jt⟩ : ∃ v, jk 27 = v ∧ Bld jl s0.w.heap.size 3 v ((([] : List Int) ++ jd) ++ ([a1] : List Int) : List Int) := ⟨_, rfl, jn 7 (by kernel_rfl) (by show _ < 13; decide)⟩; have ju : V _ (jk 30) (jh : List Int) := jn 10 (by kernel_rfl) (by show _ < 13; decide); obtain ⟨jv, jw, jx⟩ : ∃ v, _ = v ∧ V _ v _ := ⟨_, rfl, ju⟩; exact L_append (xs := ((([] : List Int) ++ jd) ++ ([a1] : List Int))) (B := s0.w.heap.size) Tryz.underlying38 tyz3 js jw (jt) (Nat.le_trans j8.size jm.size) jx jj.1 jj.2 (by decide) (fun jy jz k0 => L_nil (jq _ _ _ k0.tch (fun k h => ⟨7, (List.mem_singleton.2 rfl : (7 : Nat) ∈ [7]), (by show own (jk 27) k; rw [js]; exact h)⟩) k0.bld (fun k h => (k0.own k h).imp (fun h => ⟨7, (List.mem_singleton.2 rfl : (7 : Nat) ∈ [7]), (by show own (jk 27) k; rw [js]; exact h)⟩) (fun h => h))))
  ·intro jk jl jm jn jo jp Q jq; obtain ⟨jr, js, jt⟩ : ∃ v, jk 31 = v ∧ Bld jl s0.w.heap.size 3 v (((([] : List Int) ++ jd) ++ ([a1] : List Int)) ++ jh : List Int) := ⟨_, rfl, jn 11 (by kernel_rfl) (by show _ < 13; decide)⟩; exact asg js (L_nil (jq _ _ No (Ext.refl jl) (fun _ h => h.elim) jt (fun k h => Or.inl ⟨11, (List.mem_singleton.2 rfl : (11 : Nat) ∈ [11]), (by show own (jk 31) k; rw [js]; exact h)⟩)))
  ·intro jk jl jm jn jo jp jq; have jr := Tch.trans j8 jm (fun k h => absurd h (ent_none (k := 13) rfl rfl k)); obtain ⟨js, jt, ju⟩ : ∃ v, jk 4 = v ∧ Bld jl s0.w.heap.size 3 v (((([] : List Int) ++ jd) ++ ([a1] : List Int)) ++ jh : List Int) := ⟨_, rfl, jn 12 (by show _ < 13; decide) (by kernel_rfl)⟩; refine then_n (W_ret ?_); obtain rfl := Option.some.inj hr; exact done1 (Or.inl rfl) Tryz.results81 jt ⟨_, _, rfl, rfl, jr, (ju).toV⟩

set_option maxHeartbeats 1679000 in
theorem ref14_Line_ok (N : Nat) (s0 : St) (w0 : Value) (a0 : List (List Item)) (h0 : V s0 w0 a0) (w1 : Value) (a1 : List Int) (h1 : V s0 w1 a1) (r : (List Int) × (List Int) × Int) (hr : ref14_Line N a0 a1 = some r) :
    Calls Tryz.prog 29 #[w0, w1] s0.w (Ret s0 fun v s => ∃ a b c, v = .tuple #[a, b, c] ∧ V s a r.1 ∧ V s b r.2.1 ∧ V s c r.2.2) := by
 unfold ref14_Line at hr
 have j0 := Ext.refl s0
 refine Calls_of (n := 205) (args := [w0, w1]) Tryz.func29 rfl rfl (by simp) (sr (asg (rv (Value.slice none 0 0)) (asg (rv (Value.slice none 0 0)) (asg (rv (vi 0)) (nn (sr (mv (rv w0) ?_)))))))
 obtain ⟨j1, j2, hr⟩ := bind_some hr
 refine L_calls cal77 (args1 (rv w0)) (ref14_history_ok N _ _ _ h0 j1 j2) (by decide) (fun j3 j4 j5 j6 => ?_)
 have j7 := Tch.ext j0 j5
 obtain rfl := j6.int
 refine asg (rv (vi j1)) (nn (W_seq (sr (mv (rv (vi j1)) (ne (rv (vi j1)) (rv (vi 0)) (nn ?_))))))
 refine W_cond _ (rv (vb (!decide (j1 = 0)))) (fun j8 => ?_) (fun j8 => ?_)
 ·have hr := ite_t j8 hr; refine sr (mv (rv (vi j1)) (asg (rv (Value.slice none 0 0)) (asg (rv (Value.slice none 0 0)) (asg (rv (vi j1)) (nn (W_ret (then_r ?_))))))); obtain rfl := Option.some.inj hr; exact done3 (Or.inl rfl) Tryz.results29 rfl rfl rfl ⟨_, _, rfl, rfl, j7, _, _, _, rfl, Vnil, Vnil, Vint⟩
 ·have hr := ite_f j8 hr
  refine W_skip (then_n (W_seq (sr (mv (rv w1) (ln Tryz.underlying38 (rv w1) (h1.mono j5.le) (mv (rv w0) (ln Tryz.underlying53 (rv w0) (h0.mono j5.le) (ne (rv (vi ((a1.length : Int)))) (rv (vi ((a0.length : Int)))) (nn ?_)))))))))
  refine W_cond _ (rv (vb (!decide ((a1.length : Int) = (a0.length : Int))))) (fun j9 => ?_) (fun j9 => ?_)
  ·have hr := ite_t j9 hr; refine sr (asg (rv (Value.slice none 0 0)) (asg (rv (Value.slice none 0 0)) (asg (rv (vi 26)) (nn (W_ret (then_r ?_)))))); obtain rfl := Option.some.inj hr; exact done3 (Or.inl rfl) Tryz.results29 rfl rfl rfl ⟨_, _, rfl, rfl, j7, _, _, _, rfl, Vnil, Vnil, Vint⟩
  ·have hr := ite_f j9 hr
   refine W_skip (then_n (W_seq (sr (asg (rv (vi 0)) (nn ?_)))))
   obtain ⟨ja, jb, jc⟩ := bind_some hr
   refine W_cut (fun f w => ∃ (s : St), s.w = w ∧ Ext s0 s ∧ Le j4 s ∧ Sum.inl () = ja ∧ f 0 = w0 ∧ f 1 = w1) ?_ ?_
   ·refine W_block (W_loop (fun m f w => ∃ (s : St) (jd : Int), s.w = w ∧ Ext s0 s ∧ Le j4 s ∧ ref14_Line_l1 N a0 a1 m jd = some ja ∧ f 8 = vi jd ∧ f 0 = w0 ∧ f 1 = w1) N ⟨j4, 0, rfl, j7, (Le.refl _), jb, rfl, rfl, rfl⟩ ?_)
    rintro je jf jg ⟨jh, jd, rfl, ji, jj, hr, jk, jl, jm⟩
    cases je with
    | zero => exact absurd hr (by simp [ref14_Line_l1])
    | succ je =>
     rw [ref14_Line_l1.eq_2] at hr
     refine W_seq (sr (mv jk (mv jl (ln Tryz.underlying53 (rv w0) (h0.mono (j5.le.trans jj)) (ls (rv (vi jd)) (rv (vi ((a0.length : Int)))) (nn ?_))))))
     refine W_cond _ (rv (vb (decide (jd < (a0.length : Int))))) (fun jn => ?_) (fun jn => ?_)
     ·have hr := ite_t jn hr
      refine W_skip (then_n (W_seq (W_block ?_)))
      obtain ⟨jo, jp, jq⟩ := bind_some hr
      refine W_seq_cut (fun f w => ∃ (s : St) (jr : Bool), s.w = w ∧ Ext s0 s ∧ Le jh s ∧ jr = jo ∧ f 52 = vb jr ∧ f 0 = w0 ∧ f 1 = w1 ∧ f 8 = vi (jd)) ?_ ?_
      ·have hr := jp
       obtain ⟨js, jt, hr⟩ := bind_some hr
       rcases tf (decide (js < 0)) with ju | ju
       ·have hr := ite_t ju hr
        refine W_draws mixed (by kernel_rfl) [PV.data (a1 : List Int), PV.eq (vi jd), PV.ptr (js : Int), PV.eq (vi js), PV.eq (vb (decide (js < 0))), PV.eq (vb (decide (js < 0))), PV.eq (undef), PV.eq (undef), PV.eq (undef), PV.eq (undef), PV.eq (undef), PV.eq (undef), PV.eq (undef), PV.eq (undef), PV.eq (undef), PV.eq (undef), PV.eq (vb true)] (Steps_cons ?_ (Steps_cons ?_ (Steps_cons ?_ (Steps_cons ?_ (Steps_cons ?_ (Steps_cons ?_ (Steps_cons ?_ (Steps_cons ?_ (Steps_cons ?_ (Steps_cons ?_ (Steps_cons ?_ (Steps_cons ?_ (Steps_cons ?_ (Steps_cons ?_ (Steps_cons ?_ (Steps_cons ?_ (Steps_cons ?_ Steps_nil))))))))))))))))) ?_
        ·intro jv jw jx jy jz Q k0; have k1 : jv 1 = w1 := (jz 1 (by kernel_rfl)).trans jm; exact mv k1 (fin k0 (h1.mono (j5.le.trans (jj.trans jx.le))))
        ·intro jv jw jx jy jz Q k0; have k1 : jv 8 = vi (jd) := (jz 8 (by kernel_rfl)).trans jk; exact mv k1 (fin k0 rfl)
        ·intro jv jw jx jy jz Q k0; have k1 : V _ (jv 36) (a1 : List Int) := jy 0 36 (by kernel_rfl) (by kernel_rfl); obtain ⟨k2, k3, k4⟩ : ∃ v, _ = v ∧ V _ v _ := ⟨_, rfl, k1⟩; have k5 : jv 37 = vi (jd) := jy 1 37 (by kernel_rfl) (by kernel_rfl); exact ix Tryz.underlying38 ty3.inf k3 k4 k5 jt (fun k6 k7 => fin k0 k7)
        ·intro jv jw jx jy jz Q k0; have k1 : Ptr _ (jv 38) (js : Int) := jy 2 38 (by kernel_rfl) (by kernel_rfl); obtain ⟨k2, k3, k4⟩ : ∃ v, _ = v ∧ Ptr _ v _ := ⟨_, rfl, k1⟩; exact li ty3 k3 k4 (fin k0 rfl)
        ·intro jv jw jx jy jz Q k0; have k1 : jv 39 = vi (js) := jy 3 39 (by kernel_rfl) (by kernel_rfl); exact ls k1 (rv (vi 0)) (fin k0 rfl)
        ·intro jv jw jx jy jz Q k0; have k1 : jv 40 = vb (decide (js < 0)) := jy 4 40 (by kernel_rfl) (by kernel_rfl); exact mv k1 (fin k0 rfl)
        ·intro jv jw jx jy jz Q k0; have k1 : jv 41 = vb (decide (js < 0)) := jy 5 41 (by kernel_rfl) (by kernel_rfl); exact gf 41 k1 ju (fin k0 rfl)
        ·intro jv jw jx jy jz Q k0; have k1 : jv 41 = vb (decide (js < 0)) := jy 5 41 (by kernel_rfl) (by kernel_rfl); exact gf 41 k1 ju (fin k0 rfl)
        ·intro jv jw jx jy jz Q k0; have k1 : jv 41 = vb (decide (js < 0)) := jy 5 41 (by kernel_rfl) (by kernel_rfl); exact gf 41 k1 ju (fin k0 rfl)
        ·intro jv jw jx jy jz Q k0; have k1 : jv 41 = vb (decide (js < 0)) := jy 5 41 (by kernel_rfl) (by kernel_rfl); exact gf 41 k1 ju (fin k0 rfl)
        ·intro jv jw jx jy jz Q k0; have k1 : jv 41 = vb (decide (js < 0)) := jy 5 41 (by kernel_rfl) (by kernel_rfl); exact gf 41 k1 ju (fin k0 rfl)
        ·intro jv jw jx jy jz Q k0; have k1 : jv 41 = vb (decide (js < 0)) := jy 5 41 (by kernel_rfl) (by kernel_rfl); exact gf 41 k1 ju (fin k0 rfl)
        ·intro jv jw jx jy jz Q k0; have k1 : jv 41 = vb (decide (js < 0)) := jy 5 41 (by kernel_rfl) (by kernel_rfl); exact gf 41 k1 ju (fin k0 rfl)
        ·intro jv jw jx jy jz Q k0; have k1 : jv 41 = vb (decide (js < 0)) := jy 5 41 (by kernel_rfl) (by kernel_rfl); exact gf 41 k1 ju (fin k0 rfl)
        ·intro jv jw jx jy jz Q k0; have k1 : jv 41 = vb (decide (js < 0)) := jy 5 41 (by kernel_rfl) (by kernel_rfl); exact gf 41 k1 ju (fin k0 rfl)
        ·intro jv jw jx jy jz Q k0; have k1 : jv 41 = vb (decide (js < 0)) := jy 5 41 (by kernel_rfl) (by kernel_rfl); exact gf 41 k1 ju (fin k0 rfl)
        ·intro jv jw jx jy jz Q k0; have k1 : jv 41 = vb (decide (js < 0)) := jy 5 41 (by kernel_rfl) (by kernel_rfl); exact pt k1 ju (rv (vb true)) (fin k0 rfl)
        ·intro jv jw jx jy jz; have k0 := Tch.ext ji jx; have k1 : jv 0 = w0 := (jz 0 (by kernel_rfl)).trans jl; have k2 : jv 1 = w1 := (jz 1 (by kernel_rfl)).trans jm; have k3 : jv 8 = vi (jd) := (jz 8 (by kernel_rfl)).trans jk; have k4 : jv 52 = vb (true) := jy 16 52 (by kernel_rfl); exact then_n ⟨jw, true, rfl, k0, jx.le, Option.some.inj hr, k4, k1, k2, k3⟩
       ·have hr := ite_f ju hr
        obtain ⟨jv, jw, hr⟩ := bind_some hr
        obtain ⟨jx, jy, hr⟩ := bind_some hr
        obtain ⟨jz, k0, hr⟩ := bind_some hr
        refine W_draws mixed (by kernel_rfl) [PV.data (a1 : List Int), PV.eq (vi jd), PV.ptr (js : Int), PV.eq (vi js), PV.eq (vb (decide (js < 0))), PV.eq (vb (decide (js < 0))), PV.data (a1 : List Int), PV.eq (vi jd), PV.ptr (jv : Int), PV.eq (vi jv), PV.data (a0 : List (List Item)), PV.eq (vi jd), PV.ptr (jx : List Item), PV.data (jx : List Item), PV.eq (vi jz), PV.eq (vb (decide (jz < jv))), PV.eq (vb (decide (jz < jv)))] (Steps_cons ?_ (Steps_cons ?_ (Steps_cons ?_ (Steps_cons ?_ (Steps_cons ?_ (Steps_cons ?_ (Steps_cons ?_ (Steps_cons ?_ (Steps_cons ?_ (Steps_cons ?_ (Steps_cons ?_ (Steps_cons ?_ (Steps_cons ?_ (Steps_cons ?_ (Steps_cons ?_ (Steps_cons ?_ (Steps_cons ?_ Steps_nil))))))))))))))))) ?_
        ·intro k1 k2 k3 k4 k5 Q k6; have k7 : k1 1 = w1 := (k5 1 (by kernel_rfl)).trans jm; exact mv k7 (fin k6 (h1.mono (j5.le.trans (jj.trans k3.le))))
        ·intro k1 k2 k3 k4 k5 Q k6; have k7 : k1 8 = vi (jd) := (k5 8 (by kernel_rfl)).trans jk; exact mv k7 (fin k6 rfl)
        ·intro k1 k2 k3 k4 k5 Q k6; have k7 : V _ (k1 36) (a1 : List Int) := k4 0 36 (by kernel_rfl) (by kernel_rfl); obtain ⟨k8, k9, ka⟩ : ∃ v, _ = v ∧ V _ v _ := ⟨_, rfl, k7⟩; have kb : k1 37 = vi (jd) := k4 1 37 (by kernel_rfl) (by kernel_rfl); exact ix Tryz.underlying38 ty3.inf k9 ka kb jt (fun kc kd => fin k6 kd)
        ·intro k1 k2 k3 k4 k5 Q k6; have k7 : Ptr _ (k1 38) (js : Int) := k4 2 38 (by kernel_rfl) (by kernel_rfl); obtain ⟨k8, k9, ka⟩ : ∃ v, _ = v ∧ Ptr _ v _ := ⟨_, rfl, k7⟩; exact li ty3 k9 ka (fin k6 rfl)
        ·intro k1 k2 k3 k4 k5 Q k6; have k7 : k1 39 = vi (js) := k4 3 39 (by kernel_rfl) (by kernel_rfl); exact ls k7 (rv (vi 0)) (fin k6 rfl)
        ·intro k1 k2 k3 k4 k5 Q k6; have k7 : k1 40 = vb (decide (js < 0)) := k4 4 40 (by kernel_rfl) (by kernel_rfl); exact mv k7 (fin k6 rfl)
        ·intro k1 k2 k3 k4 k5 Q k6; have k7 : k1 1 = w1 := (k5 1 (by kernel_rfl)).trans jm; have k8 : k1 41 = vb (decide (js < 0)) := k4 5 41 (by kernel_rfl) (by kernel_rfl); exact gt 41 k8 ju (mv k7 (fin k6 (h1.mono (j5.le.trans (jj.trans k3.le)))))
        ·intro k1 k2 k3 k4 k5 Q k6; have k7 : k1 8 = vi (jd) := (k5 8 (by kernel_rfl)).trans jk; have k8 : k1 41 = vb (decide (js < 0)) := k4 5 41 (by kernel_rfl) (by kernel_rfl); exact gt 41 k8 ju (mv k7 (fin k6 rfl))
        ·intro k1 k2 k3 k4 k5 Q k6; have k7 : k1 41 = vb (decide (js < 0)) := k4 5 41 (by kernel_rfl) (by kernel_rfl); have k8 : V _ (k1 42) (a1 : List Int) := k4 6 42 (by kernel_rfl) (by kernel_rfl); obtain ⟨k9, ka, kb⟩ : ∃ v, _ = v ∧ V _ v _ := ⟨_, rfl, k8⟩; have kc : k1 43 = vi (jd) := k4 7 43 (by kernel_rfl) (by kernel_rfl); exact gt 41 k7 ju (ix Tryz.underlying38 ty3.inf ka kb kc jw (fun kd ke => fin k6 ke))
        ·intro k1 k2 k3 k4 k5 Q k6; have k7 : k1 41 = vb (decide (js < 0)) := k4 5 41 (by kernel_rfl) (by kernel_rfl); have k8 : Ptr _ (k1 44) (jv : Int) := k4 8 44 (by kernel_rfl) (by kernel_rfl); obtain ⟨k9, ka, kb⟩ : ∃ v, _ = v ∧ Ptr _ v _ := ⟨_, rfl, k8⟩; exact gt 41 k7 ju (li ty3 ka kb (fin k6 rfl))
        ·intro k1 k2 k3 k4 k5 Q k6; have k7 : k1 0 = w0 := (k5 0 (by kernel_rfl)).trans jl; have k8 : k1 41 = vb (decide (js < 0)) := k4 5 41 (by kernel_rfl) (by kernel_rfl); exact gt 41 k8 ju (mv k7 (fin k6 (h0.mono (j5.le.trans (jj.trans k3.le)))))
        ·intro k1 k2 k3 k4 k5 Q k6; have k7 : k1 8 = vi (jd) := (k5 8 (by kernel_rfl)).trans jk; have k8 : k1 41 = vb (decide (js < 0)) := k4 5 41 (by kernel_rfl) (by kernel_rfl); exact gt 41 k8 ju (mv k7 (fin k6 rfl))
        ·intro k1 k2 k3 k4 k5 Q k6; have k7 : k1 41 = vb (decide (js < 0)) := k4 5 41 (by kernel_rfl) (by kernel_rfl); have k8 : V _ (k1 46) (a0 : List (List Item)) := k4 10 46 (by kernel_rfl) (by kernel_rfl); obtain ⟨k9, ka, kb⟩ : ∃ v, _ = v ∧ V _ v _ := ⟨_, rfl, k8⟩; have kc : k1 47 = vi (jd) := k4 11 47 (by kernel_rfl) (by kernel_rfl); exact gt 41 k7 ju (ix Tryz.underlying53 ty54.inf ka kb kc jy (fun kd ke => fin k6 ke))
        ·intro k1 k2 k3 k4 k5 Q k6; have k7 : k1 41 = vb (decide (js < 0)) := k4 5 41 (by kernel_rfl) (by kernel_rfl); have k8 : Ptr _ (k1 48) (jx : List Item) := k4 12 48 (by kernel_rfl) (by kernel_rfl); obtain ⟨k9, ka, kb⟩ : ∃ v, _ = v ∧ Ptr _ v _ := ⟨_, rfl, k8⟩; exact gt 41 k7 ju (ld ty54 ka kb (fun kc kd => fin k6 kd))
        ·intro k1 k2 k3 k4 k5 Q k6; have k7 : k1 41 = vb (decide (js < 0)) := k4 5 41 (by kernel_rfl) (by kernel_rfl); have k8 : V _ (k1 49) (jx : List Item) := k4 13 49 (by kernel_rfl) (by kernel_rfl); obtain ⟨k9, ka, kb⟩ : ∃ v, _ = v ∧ V _ v _ := ⟨_, rfl, k8⟩; refine gt 41 k7 ju (L_calls cal78 (args1 ka) (ref14_saves_ok N _ _ _ kb jz k0) (by decide) (fun kc kd ke kf => ?_)); have kg := Tch.ext (Ext.refl k2) ke; obtain rfl := kf.int; exact L_nil (k6 _ _ kg rfl)
        ·intro k1 k2 k3 k4 k5 Q k6; have k7 : k1 41 = vb (decide (js < 0)) := k4 5 41 (by kernel_rfl) (by kernel_rfl); have k8 : k1 45 = vi (jv) := k4 9 45 (by kernel_rfl) (by kernel_rfl); have k9 : k1 50 = vi (jz) := k4 14 50 (by kernel_rfl) (by kernel_rfl); exact gt 41 k7 ju (L_gtr k8 k9 (by decide) (fin k6 rfl))
        ·intro k1 k2 k3 k4 k5 Q k6; have k7 : k1 41 = vb (decide (js < 0)) := k4 5 41 (by kernel_rfl) (by kernel_rfl); have k8 : k1 51 = vb (decide (jz < jv)) := k4 15 51 (by kernel_rfl) (by kernel_rfl); exact pf k7 ju k8 (fin k6 rfl)
        ·intro k1 k2 k3 k4 k5; have k6 := Tch.ext ji k3; have k7 : k1 0 = w0 := (k5 0 (by kernel_rfl)).trans jl; have k8 : k1 1 = w1 := (k5 1 (by kernel_rfl)).trans jm; have k9 : k1 8 = vi (jd) := (k5 8 (by kernel_rfl)).trans jk; have ka : k1 52 = vb (decide (jz < jv)) := k4 16 52 (by kernel_rfl); exact then_n ⟨k2, (decide (jz < jv)), rfl, k6, k3.le, Option.some.inj hr, ka, k7, k8, k9⟩
      ·rintro js jt ⟨ju, jr, rfl, jv, jw, jp, jx, jy, jz, k0⟩
       subst jp
       have hr := jq
       try dsimp only at hr
       refine W_cond _ jx (fun k1 => ?_) (fun k1 => ?_)
       ·have hr := ite_t k1 hr; refine sr (asg (rv (Value.slice none 0 0)) (asg (rv (Value.slice none 0 0)) (asg (rv (vi 3)) (nn (W_ret (block_r (then_r (then_r (block_r ?_))))))))); obtain rfl := Option.some.inj hr; have hr := jc; (try dsimp only at hr); refine then_r (then_r ?_); obtain rfl := Option.some.inj hr; exact done3 (Or.inl rfl) Tryz.results29 rfl rfl rfl ⟨_, _, rfl, rfl, jv, _, _, _, rfl, Vnil, Vnil, Vint⟩
       ·have hr := ite_f k1 hr; refine W_skip (block_n (then_n (W_region (mv k0 ?_)))); obtain ⟨k2, hr⟩ := chk_some hr; exact ad (rv (vi jd)) (rv (vi 1)) k2 (asg (rv (vi (jd + 1))) (nn ⟨je, Nat.lt_succ_self _, ⟨ju, (jd + 1), rfl, jv, (jj.trans jw), hr, rfl, jy, jz⟩⟩))
     ·have hr := ite_f jn hr; refine W_exit (then_x (then_x (block_here ?_))); exact then_n ⟨jh, rfl, ji, jj, Option.some.inj hr, jl, jm⟩
   ·rintro jd je ⟨jf, rfl, jg, jh, jb, ji, jj⟩
    subst jb
    have hr := jc
    try dsimp only at hr
    refine then_n (sr (L_buildSlice (xs := ([] : List Int)) Tryz.underlying38 tyz3 Parts_nil Vs.nil rfl (by decide) (by decide) (fun jk jl jm jn jo => ?_)))
    have jp := Tch.ext jg jm
    refine mv jj ?_
    obtain ⟨jq, hr⟩ := chk_some hr
    refine L_append (xs := ([] : List Int)) (B := s0.w.heap.size) Tryz.underlying38 tyz3 (rv jl) (rv w1) ((jn.base jg.size)) (jp.size) (h1.mono (j5.le.trans (jh.trans jm.le))) jq.1 jq.2 (by decide) (fun jr js jt => asg (rv jr) ?_)
    obtain ⟨ju, jv, jw, jx⟩ := thaw2 flat3 jm jn jt
    rw [← jv]
    have jy := Tch.ext jg jw
    refine nn (W_seq (sr (asg (rv (vb true)) (nn ?_))))
    obtain ⟨jz, k0, k1⟩ := bind_some hr
    refine W_cut (fun f w => ∃ (s : St) (k2 : List Int), s.w = w ∧ Ext s0 s ∧ Le ju s ∧ k2 = jz ∧ f 0 = w0 ∧ f 9 = jr ∧ ArrS s s0.w.heap.size 3 jr k2) ?_ ?_
    ·refine W_block (W_loop (fun m f w => ∃ (s : St) (k3 : Bool) (k4 : List Int), s.w = w ∧ Ext s0 s ∧ Le ju s ∧ ref14_Line_l2 N a0 m k3 k4 = some jz ∧ f 10 = vb k3 ∧ f 0 = w0 ∧ f 9 = jr ∧ ArrS s s0.w.heap.size 3 jr k4) N ⟨ju, true, (([] : List Int) ++ a1), rfl, jy, (Le.refl _), k0, rfl, ji, rfl, (jx.base jg.size)⟩ ?_)
     rintro k5 k6 k7 ⟨k8, k3, k4, rfl, k9, ka, hr, kb, kc, kd, ke⟩
     cases k5 with
     | zero => exact absurd hr (by simp [ref14_Line_l2])
     | succ k5 =>
      rw [ref14_Line_l2.eq_2] at hr
      refine W_seq (sr (mv kb (nn ?_)))
      refine W_cond _ (rv (vb k3)) (fun kf => ?_) (fun kf => ?_)
      ·have hr := ite_t kf hr
       refine W_skip (then_n (W_block (sr (asg (rv (vb false)) (nn (sr (asg (rv (vi 0)) (nn ?_))))))))
       obtain ⟨kg, kh, ki⟩ := bind_some hr
       refine W_cut (fun f w => ∃ (s : St) (kj : Bool) (kk : List Int), s.w = w ∧ Ext s0 s ∧ Le k8 s ∧ (kj, kk) = kg ∧ f 10 = vb kj ∧ f 0 = w0 ∧ f 9 = jr ∧ ArrS s s0.w.heap.size 3 jr kk) ?_ ?_
       ·refine W_block (W_loop (fun m f w => ∃ (s : St) (kl : Bool) (km : Int) (kn : List Int), s.w = w ∧ Ext s0 s ∧ Le k8 s ∧ ref14_Line_l3 N a0 m kl km kn = some kg ∧ f 10 = vb kl ∧ f 11 = vi km ∧ f 0 = w0 ∧ f 9 = jr ∧ ArrS s s0.w.heap.size 3 jr kn) N ⟨k8, false, 0, k4, rfl, k9, (Le.refl _), kh, rfl, rfl, kc, kd, ke⟩ ?_)
        rintro ko kp kq ⟨kr, kl, km, kn, rfl, ks, kt, hr, ku, kv, kw, kx, ky⟩
        cases ko with
        | zero => exact absurd hr (by simp [ref14_Line_l3])
        | succ ko =>
         rw [ref14_Line_l3.eq_2] at hr
         refine W_seq (sr (mv kv (mv kw (ln Tryz.underlying53 (rv w0) (h0.mono (j5.le.trans (jh.trans (jw.le.trans (ka.trans kt))))) (ls (rv (vi km)) (rv (vi ((a0.length : Int)))) (nn ?_))))))
         refine W_cond _ (rv (vb (decide (km < (a0.length : Int))))) (fun kz => ?_) (fun kz => ?_)
         ·have hr := ite_t kz hr
          refine W_skip (then_n (W_seq (W_block (sr (asg (rv (vi 0)) (nn ?_))))))
          obtain ⟨g0, g1, g2⟩ := bind_some hr
          refine W_cut (fun f w => ∃ (s : St) (g3 : Bool) (g4 : List Int), s.w = w ∧ Ext s0 s ∧ Le kr s ∧ (g3, g4) = g0 ∧ f 10 = vb g3 ∧ f 0 = w0 ∧ f 9 = jr ∧ f 11 = vi (km) ∧ ArrS s s0.w.heap.size 3 jr g4) ?_ ?_
          ·refine W_block (W_loop (fun m f w => ∃ (s : St) (g5 : Bool) (g6 : Int) (g7 : List Int), s.w = w ∧ Ext s0 s ∧ Le kr s ∧ ref14_Line_l4 N a0 km m g5 g6 g7 = some g0 ∧ f 10 = vb g5 ∧ f 12 = vi g6 ∧ f 0 = w0 ∧ f 9 = jr ∧ f 11 = vi (km) ∧ ArrS s s0.w.heap.size 3 jr g7) N ⟨kr, kl, 0, kn, rfl, ks, (Le.refl _), g1, ku, rfl, kw, kx, kv, ky⟩ ?_)
           rintro g8 g9 ga ⟨gb, g5, g6, g7, rfl, gc, gd, hr, gg, gh, gi, gj, gk, gl⟩
           cases g8 with
           | zero => exact absurd hr (by simp [ref14_Line_l4])
           | succ g8 =>
            rw [ref14_Line_l4.eq_2] at hr
            refine W_seq (sr (mv gh (mv gi (mv gk ?_))))
            obtain ⟨gm, gn, hr⟩ := bind_some hr
            refine ix Tryz.underlying53 ty54.inf (rv w0) (h0.mono (j5.le.trans (jh.trans (jw.le.trans (ka.trans (kt.trans gd)))))) (rv (vi km)) gn (fun go gp => ld ty54 (rv go) gp (fun gq gr => ln Tryz.underlying54 (rv gq) gr (ls (rv (vi g6)) (rv (vi ((gm.length : Int)))) (nn ?_))))
            refine W_cond _ (rv (vb (decide (g6 < (gm.length : Int))))) (fun gs => ?_) (fun gs => ?_)
            ·have hr := ite_t gs hr
             refine W_skip (then_n (W_seq (W_block (W_seq ?_))))
             obtain ⟨gu, gv, gw⟩ := bind_some hr
             refine W_seq_cut (fun f w => ∃ (s : St) (gx : Bool), s.w = w ∧ Ext s0 s ∧ Le gb s ∧ gx = gu ∧ f 93 = vb gx ∧ f 0 = w0 ∧ f 9 = jr ∧ f 10 = vb (g5) ∧ f 11 = vi (km) ∧ f 12 = vi (g6) ∧ ArrS s s0.w.heap.size 3 jr g7) ?_ ?_
             ·have hr := gv
              obtain ⟨gy, gz, hr⟩ := bind_some hr
              obtain ⟨u0, u1, hr⟩ := bind_some hr
              rcases tf (!decide (u0.Kind = 3)) with u2 | u2
              ·have hr := ite_t u2 hr
               refine W_draws mixed (by kernel_rfl) [PV.data (a0 : List (List Item)), PV.eq (vi km), PV.ptr (gy : List Item), PV.data (gy : List Item), PV.eq (vi g6), PV.ptr (u0 : Item), PV.ptr (u0.Kind : Int), PV.eq (vi (u0.Kind)), PV.eq (vb (!decide (u0.Kind = 3))), PV.eq (vb (!decide (u0.Kind = 3))), PV.eq (undef), PV.eq (undef), PV.eq (undef), PV.eq (undef), PV.eq (undef), PV.eq (undef), PV.eq (undef), PV.eq (undef), PV.eq (undef), PV.eq (undef), PV.eq (undef), PV.eq (vb true)] (Steps_cons ?_ (Steps_cons ?_ (Steps_cons ?_ (Steps_cons ?_ (Steps_cons ?_ (Steps_cons ?_ (Steps_cons ?_ (Steps_cons ?_ (Steps_cons ?_ (Steps_cons ?_ (Steps_cons ?_ (Steps_cons ?_ (Steps_cons ?_ (Steps_cons ?_ (Steps_cons ?_ (Steps_cons ?_ (Steps_cons ?_ (Steps_cons ?_ (Steps_cons ?_ (Steps_cons ?_ (Steps_cons ?_ (Steps_cons ?_ Steps_nil)))))))))))))))))))))) ?_
               ·intro u3 u4 u5 u6 u7 Q u9; have ua : u3 0 = w0 := (u7 0 (by kernel_rfl)).trans gi; exact mv ua (fin u9 (h0.mono (j5.le.trans (jh.trans (jw.le.trans (ka.trans (kt.trans (gd.trans u5.le))))))))
               ·intro u3 u4 u5 u6 u7 Q u9; have ua : u3 11 = vi (km) := (u7 11 (by kernel_rfl)).trans gk; exact mv ua (fin u9 rfl)
               ·intro u3 u4 u5 u6 u7 Q u9; have ua : V _ (u3 72) (a0 : List (List Item)) := u6 0 72 (by kernel_rfl) (by kernel_rfl); obtain ⟨ub, uc, ud⟩ : ∃ v, _ = v ∧ V _ v _ := ⟨_, rfl, ua⟩; have ue : u3 73 = vi (km) := u6 1 73 (by kernel_rfl) (by kernel_rfl); exact ix Tryz.underlying53 ty54.inf uc ud ue gz (fun uf ug => fin u9 ug)
               ·intro u3 u4 u5 u6 u7 Q u9; have ua : Ptr _ (u3 74) (gy : List Item) := u6 2 74 (by kernel_rfl) (by kernel_rfl); obtain ⟨ub, uc, ud⟩ : ∃ v, _ = v ∧ Ptr _ v _ := ⟨_, rfl, ua⟩; exact ld ty54 uc ud (fun ue uf => fin u9 uf)
               ·intro u3 u4 u5 u6 u7 Q u9; have ua : u3 12 = vi (g6) := (u7 12 (by kernel_rfl)).trans gh; exact mv ua (fin u9 rfl)
               ·intro u3 u4 u5 u6 u7 Q u9; have ua : V _ (u3 75) (gy : List Item) := u6 3 75 (by kernel_rfl) (by kernel_rfl); obtain ⟨ub, uc, ud⟩ : ∃ v, _ = v ∧ V _ v _ := ⟨_, rfl, ua⟩; have ue : u3 76 = vi (g6) := u6 4 76 (by kernel_rfl) (by kernel_rfl); exact ix Tryz.underlying54 ty146.inf uc ud ue u1 (fun uf ug => fin u9 ug)
               ·intro u3 u4 u5 u6 u7 Q u9; have ua : Ptr _ (u3 77) (u0 : Item) := u6 5 77 (by kernel_rfl) (by kernel_rfl); obtain ⟨ub, uc, ud⟩ : ∃ v, _ = v ∧ Ptr _ v _ := ⟨_, rfl, ua⟩; exact fa fld146_0 Item.of_Kind uc ud (fun ue uf => fin u9 uf)
               ·intro u3 u4 u5 u6 u7 Q u9; have ua : Ptr _ (u3 78) (u0.Kind : Int) := u6 6 78 (by kernel_rfl) (by kernel_rfl); obtain ⟨ub, uc, ud⟩ : ∃ v, _ = v ∧ Ptr _ v _ := ⟨_, rfl, ua⟩; exact li ty3 uc ud (fin u9 rfl)
               ·intro u3 u4 u5 u6 u7 Q u9; have ua : u3 79 = vi (u0.Kind) := u6 7 79 (by kernel_rfl) (by kernel_rfl); exact ne ua (rv (vi 3)) (fin u9 rfl)
               ·intro u3 u4 u5 u6 u7 Q u9; have ua : u3 80 = vb (!decide (u0.Kind = 3)) := u6 8 80 (by kernel_rfl) (by kernel_rfl); exact mv ua (fin u9 rfl)
               ·intro u3 u4 u5 u6 u7 Q u9; have ua : u3 81 = vb (!decide (u0.Kind = 3)) := u6 9 81 (by kernel_rfl) (by kernel_rfl); exact gf 81 ua u2 (fin u9 rfl)
               ·intro u3 u4 u5 u6 u7 Q u9; have ua : u3 81 = vb (!decide (u0.Kind = 3)) := u6 9 81 (by kernel_rfl) (by kernel_rfl); exact gf 81 ua u2 (fin u9 rfl)
               ·intro u3 u4 u5 u6 u7 Q u9; have ua : u3 81 = vb (!decide (u0.Kind = 3)) := u6 9 81 (by kernel_rfl) (by kernel_rfl); exact gf 81 ua u2 (fin u9 rfl)
               ·intro u3 u4 u5 u6 u7 Q u9; have ua : u3 81 = vb (!decide (u0.Kind = 3)) := u6 9 81 (by kernel_rfl) (by kernel_rfl); exact gf 81 ua u2 (fin u9 rfl)
               ·intro u3 u4 u5 u6 u7 Q u9; have ua : u3 81 = vb (!decide (u0.Kind = 3)) := u6 9 81 (by kernel_rfl) (by kernel_rfl); exact gf 81 ua u2 (fin u9 rfl)
               ·intro u3 u4 u5 u6 u7 Q u9; have ua : u3 81 = vb (!decide (u0.Kind = 3)) := u6 9 81 (by kernel_rfl) (by kernel_rfl); exact gf 81 ua u2 (fin u9 rfl)
               ·intro u3 u4 u5 u6 u7 Q u9; have ua : u3 81 = vb (!decide (u0.Kind = 3)) := u6 9 81 (by kernel_rfl) (by kernel_rfl); exact gf 81 ua u2 (fin u9 rfl)
               ·intro u3 u4 u5 u6 u7 Q u9; have ua : u3 81 = vb (!decide (u0.Kind = 3)) := u6 9 81 (by kernel_rfl) (by kernel_rfl); exact gf 81 ua u2 (fin u9 rfl)
               ·intro u3 u4 u5 u6 u7 Q u9; have ua : u3 81 = vb (!decide (u0.Kind = 3)) := u6 9 81 (by kernel_rfl) (by kernel_rfl); exact gf 81 ua u2 (fin u9 rfl)
               ·intro u3 u4 u5 u6 u7 Q u9; have ua : u3 81 = vb (!decide (u0.Kind = 3)) := u6 9 81 (by kernel_rfl) (by kernel_rfl); exact gf 81 ua u2 (fin u9 rfl)
               ·intro u3 u4 u5 u6 u7 Q u9; have ua : u3 81 = vb (!decide (u0.Kind = 3)) := u6 9 81 (by kernel_rfl) (by kernel_rfl); exact gf 81 ua u2 (fin u9 rfl)
               ·intro u3 u4 u5 u6 u7 Q u9; have ua : u3 81 = vb (!decide (u0.Kind = 3)) := u6 9 81 (by kernel_rfl) (by kernel_rfl); exact pt ua u2 (rv (vb true)) (fin u9 rfl)
               ·intro u3 u4 u5 u6 u7; have u9 := Tch.ext gc u5; have ua : u3 0 = w0 := (u7 0 (by kernel_rfl)).trans gi; have ub : u3 9 = jr := (u7 9 (by kernel_rfl)).trans gj; have uc : u3 10 = vb (g5) := (u7 10 (by kernel_rfl)).trans gg; have ud : u3 11 = vi (km) := (u7 11 (by kernel_rfl)).trans gk; have ue : u3 12 = vi (g6) := (u7 12 (by kernel_rfl)).trans gh; have uf : u3 93 = vb (true) := u6 21 93 (by kernel_rfl); exact then_n ⟨u4, true, rfl, u9, u5.le, Option.some.inj hr, uf, ua, ub, uc, ud, ue, (gl).ext u5⟩
              ·have hr := ite_f u2 hr
               obtain ⟨u3, u4, hr⟩ := bind_some hr
               obtain ⟨u5, u6, hr⟩ := bind_some hr
               obtain ⟨u7, u9, hr⟩ := bind_some hr
               refine W_draws mixed (by kernel_rfl) [PV.data (a0 : List (List Item)), PV.eq (vi km), PV.ptr (gy : List Item), PV.data (gy : List Item), PV.eq (vi g6), PV.ptr (u0 : Item), PV.ptr (u0.Kind : Int), PV.eq (vi (u0.Kind)), PV.eq (vb (!decide (u0.Kind = 3))), PV.eq (vb (!decide (u0.Kind = 3))), PV.data (a0 : List (List Item)), PV.eq (vi km), PV.ptr (u3 : List Item), PV.data (u3 : List Item), PV.eq (vi g6), PV.eq (jr), PV.eq (vi km), PV.eq (elemP jr (km) 1 0), PV.eq (vi u5), PV.eq (vb u7), PV.eq (vb (!u7)), PV.eq (vb (!u7))] (Steps_cons ?_ (Steps_cons ?_ (Steps_cons ?_ (Steps_cons ?_ (Steps_cons ?_ (Steps_cons ?_ (Steps_cons ?_ (Steps_cons ?_ (Steps_cons ?_ (Steps_cons ?_ (Steps_cons ?_ (Steps_cons ?_ (Steps_cons ?_ (Steps_cons ?_ (Steps_cons ?_ (Steps_cons ?_ (Steps_cons ?_ (Steps_cons ?_ (Steps_cons ?_ (Steps_cons ?_ (Steps_cons ?_ (Steps_cons ?_ Steps_nil)))))))))))))))))))))) ?_
               ·intro ua ub uc ud ue Q uf; have ug : ua 0 = w0 := (ue 0 (by kernel_rfl)).trans gi; exact mv ug (fin uf (h0.mono (j5.le.trans (jh.trans (jw.le.trans (ka.trans (kt.trans (gd.trans uc.le))))))))
               ·intro ua ub uc ud ue Q uf; have ug : ua 11 = vi (km) := (ue 11 (by kernel_rfl)).trans gk; exact mv ug (fin uf rfl)
               ·intro ua ub uc ud ue Q uf; have ug : V _ (ua 72) (a0 : List (List Item)) := ud 0 72 (by kernel_rfl) (by kernel_rfl); obtain ⟨uh, ui, uj⟩ : ∃ v, _ = v ∧ V _ v _ := ⟨_, rfl, ug⟩; have uk : ua 73 = vi (km) := ud 1 73 (by kernel_rfl) (by kernel_rfl); exact ix Tryz.underlying53 ty54.inf ui uj uk gz (fun ul um => fin uf um)
               ·intro ua ub uc ud ue Q uf; have ug : Ptr _ (ua 74) (gy : List Item) := ud 2 74 (by kernel_rfl) (by kernel_rfl); obtain ⟨uh, ui, uj⟩ : ∃ v, _ = v ∧ Ptr _ v _ := ⟨_, rfl, ug⟩; exact ld ty54 ui uj (fun uk ul => fin uf ul)
               ·intro ua ub uc ud ue Q uf; have ug : ua 12 = vi (g6) := (ue 12 (by kernel_rfl)).trans gh; exact mv ug (fin uf rfl)
               ·intro ua ub uc ud ue Q uf; have ug : V _ (ua 75) (gy : List Item) := ud 3 75 (by kernel_rfl) (by kernel_rfl); obtain ⟨uh, ui, uj⟩ : ∃ v, _ = v ∧ V _ v _ := ⟨_, rfl, ug⟩; have uk : ua 76 = vi (g6) := ud 4 76 (by kernel_rfl) (by kernel_rfl); exact ix Tryz.underlying54 ty146.inf ui uj uk u1 (fun ul um => fin uf um)
               ·intro ua ub uc ud ue Q uf; have ug : Ptr _ (ua 77) (u0 : Item) := ud 5 77 (by kernel_rfl) (by kernel_rfl); obtain ⟨uh, ui, uj⟩ : ∃ v, _ = v ∧ Ptr _ v _ := ⟨_, rfl, ug⟩; exact fa fld146_0 Item.of_Kind ui uj (fun uk ul => fin uf ul)
               ·intro ua ub uc ud ue Q uf; have ug : Ptr _ (ua 78) (u0.Kind : Int) := ud 6 78 (by kernel_rfl) (by kernel_rfl); obtain ⟨uh, ui, uj⟩ : ∃ v, _ = v ∧ Ptr _ v _ := ⟨_, rfl, ug⟩; exact li ty3 ui uj (fin uf rfl)
               ·intro ua ub uc ud ue Q uf; have ug : ua 79 = vi (u0.Kind) := ud 7 79 (by kernel_rfl) (by kernel_rfl); exact ne ug (rv (vi 3)) (fin uf rfl)
               ·intro ua ub uc ud ue Q uf; have ug : ua 80 = vb (!decide (u0.Kind = 3)) := ud 8 80 (by kernel_rfl) (by kernel_rfl); exact mv ug (fin uf rfl)
               ·intro ua ub uc ud ue Q uf; have ug : ua 0 = w0 := (ue 0 (by kernel_rfl)).trans gi; have uh : ua 81 = vb (!decide (u0.Kind = 3)) := ud 9 81 (by kernel_rfl) (by kernel_rfl); exact gt 81 uh u2 (mv ug (fin uf (h0.mono (j5.le.trans (jh.trans (jw.le.trans (ka.trans (kt.trans (gd.trans uc.le)))))))))
               ·intro ua ub uc ud ue Q uf; have ug : ua 11 = vi (km) := (ue 11 (by kernel_rfl)).trans gk; have uh : ua 81 = vb (!decide (u0.Kind = 3)) := ud 9 81 (by kernel_rfl) (by kernel_rfl); exact gt 81 uh u2 (mv ug (fin uf rfl))
               ·intro ua ub uc ud ue Q uf; have ug : ua 81 = vb (!decide (u0.Kind = 3)) := ud 9 81 (by kernel_rfl) (by kernel_rfl); have uh : V _ (ua 82) (a0 : List (List Item)) := ud 10 82 (by kernel_rfl) (by kernel_rfl); obtain ⟨ui, uj, uk⟩ : ∃ v, _ = v ∧ V _ v _ := ⟨_, rfl, uh⟩; have ul : ua 83 = vi (km) := ud 11 83 (by kernel_rfl) (by kernel_rfl); exact gt 81 ug u2 (ix Tryz.underlying53 ty54.inf uj uk ul u4 (fun um un => fin uf un))
               ·intro ua ub uc ud ue Q uf; have ug : ua 81 = vb (!decide (u0.Kind = 3)) := ud 9 81 (by kernel_rfl) (by kernel_rfl); have uh : Ptr _ (ua 84) (u3 : List Item) := ud 12 84 (by kernel_rfl) (by kernel_rfl); obtain ⟨ui, uj, uk⟩ : ∃ v, _ = v ∧ Ptr _ v _ := ⟨_, rfl, uh⟩; exact gt 81 ug u2 (ld ty54 uj uk (fun ul um => fin uf um))
               ·intro ua ub uc ud ue Q uf; have ug : ua 12 = vi (g6) := (ue 12 (by kernel_rfl)).trans gh; have uh : ua 81 = vb (!decide (u0.Kind = 3)) := ud 9 81 (by kernel_rfl) (by kernel_rfl); exact gt 81 uh u2 (mv ug (fin uf rfl))
               ·intro ua ub uc ud ue Q uf; have ug : ua 9 = jr := (ue 9 (by kernel_rfl)).trans gj; have uh : ua 81 = vb (!decide (u0.Kind = 3)) := ud 9 81 (by kernel_rfl) (by kernel_rfl); exact gt 81 uh u2 (mv ug (fin uf rfl))
               ·intro ua ub uc ud ue Q uf; have ug : ua 11 = vi (km) := (ue 11 (by kernel_rfl)).trans gk; have uh : ua 81 = vb (!decide (u0.Kind = 3)) := ud 9 81 (by kernel_rfl) (by kernel_rfl); exact gt 81 uh u2 (mv ug (fin uf rfl))
               ·intro ua ub uc ud ue Q uf; have ug : ua 81 = vb (!decide (u0.Kind = 3)) := ud 9 81 (by kernel_rfl) (by kernel_rfl); have uh : ua 87 = jr := ud 15 87 (by kernel_rfl) (by kernel_rfl); have ui : ua 88 = vi (km) := ud 16 88 (by kernel_rfl) (by kernel_rfl); exact gt 81 ug u2 (L_indexS Tryz.underlying38 ty3.inf uh ui ((gl).ext uc) u6 (by decide) (fin uf rfl))
               ·intro ua ub uc ud ue Q uf; have ug : ua 81 = vb (!decide (u0.Kind = 3)) := ud 9 81 (by kernel_rfl) (by kernel_rfl); have uh : ua 89 = elemP jr (km) 1 0 := ud 17 89 (by kernel_rfl) (by kernel_rfl); refine gt 81 ug u2 (L_loadS ty3 uh ((gl).ext uc) u6 rfl (by decide) (fun ui uj => ?_)); obtain rfl := uj.int; exact fin uf rfl
               ·intro ua ub uc ud ue Q uf; have ug : ua 81 = vb (!decide (u0.Kind = 3)) := ud 9 81 (by kernel_rfl) (by kernel_rfl); have uh : V _ (ua 85) (u3 : List Item) := ud 13 85 (by kernel_rfl) (by kernel_rfl); obtain ⟨ui, uj, uk⟩ : ∃ v, _ = v ∧ V _ v _ := ⟨_, rfl, uh⟩; have ul : ua 86 = vi (g6) := ud 14 86 (by kernel_rfl) (by kernel_rfl); have um : ua 90 = vi (u5) := ud 18 90 (by kernel_rfl) (by kernel_rfl); refine gt 81 ug u2 (L_calls cal79 (args3 uj ul um) (ref14_before_ok N _ _ _ uk g6 u5 u7 u9) (by decide) (fun un uo uq ur => ?_)); have us := Tch.ext (Ext.refl ub) uq; obtain rfl := ur.bool; exact L_nil (uf _ _ us rfl)
               ·intro ua ub uc ud ue Q uf; have ug : ua 81 = vb (!decide (u0.Kind = 3)) := ud 9 81 (by kernel_rfl) (by kernel_rfl); have uh : ua 91 = vb (u7) := ud 19 91 (by kernel_rfl) (by kernel_rfl); exact gt 81 ug u2 (L_not uh (by decide) (fin uf rfl))
               ·intro ua ub uc ud ue Q uf; have ug : ua 81 = vb (!decide (u0.Kind = 3)) := ud 9 81 (by kernel_rfl) (by kernel_rfl); have uh : ua 92 = vb (!u7) := ud 20 92 (by kernel_rfl) (by kernel_rfl); exact pf ug u2 uh (fin uf rfl)
               ·intro ua ub uc ud ue; have uf := Tch.ext gc uc; have ug : ua 0 = w0 := (ue 0 (by kernel_rfl)).trans gi; have uh : ua 9 = jr := (ue 9 (by kernel_rfl)).trans gj; have ui : ua 10 = vb (g5) := (ue 10 (by kernel_rfl)).trans gg; have uj : ua 11 = vi (km) := (ue 11 (by kernel_rfl)).trans gk; have uk : ua 12 = vi (g6) := (ue 12 (by kernel_rfl)).trans gh; have ul : ua 93 = vb (!u7) := ud 21 93 (by kernel_rfl); exact then_n ⟨ub, (!u7), rfl, uf, uc.le, Option.some.inj hr, ul, ug, uh, ui, uj, uk, (gl).ext uc⟩
             ·rintro gy gz ⟨u0, gx, rfl, u1, u2, gv, u3, u4, u5, u6, u7, u9, ua⟩
              subst gv
              have hr := gw
              try dsimp only at hr
              refine W_cond _ u3 (fun ub => ?_) (fun ub => ?_)
              ·have hr := ite_t ub hr; refine W_exit (then_x (block_here (then_n (W_region (mv u9 ?_))))); obtain ⟨uc, hr⟩ := chk_some hr; exact ad (rv (vi g6)) (rv (vi 1)) uc (asg (rv (vi (g6 + 1))) (nn ⟨g8, Nat.lt_succ_self _, ⟨u0, g5, (g6 + 1), g7, rfl, u1, (gd.trans u2), hr, u6, rfl, u4, u5, u7, ua⟩⟩))
              ·have hr := ite_f ub hr
               refine W_skip (then_n (sr (mv u4 (mv u4 (mv u7 ?_)))))
               obtain ⟨uc, ud, hr⟩ := bind_some hr
               refine ix Tryz.underlying53 ty54.inf (rv w0) (h0.mono (j5.le.trans (jh.trans (jw.le.trans (ka.trans (kt.trans (gd.trans u2))))))) (rv (vi km)) ud (fun ue uf => ld ty54 (rv ue) uf (fun ug uh => mv u9 ?_))
               obtain ⟨ui, uj, hr⟩ := bind_some hr
               refine ix Tryz.underlying54 ty146.inf (rv ug) uh (rv (vi g6)) uj (fun uk ul => fa fld146_1 Item.of_No (rv uk) ul (fun um un => li ty3 (rv um) un ?_))
               obtain ⟨uo, uq, hr⟩ := bind_some hr
               refine L_calls cal80 (args3 (rv w0) (rv (vi 2)) (rv (vi (ui.No)))) (ref14_place_ok N _ _ _ (h0.mono (j5.le.trans (jh.trans (jw.le.trans (ka.trans (kt.trans (gd.trans u2))))))) 2 ui.No uo uq) (by decide) (fun ur us ut uu => ?_)
               have uv := Tch.ext u1 ut
               obtain ⟨uw, ux, rfl, uy, uz⟩ := uu
               obtain rfl := uy.int
               obtain rfl := uz.int
               refine mv (rv (Value.tuple #[vi (uo.1), vi (uo.2)])) (xt (rv (Value.tuple #[vi (uo.1), vi (uo.2)])) (k := 0) rfl (xt (rv (Value.tuple #[vi (uo.1), vi (uo.2)])) (k := 1) rfl (asg (rv (vi (uo.1))) (asg (rv (vi (uo.2))) (nn (W_seq ?_))))))
               obtain ⟨t0, t1, hr⟩ := bind_some hr
               obtain ⟨t2, t3, hr⟩ := bind_some hr
               obtain ⟨t4, t5, hr⟩ := bind_some hr
               refine W_draws mixed (by kernel_rfl) [PV.data (a0 : List (List Item)), PV.eq (vi (uo.1)), PV.ptr (t0 : List Item), PV.data (t0 : List Item), PV.eq (vi (uo.2)), PV.eq (jr), PV.eq (vi (uo.1)), PV.eq (elemP jr (uo.1) 1 0), PV.eq (vi t2), PV.eq (vb t4), PV.eq (vb (!t4))] (Steps_cons ?_ (Steps_cons ?_ (Steps_cons ?_ (Steps_cons ?_ (Steps_cons ?_ (Steps_cons ?_ (Steps_cons ?_ (Steps_cons ?_ (Steps_cons ?_ (Steps_cons ?_ (Steps_cons ?_ Steps_nil))))))))))) ?_
               ·intro t6 t7 t8 t9 ta Q tb; have tc : t6 0 = w0 := (ta 0 (by kernel_rfl)).trans u4; exact mv tc (fin tb (h0.mono (j5.le.trans (jh.trans (jw.le.trans (ka.trans (kt.trans (gd.trans (u2.trans (ut.le.trans t8.le))))))))))
               ·intro t6 t7 t8 t9 ta Q tb; have tc : t6 13 = vi (uo.1) := (ta 13 (by kernel_rfl)).trans rfl; exact mv tc (fin tb rfl)
               ·intro t6 t7 t8 t9 ta Q tb; have tc : V _ (t6 107) (a0 : List (List Item)) := t9 0 107 (by kernel_rfl) (by kernel_rfl); obtain ⟨td, te, tg⟩ : ∃ v, _ = v ∧ V _ v _ := ⟨_, rfl, tc⟩; have th : t6 108 = vi (uo.1) := t9 1 108 (by kernel_rfl) (by kernel_rfl); exact ix Tryz.underlying53 ty54.inf te tg th t1 (fun ti tj => fin tb tj)
               ·intro t6 t7 t8 t9 ta Q tb; have tc : Ptr _ (t6 109) (t0 : List Item) := t9 2 109 (by kernel_rfl) (by kernel_rfl); obtain ⟨td, te, tg⟩ : ∃ v, _ = v ∧ Ptr _ v _ := ⟨_, rfl, tc⟩; exact ld ty54 te tg (fun th ti => fin tb ti)
               ·intro t6 t7 t8 t9 ta Q tb; have tc : t6 14 = vi (uo.2) := (ta 14 (by kernel_rfl)).trans rfl; exact mv tc (fin tb rfl)
               ·intro t6 t7 t8 t9 ta Q tb; have tc : t6 9 = jr := (ta 9 (by kernel_rfl)).trans u5; exact mv tc (fin tb rfl)
               ·intro t6 t7 t8 t9 ta Q tb; have tc : t6 13 = vi (uo.1) := (ta 13 (by kernel_rfl)).trans rfl; exact mv tc (fin tb rfl)
               ·intro t6 t7 t8 t9 ta Q tb; have tc : t6 112 = jr := t9 5 112 (by kernel_rfl) (by kernel_rfl); have td : t6 113 = vi (uo.1) := t9 6 113 (by kernel_rfl) (by kernel_rfl); exact L_indexS Tryz.underlying38 ty3.inf tc td (((ua).ext ut).ext t8) t3 (by decide) (fin tb rfl)
               ·intro t6 t7 t8 t9 ta Q tb; have tc : t6 114 = elemP jr (uo.1) 1 0 := t9 7 114 (by kernel_rfl) (by kernel_rfl); refine L_loadS ty3 tc (((ua).ext ut).ext t8) t3 rfl (by decide) (fun td te => ?_); obtain rfl := te.int; exact fin tb rfl
               ·intro t6 t7 t8 t9 ta Q tb; have tc : V _ (t6 110) (t0 : List Item) := t9 3 110 (by kernel_rfl) (by kernel_rfl); obtain ⟨td, te, tg⟩ : ∃ v, _ = v ∧ V _ v _ := ⟨_, rfl, tc⟩; have th : t6 111 = vi (uo.2) := t9 4 111 (by kernel_rfl) (by kernel_rfl); have ti : t6 115 = vi (t2) := t9 8 115 (by kernel_rfl) (by kernel_rfl); refine L_calls cal79 (args3 te th ti) (ref14_before_ok N _ _ _ tg uo.2 t2 t4 t5) (by decide) (fun tj tk tl tm => ?_); have tn := Tch.ext (Ext.refl t7) tl; obtain rfl := tm.bool; exact L_nil (tb _ _ tn rfl)
               ·intro t6 t7 t8 t9 ta Q tb; have tc : t6 116 = vb (t4) := t9 9 116 (by kernel_rfl) (by kernel_rfl); exact L_not tc (by decide) (fin tb rfl)
               ·intro t6 t7 t8 t9 ta
                have tb := Tch.ext uv t8
                have tc : t6 0 = w0 := (ta 0 (by kernel_rfl)).trans u4
                have td : t6 9 = jr := (ta 9 (by kernel_rfl)).trans u5
                have te : t6 10 = vb (g5) := (ta 10 (by kernel_rfl)).trans u6
                have tg : t6 11 = vi (km) := (ta 11 (by kernel_rfl)).trans u7
                have th : t6 12 = vi (g6) := (ta 12 (by kernel_rfl)).trans u9
                have ti : t6 117 = vb (!t4) := t9 10 117 (by kernel_rfl)
                refine then_n ?_
                refine W_cond _ ti (fun tj => ?_) (fun tj => ?_)
                ·have hr := ite_t tj hr; refine sr (mv td (mv tg (mv tc (mv tg ?_)))); obtain ⟨tk, tl, hr⟩ := bind_some hr; refine ix Tryz.underlying53 ty54.inf (rv w0) (h0.mono (j5.le.trans (jh.trans (jw.le.trans (ka.trans (kt.trans (gd.trans (u2.trans (ut.le.trans t8.le))))))))) (rv (vi km)) tl (fun tm tn => ld ty54 (rv tm) tn (fun tp tq => mv th ?_)); obtain ⟨tr, ts, hr⟩ := bind_some hr; refine L_slice_h Tryz.underlying54 ty146.inf (rv tp) tq (rv (vi g6)) ts (by decide) (fun tt tu => ?_); obtain ⟨tv, tw, hr⟩ := bind_some hr; refine L_calls cal78 (args1 (rv tt)) (ref14_saves_ok N _ _ _ tu tv tw) (by decide) (fun tx ty tz c0 => ?_); have c1 := Tch.ext tb tz; obtain rfl := c0.int; obtain ⟨c2, c3, hr⟩ := bind_some hr; refine L_indexS Tryz.underlying38 ty3.inf (rv jr) (rv (vi km)) ((((ua).ext ut).ext t8).ext tz) c3 (by decide) (L_storeS (xs := g7) ty3 (rv (elemP jr (km) 1 0)) (rv (vi tv)) Vint ((((ua).ext ut).ext t8).ext tz) c3 rfl (fun c4 c5 c6 => ?_)); have c7 := Tch.trans c1 c5 (fun k hk => Or.inr ((((((ua).ext ut).ext t8).ext tz).lt hk).1)); refine nn (W_region (asg (rv (vb true)) (L_nil (block_n (then_n (W_region (mv th ?_))))))); obtain ⟨c8, hr⟩ := chk_some hr; exact ad (rv (vi g6)) (rv (vi 1)) c8 (asg (rv (vi (g6 + 1))) (nn ⟨g8, Nat.lt_succ_self _, ⟨c4, true, (g6 + 1), (g7.set (km).toNat tv), rfl, c7, (gd.trans (u2.trans (ut.le.trans (t8.le.trans (tz.le.trans c5.le))))), hr, rfl, rfl, tc, td, tg, c6⟩⟩))
                ·have hr := ite_f tj hr; refine W_skip (block_n (then_n (W_region (mv th ?_)))); obtain ⟨tk, hr⟩ := chk_some hr; exact ad (rv (vi g6)) (rv (vi 1)) tk (asg (rv (vi (g6 + 1))) (nn ⟨g8, Nat.lt_succ_self _, ⟨t7, g5, (g6 + 1), g7, rfl, tb, (gd.trans (u2.trans (ut.le.trans t8.le))), hr, te, rfl, tc, td, tg, ((ua).ext ut).ext t8⟩⟩))
            ·have hr := ite_f gs hr; refine W_exit (then_x (then_x (block_here ?_))); exact then_n ⟨gb, g5, g7, rfl, gc, gd, Option.some.inj hr, gg, gi, gj, gk, gl⟩
          ·rintro g5 g6 ⟨g7, g3, g4, rfl, g8, g9, g1, ga, gb, gc, gd, gg⟩; subst g1; have hr := g2; (try dsimp only at hr); refine block_n (then_n (W_region (mv gd ?_))); obtain ⟨gh, hr⟩ := chk_some hr; exact ad (rv (vi km)) (rv (vi 1)) gh (asg (rv (vi (km + 1))) (nn ⟨ko, Nat.lt_succ_self _, ⟨g7, g3, (km + 1), g4, rfl, g8, (kt.trans g9), hr, ga, rfl, gb, gc, gg⟩⟩))
         ·have hr := ite_f kz hr; refine W_exit (then_x (then_x (block_here ?_))); exact then_n ⟨kr, kl, kn, rfl, ks, kt, Option.some.inj hr, ku, kw, kx, ky⟩
       ·rintro kl km ⟨kn, kj, kk, rfl, ko, kp, kh, kq, kr, ks, kt⟩; subst kh; have hr := ki; (try dsimp only at hr); refine block_n ?_; exact then_n ⟨k5, Nat.lt_succ_self _, ⟨kn, kj, kk, rfl, ko, (ka.trans kp), hr, kq, kr, ks, kt⟩⟩
      ·have hr := ite_f kf hr; refine W_exit (then_x (then_x (block_here ?_))); exact then_n ⟨k8, k4, rfl, k9, ka, Option.some.inj hr, kc, kd, ke⟩
    ·rintro k3 k4 ⟨k5, k2, rfl, k6, k7, k0, k8, k9, ka⟩
     subst k0
     have hr := k1
     try dsimp only at hr
     refine then_n (sr (asg (rv (Value.slice none 0 0)) (nn (W_seq (sr (asg (rv (vi 0)) (nn ?_)))))))
     obtain ⟨kb, kc, kd⟩ := bind_some hr
     refine W_cut (fun f w => ∃ (s : St) (ke : Value) (kf : List Int), s.w = w ∧ Ext s0 s ∧ Le k5 s ∧ kf = kb ∧ f 15 = ke ∧ V s ke kf ∧ f 9 = jr ∧ ArrS s s0.w.heap.size 3 jr k2) ?_ ?_
     ·refine W_block (W_loop (fun m f w => ∃ (s : St) (kg : Value) (kh : List Int) (ki : Int), s.w = w ∧ Ext s0 s ∧ Le k5 s ∧ ref14_Line_l5 N a0 k2 m kh ki = some kb ∧ f 15 = kg ∧ V s kg kh ∧ f 16 = vi ki ∧ f 0 = w0 ∧ f 9 = jr ∧ ArrS s s0.w.heap.size 3 jr k2) N ⟨k5, (Value.slice none 0 0), ([]), 0, rfl, k6, (Le.refl _), kc, rfl, Vnil, rfl, k8, k9, ka⟩ ?_)
      rintro kj kk kl ⟨km, kg, kh, ki, rfl, kn, ko, hr, kp, kq, kr, ks, kt, ku⟩
      cases kj with
      | zero => exact absurd hr (by simp [ref14_Line_l5])
      | succ kj =>
       rw [ref14_Line_l5.eq_2] at hr
       refine W_seq (sr (mv kr (mv ks (ln Tryz.underlying53 (rv w0) (h0.mono (j5.le.trans (jh.trans (jw.le.trans (k7.trans ko))))) (ls (rv (vi ki)) (rv (vi ((a0.length : Int)))) (nn ?_))))))
       refine W_cond _ (rv (vb (decide (ki < (a0.length : Int))))) (fun kv => ?_) (fun kv => ?_)
       ·have hr := ite_t kv hr
        refine W_skip (then_n (W_seq (W_block (sr (asg (rv (vi 0)) (nn ?_))))))
        obtain ⟨kw, kx, ky⟩ := bind_some hr
        refine W_cut (fun f w => ∃ (s : St) (kz : Value) (g0 : List Int), s.w = w ∧ Ext s0 s ∧ Le km s ∧ g0 = kw ∧ f 15 = kz ∧ V s kz g0 ∧ f 0 = w0 ∧ f 9 = jr ∧ f 16 = vi (ki) ∧ ArrS s s0.w.heap.size 3 jr k2) ?_ ?_
        ·refine W_block (W_loop (fun m f w => ∃ (s : St) (g1 : Value) (g2 : List Int) (g3 : Int), s.w = w ∧ Ext s0 s ∧ Le km s ∧ ref14_Line_l6 N a0 k2 ki m g2 g3 = some kw ∧ f 15 = g1 ∧ V s g1 g2 ∧ f 17 = vi g3 ∧ f 0 = w0 ∧ f 9 = jr ∧ f 16 = vi (ki) ∧ ArrS s s0.w.heap.size 3 jr k2) N ⟨km, kg, kh, 0, rfl, kn, (Le.refl _), kx, kp, kq, rfl, ks, kt, kr, ku⟩ ?_)
         rintro g4 g5 g6 ⟨g7, g1, g2, g3, rfl, g8, g9, hr, ga, gb, gc, gd, gg, gh, gi⟩
         cases g4 with
         | zero => exact absurd hr (by simp [ref14_Line_l6])
         | succ g4 =>
          rw [ref14_Line_l6.eq_2] at hr
          refine W_seq (sr (mv gc (mv gd (mv gh ?_))))
          obtain ⟨gj, gk, hr⟩ := bind_some hr
          refine ix Tryz.underlying53 ty54.inf (rv w0) (h0.mono (j5.le.trans (jh.trans (jw.le.trans (k7.trans (ko.trans g9)))))) (rv (vi ki)) gk (fun gl gm => ld ty54 (rv gl) gm (fun gn go => ln Tryz.underlying54 (rv gn) go (ls (rv (vi g3)) (rv (vi ((gj.length : Int)))) (nn ?_))))
          refine W_cond _ (rv (vb (decide (g3 < (gj.length : Int))))) (fun gp => ?_) (fun gp => ?_)
          ·have hr := ite_t gp hr
           refine W_skip (then_n (W_seq (W_block (W_seq ?_))))
           obtain ⟨gq, gr, gs⟩ := bind_some hr
           refine W_seq_cut (fun f w => ∃ (s : St) (gu : Bool), s.w = w ∧ Ext s0 s ∧ Le g7 s ∧ gu = gq ∧ f 164 = vb gu ∧ f 0 = w0 ∧ f 9 = jr ∧ f 15 = g1 ∧ f 16 = vi (ki) ∧ f 17 = vi (g3) ∧ ArrS s s0.w.heap.size 3 jr k2) ?_ ?_
           ·have hr := gr
            obtain ⟨gv, gw, hr⟩ := bind_some hr
            obtain ⟨gx, gy, hr⟩ := bind_some hr
            rcases tf (!decide (gx.Kind = 2)) with gz | gz
            ·have hr := ite_t gz hr
             refine W_draws mixed (by kernel_rfl) [PV.data (a0 : List (List Item)), PV.eq (vi ki), PV.ptr (gv : List Item), PV.data (gv : List Item), PV.eq (vi g3), PV.ptr (gx : Item), PV.ptr (gx.Kind : Int), PV.eq (vi (gx.Kind)), PV.eq (vb (!decide (gx.Kind = 2))), PV.eq (vb (!decide (gx.Kind = 2))), PV.eq (undef), PV.eq (undef), PV.eq (undef), PV.eq (undef), PV.eq (undef), PV.eq (undef), PV.eq (undef), PV.eq (undef), PV.eq (undef), PV.eq (undef), PV.eq (undef), PV.eq (vb true)] (Steps_cons ?_ (Steps_cons ?_ (Steps_cons ?_ (Steps_cons ?_ (Steps_cons ?_ (Steps_cons ?_ (Steps_cons ?_ (Steps_cons ?_ (Steps_cons ?_ (Steps_cons ?_ (Steps_cons ?_ (Steps_cons ?_ (Steps_cons ?_ (Steps_cons ?_ (Steps_cons ?_ (Steps_cons ?_ (Steps_cons ?_ (Steps_cons ?_ (Steps_cons ?_ (Steps_cons ?_ (Steps_cons ?_ (Steps_cons ?_ Steps_nil)))))))))))))))))))))) ?_
             ·intro u0 u1 u2 u3 u4 Q u5; have u6 : u0 0 = w0 := (u4 0 (by kernel_rfl)).trans gd; exact mv u6 (fin u5 (h0.mono (j5.le.trans (jh.trans (jw.le.trans (k7.trans (ko.trans (g9.trans u2.le))))))))
             ·intro u0 u1 u2 u3 u4 Q u5; have u6 : u0 16 = vi (ki) := (u4 16 (by kernel_rfl)).trans gh; exact mv u6 (fin u5 rfl)
             ·intro u0 u1 u2 u3 u4 Q u5; have u6 : V _ (u0 143) (a0 : List (List Item)) := u3 0 143 (by kernel_rfl) (by kernel_rfl); obtain ⟨u7, u9, ua⟩ : ∃ v, _ = v ∧ V _ v _ := ⟨_, rfl, u6⟩; have ub : u0 144 = vi (ki) := u3 1 144 (by kernel_rfl) (by kernel_rfl); exact ix Tryz.underlying53 ty54.inf u9 ua ub gw (fun uc ud => fin u5 ud)
             ·intro u0 u1 u2 u3 u4 Q u5; have u6 : Ptr _ (u0 145) (gv : List Item) := u3 2 145 (by kernel_rfl) (by kernel_rfl); obtain ⟨u7, u9, ua⟩ : ∃ v, _ = v ∧ Ptr _ v _ := ⟨_, rfl, u6⟩; exact ld ty54 u9 ua (fun ub uc => fin u5 uc)
             ·intro u0 u1 u2 u3 u4 Q u5; have u6 : u0 17 = vi (g3) := (u4 17 (by kernel_rfl)).trans gc; exact mv u6 (fin u5 rfl)
             ·intro u0 u1 u2 u3 u4 Q u5; have u6 : V _ (u0 146) (gv : List Item) := u3 3 146 (by kernel_rfl) (by kernel_rfl); obtain ⟨u7, u9, ua⟩ : ∃ v, _ = v ∧ V _ v _ := ⟨_, rfl, u6⟩; have ub : u0 147 = vi (g3) := u3 4 147 (by kernel_rfl) (by kernel_rfl); exact ix Tryz.underlying54 ty146.inf u9 ua ub gy (fun uc ud => fin u5 ud)
             ·intro u0 u1 u2 u3 u4 Q u5; have u6 : Ptr _ (u0 148) (gx : Item) := u3 5 148 (by kernel_rfl) (by kernel_rfl); obtain ⟨u7, u9, ua⟩ : ∃ v, _ = v ∧ Ptr _ v _ := ⟨_, rfl, u6⟩; exact fa fld146_0 Item.of_Kind u9 ua (fun ub uc => fin u5 uc)
             ·intro u0 u1 u2 u3 u4 Q u5; have u6 : Ptr _ (u0 149) (gx.Kind : Int) := u3 6 149 (by kernel_rfl) (by kernel_rfl); obtain ⟨u7, u9, ua⟩ : ∃ v, _ = v ∧ Ptr _ v _ := ⟨_, rfl, u6⟩; exact li ty3 u9 ua (fin u5 rfl)
             ·intro u0 u1 u2 u3 u4 Q u5; have u6 : u0 150 = vi (gx.Kind) := u3 7 150 (by kernel_rfl) (by kernel_rfl); exact ne u6 (rv (vi 2)) (fin u5 rfl)
             ·intro u0 u1 u2 u3 u4 Q u5; have u6 : u0 151 = vb (!decide (gx.Kind = 2)) := u3 8 151 (by kernel_rfl) (by kernel_rfl); exact mv u6 (fin u5 rfl)
             ·intro u0 u1 u2 u3 u4 Q u5; have u6 : u0 152 = vb (!decide (gx.Kind = 2)) := u3 9 152 (by kernel_rfl) (by kernel_rfl); exact gf 152 u6 gz (fin u5 rfl)
             ·intro u0 u1 u2 u3 u4 Q u5; have u6 : u0 152 = vb (!decide (gx.Kind = 2)) := u3 9 152 (by kernel_rfl) (by kernel_rfl); exact gf 152 u6 gz (fin u5 rfl)
             ·intro u0 u1 u2 u3 u4 Q u5; have u6 : u0 152 = vb (!decide (gx.Kind = 2)) := u3 9 152 (by kernel_rfl) (by kernel_rfl); exact gf 152 u6 gz (fin u5 rfl)
             ·intro u0 u1 u2 u3 u4 Q u5; have u6 : u0 152 = vb (!decide (gx.Kind = 2)) := u3 9 152 (by kernel_rfl) (by kernel_rfl); exact gf 152 u6 gz (fin u5 rfl)
             ·intro u0 u1 u2 u3 u4 Q u5; have u6 : u0 152 = vb (!decide (gx.Kind = 2)) := u3 9 152 (by kernel_rfl) (by kernel_rfl); exact gf 152 u6 gz (fin u5 rfl)
             ·intro u0 u1 u2 u3 u4 Q u5; have u6 : u0 152 = vb (!decide (gx.Kind = 2)) := u3 9 152 (by kernel_rfl) (by kernel_rfl); exact gf 152 u6 gz (fin u5 rfl)
             ·intro u0 u1 u2 u3 u4 Q u5; have u6 : u0 152 = vb (!decide (gx.Kind = 2)) := u3 9 152 (by kernel_rfl) (by kernel_rfl); exact gf 152 u6 gz (fin u5 rfl)
             ·intro u0 u1 u2 u3 u4 Q u5; have u6 : u0 152 = vb (!decide (gx.Kind = 2)) := u3 9 152 (by kernel_rfl) (by kernel_rfl); exact gf 152 u6 gz (fin u5 rfl)
             ·intro u0 u1 u2 u3 u4 Q u5; have u6 : u0 152 = vb (!decide (gx.Kind = 2)) := u3 9 152 (by kernel_rfl) (by kernel_rfl); exact gf 152 u6 gz (fin u5 rfl)
             ·intro u0 u1 u2 u3 u4 Q u5; have u6 : u0 152 = vb (!decide (gx.Kind = 2)) := u3 9 152 (by kernel_rfl) (by kernel_rfl); exact gf 152 u6 gz (fin u5 rfl)
             ·intro u0 u1 u2 u3 u4 Q u5; have u6 : u0 152 = vb (!decide (gx.Kind = 2)) := u3 9 152 (by kernel_rfl) (by kernel_rfl); exact gf 152 u6 gz (fin u5 rfl)
             ·intro u0 u1 u2 u3 u4 Q u5; have u6 : u0 152 = vb (!decide (gx.Kind = 2)) := u3 9 152 (by kernel_rfl) (by kernel_rfl); exact pt u6 gz (rv (vb true)) (fin u5 rfl)
             ·intro u0 u1 u2 u3 u4; have u5 := Tch.ext g8 u2; have u6 : u0 0 = w0 := (u4 0 (by kernel_rfl)).trans gd; have u7 : u0 9 = jr := (u4 9 (by kernel_rfl)).trans gg; have u9 : u0 15 = g1 := (u4 15 (by kernel_rfl)).trans ga; have ua : u0 16 = vi (ki) := (u4 16 (by kernel_rfl)).trans gh; have ub : u0 17 = vi (g3) := (u4 17 (by kernel_rfl)).trans gc; have uc : u0 164 = vb (true) := u3 21 164 (by kernel_rfl); exact then_n ⟨u1, true, rfl, u5, u2.le, Option.some.inj hr, uc, u6, u7, u9, ua, ub, (gi).ext u2⟩
            ·have hr := ite_f gz hr
             obtain ⟨u0, u1, hr⟩ := bind_some hr
             obtain ⟨u2, u3, hr⟩ := bind_some hr
             obtain ⟨u4, u5, hr⟩ := bind_some hr
             refine W_draws mixed (by kernel_rfl) [PV.data (a0 : List (List Item)), PV.eq (vi ki), PV.ptr (gv : List Item), PV.data (gv : List Item), PV.eq (vi g3), PV.ptr (gx : Item), PV.ptr (gx.Kind : Int), PV.eq (vi (gx.Kind)), PV.eq (vb (!decide (gx.Kind = 2))), PV.eq (vb (!decide (gx.Kind = 2))), PV.data (a0 : List (List Item)), PV.eq (vi ki), PV.ptr (u0 : List Item), PV.data (u0 : List Item), PV.eq (vi g3), PV.eq (jr), PV.eq (vi ki), PV.eq (elemP jr (ki) 1 0), PV.eq (vi u2), PV.eq (vb u4), PV.eq (vb (!u4)), PV.eq (vb (!u4))] (Steps_cons ?_ (Steps_cons ?_ (Steps_cons ?_ (Steps_cons ?_ (Steps_cons ?_ (Steps_cons ?_ (Steps_cons ?_ (Steps_cons ?_ (Steps_cons ?_ (Steps_cons ?_ (Steps_cons ?_ (Steps_cons ?_ (Steps_cons ?_ (Steps_cons ?_ (Steps_cons ?_ (Steps_cons ?_ (Steps_cons ?_ (Steps_cons ?_ (Steps_cons ?_ (Steps_cons ?_ (Steps_cons ?_ (Steps_cons ?_ Steps_nil)))))))))))))))))))))) ?_
             ·intro u6 u7 u9 ua ub Q uc; have ud : u6 0 = w0 := (ub 0 (by kernel_rfl)).trans gd; exact mv ud (fin uc (h0.mono (j5.le.trans (jh.trans (jw.le.trans (k7.trans (ko.trans (g9.trans u9.le))))))))
             ·intro u6 u7 u9 ua ub Q uc; have ud : u6 16 = vi (ki) := (ub 16 (by kernel_rfl)).trans gh; exact mv ud (fin uc rfl)
             ·intro u6 u7 u9 ua ub Q uc; have ud : V _ (u6 143) (a0 : List (List Item)) := ua 0 143 (by kernel_rfl) (by kernel_rfl); obtain ⟨ue, uf, ug⟩ : ∃ v, _ = v ∧ V _ v _ := ⟨_, rfl, ud⟩; have uh : u6 144 = vi (ki) := ua 1 144 (by kernel_rfl) (by kernel_rfl); exact ix Tryz.underlying53 ty54.inf uf ug uh gw (fun ui uj => fin uc uj)
             ·intro u6 u7 u9 ua ub Q uc; have ud : Ptr _ (u6 145) (gv : List Item) := ua 2 145 (by kernel_rfl) (by kernel_rfl); obtain ⟨ue, uf, ug⟩ : ∃ v, _ = v ∧ Ptr _ v _ := ⟨_, rfl, ud⟩; exact ld ty54 uf ug (fun uh ui => fin uc ui)
             ·intro u6 u7 u9 ua ub Q uc; have ud : u6 17 = vi (g3) := (ub 17 (by kernel_rfl)).trans gc; exact mv ud (fin uc rfl)
             ·intro u6 u7 u9 ua ub Q uc; have ud : V _ (u6 146) (gv : List Item) := ua 3 146 (by kernel_rfl) (by kernel_rfl); obtain ⟨ue, uf, ug⟩ : ∃ v, _ = v ∧ V _ v _ := ⟨_, rfl, ud⟩; have uh : u6 147 = vi (g3) := ua 4 147 (by kernel_rfl) (by kernel_rfl); exact ix Tryz.underlying54 ty146.inf uf ug uh gy (fun ui uj => fin uc uj)
             ·intro u6 u7 u9 ua ub Q uc; have ud : Ptr _ (u6 148) (gx : Item) := ua 5 148 (by kernel_rfl) (by kernel_rfl); obtain ⟨ue, uf, ug⟩ : ∃ v, _ = v ∧ Ptr _ v _ := ⟨_, rfl, ud⟩; exact fa fld146_0 Item.of_Kind uf ug (fun uh ui => fin uc ui)
             ·intro u6 u7 u9 ua ub Q uc; have ud : Ptr _ (u6 149) (gx.Kind : Int) := ua 6 149 (by kernel_rfl) (by kernel_rfl); obtain ⟨ue, uf, ug⟩ : ∃ v, _ = v ∧ Ptr _ v _ := ⟨_, rfl, ud⟩; exact li ty3 uf ug (fin uc rfl)
             ·intro u6 u7 u9 ua ub Q uc; have ud : u6 150 = vi (gx.Kind) := ua 7 150 (by kernel_rfl) (by kernel_rfl); exact ne ud (rv (vi 2)) (fin uc rfl)
             ·intro u6 u7 u9 ua ub Q uc; have ud : u6 151 = vb (!decide (gx.Kind = 2)) := ua 8 151 (by kernel_rfl) (by kernel_rfl); exact mv ud (fin uc rfl)
             ·intro u6 u7 u9 ua ub Q uc; have ud : u6 0 = w0 := (ub 0 (by kernel_rfl)).trans gd; have ue : u6 152 = vb (!decide (gx.Kind = 2)) := ua 9 152 (by kernel_rfl) (by kernel_rfl); exact gt 152 ue gz (mv ud (fin uc (h0.mono (j5.le.trans (jh.trans (jw.le.trans (k7.trans (ko.trans (g9.trans u9.le)))))))))
             ·intro u6 u7 u9 ua ub Q uc; have ud : u6 16 = vi (ki) := (ub 16 (by kernel_rfl)).trans gh; have ue : u6 152 = vb (!decide (gx.Kind = 2)) := ua 9 152 (by kernel_rfl) (by kernel_rfl); exact gt 152 ue gz (mv ud (fin uc rfl))
             ·intro u6 u7 u9 ua ub Q uc; have ud : u6 152 = vb (!decide (gx.Kind = 2)) := ua 9 152 (by kernel_rfl) (by kernel_rfl); have ue : V _ (u6 153) (a0 : List (List Item)) := ua 10 153 (by kernel_rfl) (by kernel_rfl); obtain ⟨uf, ug, uh⟩ : ∃ v, _ = v ∧ V _ v _ := ⟨_, rfl, ue⟩; have ui : u6 154 = vi (ki) := ua 11 154 (by kernel_rfl) (by kernel_rfl); exact gt 152 ud gz (ix Tryz.underlying53 ty54.inf ug uh ui u1 (fun uj uk => fin uc uk))
             ·intro u6 u7 u9 ua ub Q uc; have ud : u6 152 = vb (!decide (gx.Kind = 2)) := ua 9 152 (by kernel_rfl) (by kernel_rfl); have ue : Ptr _ (u6 155) (u0 : List Item) := ua 12 155 (by kernel_rfl) (by kernel_rfl); obtain ⟨uf, ug, uh⟩ : ∃ v, _ = v ∧ Ptr _ v _ := ⟨_, rfl, ue⟩; exact gt 152 ud gz (ld ty54 ug uh (fun ui uj => fin uc uj))
             ·intro u6 u7 u9 ua ub Q uc; have ud : u6 17 = vi (g3) := (ub 17 (by kernel_rfl)).trans gc; have ue : u6 152 = vb (!decide (gx.Kind = 2)) := ua 9 152 (by kernel_rfl) (by kernel_rfl); exact gt 152 ue gz (mv ud (fin uc rfl))
             ·intro u6 u7 u9 ua ub Q uc; have ud : u6 9 = jr := (ub 9 (by kernel_rfl)).trans gg; have ue : u6 152 = vb (!decide (gx.Kind = 2)) := ua 9 152 (by kernel_rfl) (by kernel_rfl); exact gt 152 ue gz (mv ud (fin uc rfl))
             ·intro u6 u7 u9 ua ub Q uc; have ud : u6 16 = vi (ki) := (ub 16 (by kernel_rfl)).trans gh; have ue : u6 152 = vb (!decide (gx.Kind = 2)) := ua 9 152 (by kernel_rfl) (by kernel_rfl); exact gt 152 ue gz (mv ud (fin uc rfl))
             ·intro u6 u7 u9 ua ub Q uc; have ud : u6 152 = vb (!decide (gx.Kind = 2)) := ua 9 152 (by kernel_rfl) (by kernel_rfl); have ue : u6 158 = jr := ua 15 158 (by kernel_rfl) (by kernel_rfl); have uf : u6 159 = vi (ki) := ua 16 159 (by kernel_rfl) (by kernel_rfl); exact gt 152 ud gz (L_indexS Tryz.underlying38 ty3.inf ue uf ((gi).ext u9) u3 (by decide) (fin uc rfl))
             ·intro u6 u7 u9 ua ub Q uc; have ud : u6 152 = vb (!decide (gx.Kind = 2)) := ua 9 152 (by kernel_rfl) (by kernel_rfl); have ue : u6 160 = elemP jr (ki) 1 0 := ua 17 160 (by kernel_rfl) (by kernel_rfl); refine gt 152 ud gz (L_loadS ty3 ue ((gi).ext u9) u3 rfl (by decide) (fun uf ug => ?_)); obtain rfl := ug.int; exact fin uc rfl
             ·intro u6 u7 u9 ua ub Q uc; have ud : u6 152 = vb (!decide (gx.Kind = 2)) := ua 9 152 (by kernel_rfl) (by kernel_rfl); have ue : V _ (u6 156) (u0 : List Item) := ua 13 156 (by kernel_rfl) (by kernel_rfl); obtain ⟨uf, ug, uh⟩ : ∃ v, _ = v ∧ V _ v _ := ⟨_, rfl, ue⟩; have ui : u6 157 = vi (g3) := ua 14 157 (by kernel_rfl) (by kernel_rfl); have uj : u6 161 = vi (u2) := ua 18 161 (by kernel_rfl) (by kernel_rfl); refine gt 152 ud gz (L_calls cal79 (args3 ug ui uj) (ref14_before_ok N _ _ _ uh g3 u2 u4 u5) (by decide) (fun uk ul um un => ?_)); have uo := Tch.ext (Ext.refl u7) um; obtain rfl := un.bool; exact L_nil (uc _ _ uo rfl)
             ·intro u6 u7 u9 ua ub Q uc; have ud : u6 152 = vb (!decide (gx.Kind = 2)) := ua 9 152 (by kernel_rfl) (by kernel_rfl); have ue : u6 162 = vb (u4) := ua 19 162 (by kernel_rfl) (by kernel_rfl); exact gt 152 ud gz (L_not ue (by decide) (fin uc rfl))
             ·intro u6 u7 u9 ua ub Q uc; have ud : u6 152 = vb (!decide (gx.Kind = 2)) := ua 9 152 (by kernel_rfl) (by kernel_rfl); have ue : u6 163 = vb (!u4) := ua 20 163 (by kernel_rfl) (by kernel_rfl); exact pf ud gz ue (fin uc rfl)
             ·intro u6 u7 u9 ua ub; have uc := Tch.ext g8 u9; have ud : u6 0 = w0 := (ub 0 (by kernel_rfl)).trans gd; have ue : u6 9 = jr := (ub 9 (by kernel_rfl)).trans gg; have uf : u6 15 = g1 := (ub 15 (by kernel_rfl)).trans ga; have ug : u6 16 = vi (ki) := (ub 16 (by kernel_rfl)).trans gh; have uh : u6 17 = vi (g3) := (ub 17 (by kernel_rfl)).trans gc; have ui : u6 164 = vb (!u4) := ua 21 164 (by kernel_rfl); exact then_n ⟨u7, (!u4), rfl, uc, u9.le, Option.some.inj hr, ui, ud, ue, uf, ug, uh, (gi).ext u9⟩
           ·rintro gv gw ⟨gx, gu, rfl, gy, gz, gr, u0, u1, u2, u3, u4, u5, u6⟩
            subst gr
            have hr := gs
            try dsimp only at hr
            refine W_cond _ u0 (fun u7 => ?_) (fun u7 => ?_)
            ·have hr := ite_t u7 hr; refine W_exit (then_x (block_here (then_n (W_region (mv u5 ?_))))); obtain ⟨u9, hr⟩ := chk_some hr; exact ad (rv (vi g3)) (rv (vi 1)) u9 (asg (rv (vi (g3 + 1))) (nn ⟨g4, Nat.lt_succ_self _, ⟨gx, g1, g2, (g3 + 1), rfl, gy, (g9.trans gz), hr, u3, (gb.mono gz), rfl, u1, u2, u4, u6⟩⟩))
            ·have hr := ite_f u7 hr
             refine W_skip (then_n (sr (mv u1 (mv u1 (mv u4 ?_)))))
             obtain ⟨u9, ua, hr⟩ := bind_some hr
             refine ix Tryz.underlying53 ty54.inf (rv w0) (h0.mono (j5.le.trans (jh.trans (jw.le.trans (k7.trans (ko.trans (g9.trans gz))))))) (rv (vi ki)) ua (fun ub uc => ld ty54 (rv ub) uc (fun ud ue => mv u5 ?_))
             obtain ⟨uf, ug, hr⟩ := bind_some hr
             refine ix Tryz.underlying54 ty146.inf (rv ud) ue (rv (vi g3)) ug (fun uh ui => fa fld146_1 Item.of_No (rv uh) ui (fun uj uk => li ty3 (rv uj) uk ?_))
             obtain ⟨ul, um, hr⟩ := bind_some hr
             refine L_calls cal80 (args3 (rv w0) (rv (vi 3)) (rv (vi (uf.No)))) (ref14_place_ok N _ _ _ (h0.mono (j5.le.trans (jh.trans (jw.le.trans (k7.trans (ko.trans (g9.trans gz))))))) 3 uf.No ul um) (by decide) (fun un uo uq ur => ?_)
             have us := Tch.ext gy uq
             obtain ⟨ut, uu, rfl, uv, uw⟩ := ur
             obtain rfl := uv.int
             obtain rfl := uw.int
             refine mv (rv (Value.tuple #[vi (ul.1), vi (ul.2)])) (xt (rv (Value.tuple #[vi (ul.1), vi (ul.2)])) (k := 0) rfl (xt (rv (Value.tuple #[vi (ul.1), vi (ul.2)])) (k := 1) rfl (asg (rv (vi (ul.1))) (asg (rv (vi (ul.2))) (nn ?_)))))
             obtain ⟨ux, uy, uz⟩ := bind_some hr
             refine W_seq_cut (fun f w => ∃ (s : St) (t0 : Bool), s.w = w ∧ Ext s0 s ∧ Le uo s ∧ t0 = ux ∧ f 192 = vb t0 ∧ f 0 = w0 ∧ f 9 = jr ∧ f 15 = g1 ∧ f 16 = vi (ki) ∧ f 17 = vi (g3) ∧ ArrS s s0.w.heap.size 3 jr k2) ?_ ?_
             ·have hr := uy
              rcases tf (decide (ul.1 < 0)) with t1 | t1
              ·have hr := ite_t t1 hr
               refine W_draws mixed (by kernel_rfl) [PV.eq (vi (ul.1)), PV.eq (vb (decide (ul.1 < 0))), PV.eq (vb (decide (ul.1 < 0))), PV.eq (undef), PV.eq (undef), PV.eq (undef), PV.eq (undef), PV.eq (undef), PV.eq (undef), PV.eq (undef), PV.eq (undef), PV.eq (undef), PV.eq (undef), PV.eq (undef), PV.eq (vb true)] (Steps_cons ?_ (Steps_cons ?_ (Steps_cons ?_ (Steps_cons ?_ (Steps_cons ?_ (Steps_cons ?_ (Steps_cons ?_ (Steps_cons ?_ (Steps_cons ?_ (Steps_cons ?_ (Steps_cons ?_ (Steps_cons ?_ (Steps_cons ?_ (Steps_cons ?_ (Steps_cons ?_ Steps_nil))))))))))))))) ?_
               ·intro t2 t3 t4 t5 t6 Q t7; have t8 : t2 18 = vi (ul.1) := (t6 18 (by kernel_rfl)).trans rfl; exact mv t8 (fin t7 rfl)
               ·intro t2 t3 t4 t5 t6 Q t7; have t8 : t2 178 = vi (ul.1) := t5 0 178 (by kernel_rfl) (by kernel_rfl); exact ls t8 (rv (vi 0)) (fin t7 rfl)
               ·intro t2 t3 t4 t5 t6 Q t7; have t8 : t2 179 = vb (decide (ul.1 < 0)) := t5 1 179 (by kernel_rfl) (by kernel_rfl); exact mv t8 (fin t7 rfl)
               ·intro t2 t3 t4 t5 t6 Q t7; have t8 : t2 180 = vb (decide (ul.1 < 0)) := t5 2 180 (by kernel_rfl) (by kernel_rfl); exact gf 180 t8 t1 (fin t7 rfl)
               ·intro t2 t3 t4 t5 t6 Q t7; have t8 : t2 180 = vb (decide (ul.1 < 0)) := t5 2 180 (by kernel_rfl) (by kernel_rfl); exact gf 180 t8 t1 (fin t7 rfl)
               ·intro t2 t3 t4 t5 t6 Q t7; have t8 : t2 180 = vb (decide (ul.1 < 0)) := t5 2 180 (by kernel_rfl) (by kernel_rfl); exact gf 180 t8 t1 (fin t7 rfl)
               ·intro t2 t3 t4 t5 t6 Q t7; have t8 : t2 180 = vb (decide (ul.1 < 0)) := t5 2 180 (by kernel_rfl) (by kernel_rfl); exact gf 180 t8 t1 (fin t7 rfl)
               ·intro t2 t3 t4 t5 t6 Q t7; have t8 : t2 180 = vb (decide (ul.1 < 0)) := t5 2 180 (by kernel_rfl) (by kernel_rfl); exact gf 180 t8 t1 (fin t7 rfl)
               ·intro t2 t3 t4 t5 t6 Q t7; have t8 : t2 180 = vb (decide (ul.1 < 0)) := t5 2 180 (by kernel_rfl) (by kernel_rfl); exact gf 180 t8 t1 (fin t7 rfl)
               ·intro t2 t3 t4 t5 t6 Q t7; have t8 : t2 180 = vb (decide (ul.1 < 0)) := t5 2 180 (by kernel_rfl) (by kernel_rfl); exact gf 180 t8 t1 (fin t7 rfl)
               ·intro t2 t3 t4 t5 t6 Q t7; have t8 : t2 180 = vb (decide (ul.1 < 0)) := t5 2 180 (by kernel_rfl) (by kernel_rfl); exact gf 180 t8 t1 (fin t7 rfl)
               ·intro t2 t3 t4 t5 t6 Q t7; have t8 : t2 180 = vb (decide (ul.1 < 0)) := t5 2 180 (by kernel_rfl) (by kernel_rfl); exact gf 180 t8 t1 (fin t7 rfl)
               ·intro t2 t3 t4 t5 t6 Q t7; have t8 : t2 180 = vb (decide (ul.1 < 0)) := t5 2 180 (by kernel_rfl) (by kernel_rfl); exact gf 180 t8 t1 (fin t7 rfl)
               ·intro t2 t3 t4 t5 t6 Q t7; have t8 : t2 180 = vb (decide (ul.1 < 0)) := t5 2 180 (by kernel_rfl) (by kernel_rfl); exact gf 180 t8 t1 (fin t7 rfl)
               ·intro t2 t3 t4 t5 t6 Q t7; have t8 : t2 180 = vb (decide (ul.1 < 0)) := t5 2 180 (by kernel_rfl) (by kernel_rfl); exact pt t8 t1 (rv (vb true)) (fin t7 rfl)
               ·intro t2 t3 t4 t5 t6; have t7 := Tch.ext us t4; have t8 : t2 0 = w0 := (t6 0 (by kernel_rfl)).trans u1; have t9 : t2 9 = jr := (t6 9 (by kernel_rfl)).trans u2; have ta : t2 15 = g1 := (t6 15 (by kernel_rfl)).trans u3; have tb : t2 16 = vi (ki) := (t6 16 (by kernel_rfl)).trans u4; have tc : t2 17 = vi (g3) := (t6 17 (by kernel_rfl)).trans u5; have td : t2 192 = vb (true) := t5 14 192 (by kernel_rfl); exact then_n ⟨t3, true, rfl, t7, t4.le, Option.some.inj hr, td, t8, t9, ta, tb, tc, ((u6).ext uq).ext t4⟩
              ·have hr := ite_f t1 hr
               obtain ⟨t2, t3, hr⟩ := bind_some hr
               obtain ⟨t4, t5, hr⟩ := bind_some hr
               obtain ⟨t6, t7, hr⟩ := bind_some hr
               refine W_draws mixed (by kernel_rfl) [PV.eq (vi (ul.1)), PV.eq (vb (decide (ul.1 < 0))), PV.eq (vb (decide (ul.1 < 0))), PV.data (a0 : List (List Item)), PV.eq (vi (ul.1)), PV.ptr (t2 : List Item), PV.data (t2 : List Item), PV.eq (vi (ul.2)), PV.eq (jr), PV.eq (vi (ul.1)), PV.eq (elemP jr (ul.1) 1 0), PV.eq (vi t4), PV.eq (vb t6), PV.eq (vb (!t6)), PV.eq (vb (!t6))] (Steps_cons ?_ (Steps_cons ?_ (Steps_cons ?_ (Steps_cons ?_ (Steps_cons ?_ (Steps_cons ?_ (Steps_cons ?_ (Steps_cons ?_ (Steps_cons ?_ (Steps_cons ?_ (Steps_cons ?_ (Steps_cons ?_ (Steps_cons ?_ (Steps_cons ?_ (Steps_cons ?_ Steps_nil))))))))))))))) ?_
               ·intro t8 t9 ta tb tc Q td; have te : t8 18 = vi (ul.1) := (tc 18 (by kernel_rfl)).trans rfl; exact mv te (fin td rfl)
               ·intro t8 t9 ta tb tc Q td; have te : t8 178 = vi (ul.1) := tb 0 178 (by kernel_rfl) (by kernel_rfl); exact ls te (rv (vi 0)) (fin td rfl)
               ·intro t8 t9 ta tb tc Q td; have te : t8 179 = vb (decide (ul.1 < 0)) := tb 1 179 (by kernel_rfl) (by kernel_rfl); exact mv te (fin td rfl)
               ·intro t8 t9 ta tb tc Q td; have te : t8 0 = w0 := (tc 0 (by kernel_rfl)).trans u1; have tg : t8 180 = vb (decide (ul.1 < 0)) := tb 2 180 (by kernel_rfl) (by kernel_rfl); exact gt 180 tg t1 (mv te (fin td (h0.mono (j5.le.trans (jh.trans (jw.le.trans (k7.trans (ko.trans (g9.trans (gz.trans (uq.le.trans ta.le)))))))))))
               ·intro t8 t9 ta tb tc Q td; have te : t8 18 = vi (ul.1) := (tc 18 (by kernel_rfl)).trans rfl; have tg : t8 180 = vb (decide (ul.1 < 0)) := tb 2 180 (by kernel_rfl) (by kernel_rfl); exact gt 180 tg t1 (mv te (fin td rfl))
               ·intro t8 t9 ta tb tc Q td; have te : t8 180 = vb (decide (ul.1 < 0)) := tb 2 180 (by kernel_rfl) (by kernel_rfl); have tg : V _ (t8 181) (a0 : List (List Item)) := tb 3 181 (by kernel_rfl) (by kernel_rfl); obtain ⟨th, ti, tj⟩ : ∃ v, _ = v ∧ V _ v _ := ⟨_, rfl, tg⟩; have tk : t8 182 = vi (ul.1) := tb 4 182 (by kernel_rfl) (by kernel_rfl); exact gt 180 te t1 (ix Tryz.underlying53 ty54.inf ti tj tk t3 (fun tl tm => fin td tm))
               ·intro t8 t9 ta tb tc Q td; have te : t8 180 = vb (decide (ul.1 < 0)) := tb 2 180 (by kernel_rfl) (by kernel_rfl); have tg : Ptr _ (t8 183) (t2 : List Item) := tb 5 183 (by kernel_rfl) (by kernel_rfl); obtain ⟨th, ti, tj⟩ : ∃ v, _ = v ∧ Ptr _ v _ := ⟨_, rfl, tg⟩; exact gt 180 te t1 (ld ty54 ti tj (fun tk tl => fin td tl))
               ·intro t8 t9 ta tb tc Q td; have te : t8 19 = vi (ul.2) := (tc 19 (by kernel_rfl)).trans rfl; have tg : t8 180 = vb (decide (ul.1 < 0)) := tb 2 180 (by kernel_rfl) (by kernel_rfl); exact gt 180 tg t1 (mv te (fin td rfl))
               ·intro t8 t9 ta tb tc Q td; have te : t8 9 = jr := (tc 9 (by kernel_rfl)).trans u2; have tg : t8 180 = vb (decide (ul.1 < 0)) := tb 2 180 (by kernel_rfl) (by kernel_rfl); exact gt 180 tg t1 (mv te (fin td rfl))
               ·intro t8 t9 ta tb tc Q td; have te : t8 18 = vi (ul.1) := (tc 18 (by kernel_rfl)).trans rfl; have tg : t8 180 = vb (decide (ul.1 < 0)) := tb 2 180 (by kernel_rfl) (by kernel_rfl); exact gt 180 tg t1 (mv te (fin td rfl))
               ·intro t8 t9 ta tb tc Q td; have te : t8 180 = vb (decide (ul.1 < 0)) := tb 2 180 (by kernel_rfl) (by kernel_rfl); have tg : t8 186 = jr := tb 8 186 (by kernel_rfl) (by kernel_rfl); have th : t8 187 = vi (ul.1) := tb 9 187 (by kernel_rfl) (by kernel_rfl); exact gt 180 te t1 (L_indexS Tryz.underlying38 ty3.inf tg th (((u6).ext uq).ext ta) t5 (by decide) (fin td rfl))
               ·intro t8 t9 ta tb tc Q td; have te : t8 180 = vb (decide (ul.1 < 0)) := tb 2 180 (by kernel_rfl) (by kernel_rfl); have tg : t8 188 = elemP jr (ul.1) 1 0 := tb 10 188 (by kernel_rfl) (by kernel_rfl); refine gt 180 te t1 (L_loadS ty3 tg (((u6).ext uq).ext ta) t5 rfl (by decide) (fun th ti => ?_)); obtain rfl := ti.int; exact fin td rfl
               ·intro t8 t9 ta tb tc Q td; have te : t8 180 = vb (decide (ul.1 < 0)) := tb 2 180 (by kernel_rfl) (by kernel_rfl); have tg : V _ (t8 184) (t2 : List Item) := tb 6 184 (by kernel_rfl) (by kernel_rfl); obtain ⟨th, ti, tj⟩ : ∃ v, _ = v ∧ V _ v _ := ⟨_, rfl, tg⟩; have tk : t8 185 = vi (ul.2) := tb 7 185 (by kernel_rfl) (by kernel_rfl); have tl : t8 189 = vi (t4) := tb 11 189 (by kernel_rfl) (by kernel_rfl); refine gt 180 te t1 (L_calls cal79 (args3 ti tk tl) (ref14_before_ok N _ _ _ tj ul.2 t4 t6 t7) (by decide) (fun tm tn tp tq => ?_)); have tr := Tch.ext (Ext.refl t9) tp; obtain rfl := tq.bool; exact L_nil (td _ _ tr rfl)
               ·intro t8 t9 ta tb tc Q td; have te : t8 180 = vb (decide (ul.1 < 0)) := tb 2 180 (by kernel_rfl) (by kernel_rfl); have tg : t8 190 = vb (t6) := tb 12 190 (by kernel_rfl) (by kernel_rfl); exact gt 180 te t1 (L_not tg (by decide) (fin td rfl))
               ·intro t8 t9 ta tb tc Q td; have te : t8 180 = vb (decide (ul.1 < 0)) := tb 2 180 (by kernel_rfl) (by kernel_rfl); have tg : t8 191 = vb (!t6) := tb 13 191 (by kernel_rfl) (by kernel_rfl); exact pf te t1 tg (fin td rfl)
               ·intro t8 t9 ta tb tc; have td := Tch.ext us ta; have te : t8 0 = w0 := (tc 0 (by kernel_rfl)).trans u1; have tg : t8 9 = jr := (tc 9 (by kernel_rfl)).trans u2; have th : t8 15 = g1 := (tc 15 (by kernel_rfl)).trans u3; have ti : t8 16 = vi (ki) := (tc 16 (by kernel_rfl)).trans u4; have tj : t8 17 = vi (g3) := (tc 17 (by kernel_rfl)).trans u5; have tk : t8 192 = vb (!t6) := tb 14 192 (by kernel_rfl); exact then_n ⟨t9, (!t6), rfl, td, ta.le, Option.some.inj hr, tk, te, tg, th, ti, tj, ((u6).ext uq).ext ta⟩
             ·rintro t1 t2 ⟨t3, t0, rfl, t4, t5, uy, t6, t7, t8, t9, ta, tb, tc⟩
              subst uy
              have hr := uz
              try dsimp only at hr
              refine W_cond _ t6 (fun td => ?_) (fun td => ?_)
              ·have hr := ite_t td hr; refine W_region (mv t9 (mv t7 (mv ta ?_))); obtain ⟨te, tg, hr⟩ := bind_some hr; refine ix Tryz.underlying53 ty54.inf (rv w0) (h0.mono (j5.le.trans (jh.trans (jw.le.trans (k7.trans (ko.trans (g9.trans (gz.trans (uq.le.trans t5))))))))) (rv (vi ki)) tg (fun th ti => ld ty54 (rv th) ti (fun tj tk => mv tb ?_)); obtain ⟨tl, tm, hr⟩ := bind_some hr; refine ix Tryz.underlying54 ty146.inf (rv tj) tk (rv (vi g3)) tm (fun tn tp => fa fld146_1 Item.of_No (rv tn) tp (fun tq tr => li ty3 (rv tq) tr ?_)); obtain ⟨ts, tt, hr⟩ := bind_some hr; refine L_calls cal81 (args2 (rv g1) (rv (vi (tl.No)))) (ref14_inserted_ok N _ _ _ (gb.mono (gz.trans (uq.le.trans t5))) tl.No ts tt) (by decide) (fun tu tv tw tx => ?_); have ty := Tch.ext t4 tw; refine asg (rv tu) (L_nil (block_n (then_n (W_region (mv tb ?_))))); obtain ⟨tz, hr⟩ := chk_some hr; exact ad (rv (vi g3)) (rv (vi 1)) tz (asg (rv (vi (g3 + 1))) (nn ⟨g4, Nat.lt_succ_self _, ⟨tv, tu, ts, (g3 + 1), rfl, ty, (g9.trans (gz.trans (uq.le.trans (t5.trans tw.le)))), hr, rfl, tx, rfl, t7, t8, ta, (tc).ext tw⟩⟩))
              ·have hr := ite_f td hr; refine W_skip (block_n (then_n (W_region (mv tb ?_)))); obtain ⟨te, hr⟩ := chk_some hr; exact ad (rv (vi g3)) (rv (vi 1)) te (asg (rv (vi (g3 + 1))) (nn ⟨g4, Nat.lt_succ_self _, ⟨t3, g1, g2, (g3 + 1), rfl, t4, (g9.trans (gz.trans (uq.le.trans t5))), hr, t9, (gb.mono (gz.trans (uq.le.trans t5))), rfl, t7, t8, ta, tc⟩⟩))
          ·have hr := ite_f gp hr; refine W_exit (then_x (then_x (block_here ?_))); exact then_n ⟨g7, g1, g2, rfl, g8, g9, Option.some.inj hr, ga, gb, gd, gg, gh, gi⟩
        ·rintro g1 g2 ⟨g3, kz, g0, rfl, g4, g5, kx, g6, g7, g8, g9, ga, gb⟩; subst kx; have hr := ky; (try dsimp only at hr); refine block_n (then_n (W_region (mv ga ?_))); obtain ⟨gc, hr⟩ := chk_some hr; exact ad (rv (vi ki)) (rv (vi 1)) gc (asg (rv (vi (ki + 1))) (nn ⟨kj, Nat.lt_succ_self _, ⟨g3, kz, g0, (ki + 1), rfl, g4, (ko.trans g5), hr, g6, g7, rfl, g8, g9, gb⟩⟩))
       ·have hr := ite_f kv hr; refine W_exit (then_x (then_x (block_here ?_))); exact then_n ⟨km, kg, kh, rfl, kn, ko, Option.some.inj hr, kp, kq, kt, ku⟩
     ·rintro kg kh ⟨ki, ke, kf, rfl, kj, kk, kc, kl, km, kn, ko⟩; subst kc; have hr := kd; (try dsimp only at hr); refine then_n (sr (mv kn (mv kl (asg (rv jr) (asg (rv ke) (asg (rv (vi 0)) (nn (W_ret ?_)))))))); obtain rfl := Option.some.inj hr; have kp := ko; obtain ⟨kq, kr, ks, kt⟩ := kp.freeze; have ku := Tch.trans kj ks (fun k hk => Or.inr ((kp.lt hk).1)); exact done3 (Or.inl rfl) Tryz.results29 rfl rfl rfl ⟨_, _, rfl, kr, ku, _, _, _, rfl, kt, (km.mono ks.le), Vint⟩

theorem slices_IndexFunc_LLcheck_Item_Lcheck_Item_ok (N : Nat) (s0 : St) (w0 : Value) (a0 : List (List Item)) (h0 : V s0 w0 a0) (w1 : Value) (a1 : (List Item) → Option Bool) (h1 : Fn1 Tryz.prog s0 w1 a1) (r : Int) (hr : slices_IndexFunc_LLcheck_Item_Lcheck_Item N a0 a1 = some r) :
    Calls Tryz.prog 133 #[w0, w1] s0.w (Ret s0 fun v s => V s v r) := by
 unfold slices_IndexFunc_LLcheck_Item_Lcheck_Item at hr
 have j0 := Ext.refl s0
 refine Calls_of (n := 19) (args := [w0, w1]) Tryz.func133 rfl rfl (by simp) (sr (asg (rv (vi 0)) (nn (W_seq (sr (mv (rv w0) (ln Tryz.underlying57 (rv w0) h0 (mv (rv (vi 0)) (nn ?_)))))))))
 obtain ⟨j1, j2, j3⟩ := bind_some hr
 refine W_cut (fun f w => ∃ (s : St), s.w = w ∧ Ext s0 s ∧ Le s0 s ∧ Sum.inl () = j1) ?_ ?_
 ·refine W_block (W_loop (fun m f w => ∃ (s : St) (j4 : Int), s.w = w ∧ Ext s0 s ∧ Le s0 s ∧ slices_IndexFunc_LLcheck_Item_Lcheck_Item_l1 N a0 a1 m j4 = some j1 ∧ f 8 = vi j4 ∧ f 0 = w0 ∧ f 1 = w1 ∧ f 7 = vi ((a0.length : Int))) N ⟨s0, 0, rfl, j0, (Le.refl _), j2, rfl, rfl, rfl, rfl⟩ ?_)
  rintro j5 j6 j7 ⟨j8, j4, rfl, j9, ja, hr, jb, jc, jd, je⟩
  cases j5 with
  | zero => exact absurd hr (by simp [slices_IndexFunc_LLcheck_Item_Lcheck_Item_l1])
  | succ j5 =>
   rw [slices_IndexFunc_LLcheck_Item_Lcheck_Item_l1.eq_2] at hr
   refine sr (ls jb je (nn (W_seq ?_)))
   refine W_cond _ (rv (vb (decide (j4 < (a0.length : Int))))) (fun jf => ?_) (fun jf => ?_)
   ·have hr := ite_t jf hr
    refine W_skip (then_n (W_seq (W_block (sr (mv jb (asg (rv (vi j4)) (nn (sr (mv jd (mv jc (mv (rv (vi j4)) ?_)))))))))))
    obtain ⟨jg, jh, hr⟩ := bind_some hr
    refine ix Tryz.underlying57 ty106.inf (rv w0) (h0.mono ja) (rv (vi j4)) jh (fun ji jj => ld ty106 (rv ji) jj (fun jk jl => ?_))
    obtain ⟨jm, jn, hr⟩ := bind_some hr
    refine L_call1 (rv w1) (h1.mono ja) (rv jk) jl jn (by decide) (fun jo jp jq jr => ?_)
    have js := Tch.ext j9 jq
    obtain rfl := jr.bool
    refine nn ?_
    refine W_cond _ (rv (vb jm)) (fun jt => ?_) (fun jt => ?_)
    ·have hr := ite_t jt hr; refine sr (mv (rv (vi j4)) (asg (rv (vi j4)) (nn (W_ret (block_r (then_r (then_r (block_r ?_)))))))); obtain rfl := Option.some.inj hr; have hr := j3; (try dsimp only at hr); refine then_r (then_r ?_); obtain rfl := Option.some.inj hr; exact done1 (Or.inl rfl) Tryz.results133 rfl ⟨_, _, rfl, rfl, js, Vint⟩
    ·have hr := ite_f jt hr; refine W_skip (block_n (then_n (W_region ?_))); obtain ⟨ju, hr⟩ := chk_some hr; exact ad jb (rv (vi 1)) ju (mv (rv (vi (j4 + 1))) (nn ⟨j5, Nat.lt_succ_self _, ⟨jp, (j4 + 1), rfl, js, (ja.trans jq.le), hr, rfl, jc, jd, je⟩⟩))
   ·have hr := ite_f jf hr; refine W_exit (then_x (then_x (block_here ?_))); exact then_n ⟨j8, rfl, j9, ja, Option.some.inj hr⟩
 ·rintro j4 j5 ⟨j6, rfl, j7, j8, j2⟩; subst j2; have hr := j3; (try dsimp only at hr); refine then_n (sr (asg (rv (vi (-1))) (nn (W_ret ?_)))); obtain rfl := Option.some.inj hr; exact done1 (Or.inl rfl) Tryz.results133 rfl ⟨_, _, rfl, rfl, j7, Vint⟩

theorem slices_ContainsFunc_LLcheck_Item_Lcheck_Item_ok (N : Nat) (s0 : St) (w0 : Value) (a0 : List (List Item)) (h0 : V s0 w0 a0) (w1 : Value) (a1 : (List Item) → Option Bool) (h1 : Fn1 Tryz.prog s0 w1 a1) (r : Bool) (hr : slices_ContainsFunc_LLcheck_Item_Lcheck_Item N a0 a1 = some r) :
    Calls Tryz.prog 123 #[w0, w1] s0.w (Ret s0 fun v s => V s v r) := by
 unfold slices_ContainsFunc_LLcheck_Item_Lcheck_Item at hr
 have j0 := Ext.refl s0
 refine Calls_of (n := 9) (args := [w0, w1]) Tryz.func123 rfl rfl (by simp) (sr (asg (rv (vb false)) (nn (sr (mv (rv w0) (mv (rv w1) ?_))))))
 obtain ⟨j1, j2, hr⟩ := bind_some hr
 refine L_calls cal133 (args2 (rv w0) (rv w1)) (slices_IndexFunc_LLcheck_Item_Lcheck_Item_ok N _ _ _ h0 _ a1 h1 j1 j2) (by decide) (fun j3 j4 j5 j6 => ?_)
 have j7 := Tch.ext j0 j5
 obtain rfl := j6.int
 refine L_geq (rv (vi j1)) (rv (vi 0)) (by decide) (asg (rv (vb (decide (0 ≤ j1)))) (nn (W_ret ?_)))
 obtain rfl := Option.some.inj hr
 exact done1 (Or.inl rfl) Tryz.results123 rfl ⟨_, _, rfl, rfl, j7, Vbool⟩

theorem check_passages_1_ok (N : Nat) (s0 : St) (w0 : Value) (a0 : List Item) (h0 : V s0 w0 a0) (r : Bool) (hr : check_passages_1 N a0 = some r) :
    Calls Tryz.prog 124 #[w0] s0.w (Ret s0 fun v s => V s v r) := by
 unfold check_passages_1 at hr
 have j0 := Ext.refl s0
 refine Calls_of (n := 6) (args := [w0]) Tryz.func124 rfl rfl (by simp) (sr (asg (rv (vb false)) (nn (sr (mv (rv w0) (ln Tryz.underlying106 (rv w0) h0 (L_gtr (rv (vi ((a0.length : Int)))) (rv (vi 100)) (by decide) (asg (rv (vb (decide (100 < (a0.length : Int))))) (nn (W_ret ?_))))))))))
 obtain rfl := Option.some.inj hr
 exact done1 (Or.inl rfl) Tryz.results124 rfl ⟨_, _, rfl, rfl, j0, Vbool⟩

end Go.Arm
