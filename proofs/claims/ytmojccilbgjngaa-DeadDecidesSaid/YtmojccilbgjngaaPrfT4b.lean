/- Each function of the program computes what its plain function says. -/
import Derived.Test.YtmojccilbgjngaaPrfT4a
namespace Go.Arm
open Go Go.RowKit Go.Proofs
theorem dead_run_can_4_ok (N : Nat) (s0 : St) (w0 : Value) (a0 : Ref Run) (h0 : Ptr s0 w0 a0) (w1 : Value) (a1 : Int) (h1 : Ptr s0 w1 a1) (w2 : Value) (a2 : Int) (h2 : Ptr s0 w2 a2) (r : Bool) (hr : dead_run_can_4 N a0 a1 a2 = some r) :
    Calls Try.prog 64 #[w0, w1, w2] s0.w (Ret s0 fun v s => V s v r) := by
 unfold dead_run_can_4 at hr
 have j0 := Ext.refl s0
 refine Calls_of (n := 38) (args := [w0, w1, w2]) Try.func64 rfl rfl (by simp) (sr (asg (rv (vb false)) (nn (W_seq ?_))))
 obtain ⟨j1, j2, hr⟩ := bind_some hr
 obtain ⟨j3, j4, hr⟩ := bind_some hr
 obtain ⟨j5, j6, hr⟩ := bind_some hr
 refine W_draws mixed (by kernel_rfl) [PV.ptr (a0.x : Run), PV.eq (vi a1), PV.ptr (a0.x : Run), PV.ptr (a0.x : Run), PV.ptr (a0.x.c : List (List Deed)), PV.data (a0.x.c : List (List Deed)), PV.eq (vi a1), PV.ptr (j1 : List Deed), PV.data (j1 : List Deed), PV.eq (vi a2), PV.ptr (j3 : Deed), PV.ptr (j3.Req : Int), PV.eq (vi (j3.Req)), PV.eq (vi j5), PV.eq (vi j5)] (Steps_cons ?_ (Steps_cons ?_ (Steps_cons ?_ (Steps_cons ?_ (Steps_cons ?_ (Steps_cons ?_ (Steps_cons ?_ (Steps_cons ?_ (Steps_cons ?_ (Steps_cons ?_ (Steps_cons ?_ (Steps_cons ?_ (Steps_cons ?_ (Steps_cons ?_ (Steps_cons ?_ Steps_nil))))))))))))))) ?_
 ·intro j7 j8 j9 ja jb Q jc; have jd : j7 0 = w0 := (jb 0 (by kernel_rfl)).trans rfl; exact ld ty67 jd (h0.mono j9.le) (fun je jf => fin jc jf.toPtr)
 ·intro j7 j8 j9 ja jb Q jc; have jd : j7 1 = w1 := (jb 1 (by kernel_rfl)).trans rfl; exact li ty3 jd (h1.mono j9.le) (fin jc rfl)
 ·intro j7 j8 j9 ja jb Q jc; have jd : j7 0 = w0 := (jb 0 (by kernel_rfl)).trans rfl; exact ld ty67 jd (h0.mono j9.le) (fun je jf => fin jc jf.toPtr)
 ·intro j7 j8 j9 ja jb Q jc; have jd : Ptr _ (j7 7) (a0.x : Run) := ja 2 7 (by kernel_rfl) (by kernel_rfl); obtain ⟨je, jf, jg⟩ : ∃ v, _ = v ∧ Ptr _ v _ := ⟨_, rfl, jd⟩; exact L_nilCheck_ptr jf jg (by decide) (fin jc jg)
 ·intro j7 j8 j9 ja jb Q jc; have jd : Ptr _ (j7 8) (a0.x : Run) := ja 3 8 (by kernel_rfl) (by kernel_rfl); obtain ⟨je, jf, jg⟩ : ∃ v, _ = v ∧ Ptr _ v _ := ⟨_, rfl, jd⟩; exact fa fld72_0 Run.of_c jf jg (fun jh ji => fin jc ji)
 ·intro j7 j8 j9 ja jb Q jc; have jd : Ptr _ (j7 9) (a0.x.c : List (List Deed)) := ja 4 9 (by kernel_rfl) (by kernel_rfl); obtain ⟨je, jf, jg⟩ : ∃ v, _ = v ∧ Ptr _ v _ := ⟨_, rfl, jd⟩; exact ld ty29 jf jg (fun jh ji => fin jc ji)
 ·intro j7 j8 j9 ja jb Q jc; have jd : j7 1 = w1 := (jb 1 (by kernel_rfl)).trans rfl; exact li ty3 jd (h1.mono j9.le) (fin jc rfl)
 ·intro j7 j8 j9 ja jb Q jc; have jd : V _ (j7 10) (a0.x.c : List (List Deed)) := ja 5 10 (by kernel_rfl) (by kernel_rfl); obtain ⟨je, jf, jg⟩ : ∃ v, _ = v ∧ V _ v _ := ⟨_, rfl, jd⟩; have jh : j7 11 = vi (a1) := ja 6 11 (by kernel_rfl) (by kernel_rfl); exact ix Try.underlying29 ty59.inf jf jg jh j2 (fun ji jj => fin jc jj)
 ·intro j7 j8 j9 ja jb Q jc; have jd : Ptr _ (j7 12) (j1 : List Deed) := ja 7 12 (by kernel_rfl) (by kernel_rfl); obtain ⟨je, jf, jg⟩ : ∃ v, _ = v ∧ Ptr _ v _ := ⟨_, rfl, jd⟩; exact ld ty59 jf jg (fun jh ji => fin jc ji)
 ·intro j7 j8 j9 ja jb Q jc; have jd : j7 2 = w2 := (jb 2 (by kernel_rfl)).trans rfl; exact li ty3 jd (h2.mono j9.le) (fin jc rfl)
 ·intro j7 j8 j9 ja jb Q jc; have jd : V _ (j7 13) (j1 : List Deed) := ja 8 13 (by kernel_rfl) (by kernel_rfl); obtain ⟨je, jf, jg⟩ : ∃ v, _ = v ∧ V _ v _ := ⟨_, rfl, jd⟩; have jh : j7 14 = vi (a2) := ja 9 14 (by kernel_rfl) (by kernel_rfl); exact ix Try.underlying59 ty64.inf jf jg jh j4 (fun ji jj => fin jc jj)
 ·intro j7 j8 j9 ja jb Q jc; have jd : Ptr _ (j7 15) (j3 : Deed) := ja 10 15 (by kernel_rfl) (by kernel_rfl); obtain ⟨je, jf, jg⟩ : ∃ v, _ = v ∧ Ptr _ v _ := ⟨_, rfl, jd⟩; exact fa fld64_3 Deed.of_Req jf jg (fun jh ji => fin jc ji)
 ·intro j7 j8 j9 ja jb Q jc; have jd : Ptr _ (j7 16) (j3.Req : Int) := ja 11 16 (by kernel_rfl) (by kernel_rfl); obtain ⟨je, jf, jg⟩ : ∃ v, _ = v ∧ Ptr _ v _ := ⟨_, rfl, jd⟩; exact li ty3 jf jg (fin jc rfl)
 ·intro j7 j8 j9 ja jb Q jc; have jd : Ptr _ (j7 5) (a0.x : Run) := ja 0 5 (by kernel_rfl) (by kernel_rfl); obtain ⟨je, jf, jg⟩ : ∃ v, _ = v ∧ Ptr _ v _ := ⟨_, rfl, jd⟩; have jh : j7 6 = vi (a1) := ja 1 6 (by kernel_rfl) (by kernel_rfl); have ji : j7 17 = vi (j3.Req) := ja 12 17 (by kernel_rfl) (by kernel_rfl); refine L_calls cal50 (args3 jf jh ji) (dead_run_request_ok N _ _ _ jg a1 j3.Req j5 j6) (by decide) (fun jj jk jl jm => ?_); have jn := Tch.ext (Ext.refl j8) jl; obtain rfl := jm.int; exact L_nil (jc _ _ jn rfl)
 ·intro j7 j8 j9 ja jb Q jc; have jd : j7 18 = vi (j5) := ja 13 18 (by kernel_rfl) (by kernel_rfl); exact asg jd (fin jc rfl)
 ·intro j7 j8 j9 ja jb
  have jc := Tch.ext j0 j9
  have jd : j7 0 = w0 := (jb 0 (by kernel_rfl)).trans rfl
  have je : j7 1 = w1 := (jb 1 (by kernel_rfl)).trans rfl
  have jf : j7 4 = vi (j5) := ja 14 4 (by kernel_rfl)
  refine then_n (W_seq (W_seq ?_))
  obtain ⟨jg, jh, hr⟩ := bind_some hr
  obtain ⟨ji, jj, hr⟩ := bind_some hr
  obtain ⟨jk, jl, hr⟩ := bind_some hr
  refine W_draws mixed (by kernel_rfl) [PV.ptr (a0.x : Run), PV.ptr (a0.x : Run), PV.ptr (a0.x.c : List (List Deed)), PV.data (a0.x.c : List (List Deed)), PV.eq (vi a1), PV.ptr (jg : List Deed), PV.data (jg : List Deed), PV.eq (vi j5), PV.ptr (ji : Deed), PV.data (ji : Deed), PV.eq (vb jk)] (Steps_cons ?_ (Steps_cons ?_ (Steps_cons ?_ (Steps_cons ?_ (Steps_cons ?_ (Steps_cons ?_ (Steps_cons ?_ (Steps_cons ?_ (Steps_cons ?_ (Steps_cons ?_ (Steps_cons ?_ Steps_nil))))))))))) ?_
  ·intro jm jn jo jp jq Q jr; have js : jm 0 = w0 := (jq 0 (by kernel_rfl)).trans jd; exact ld ty67 js (h0.mono (j9.le.trans jo.le)) (fun jt ju => fin jr ju.toPtr)
  ·intro jm jn jo jp jq Q jr; have js : Ptr _ (jm 19) (a0.x : Run) := jp 0 19 (by kernel_rfl) (by kernel_rfl); obtain ⟨jt, ju, jv⟩ : ∃ v, _ = v ∧ Ptr _ v _ := ⟨_, rfl, js⟩; exact L_nilCheck_ptr ju jv (by decide) (fin jr jv)
  ·intro jm jn jo jp jq Q jr; have js : Ptr _ (jm 20) (a0.x : Run) := jp 1 20 (by kernel_rfl) (by kernel_rfl); obtain ⟨jt, ju, jv⟩ : ∃ v, _ = v ∧ Ptr _ v _ := ⟨_, rfl, js⟩; exact fa fld72_0 Run.of_c ju jv (fun jw jx => fin jr jx)
  ·intro jm jn jo jp jq Q jr; have js : Ptr _ (jm 21) (a0.x.c : List (List Deed)) := jp 2 21 (by kernel_rfl) (by kernel_rfl); obtain ⟨jt, ju, jv⟩ : ∃ v, _ = v ∧ Ptr _ v _ := ⟨_, rfl, js⟩; exact ld ty29 ju jv (fun jw jx => fin jr jx)
  ·intro jm jn jo jp jq Q jr; have js : jm 1 = w1 := (jq 1 (by kernel_rfl)).trans je; exact li ty3 js (h1.mono (j9.le.trans jo.le)) (fin jr rfl)
  ·intro jm jn jo jp jq Q jr; have js : V _ (jm 22) (a0.x.c : List (List Deed)) := jp 3 22 (by kernel_rfl) (by kernel_rfl); obtain ⟨jt, ju, jv⟩ : ∃ v, _ = v ∧ V _ v _ := ⟨_, rfl, js⟩; have jw : jm 23 = vi (a1) := jp 4 23 (by kernel_rfl) (by kernel_rfl); exact ix Try.underlying29 ty59.inf ju jv jw jh (fun jx jy => fin jr jy)
  ·intro jm jn jo jp jq Q jr; have js : Ptr _ (jm 24) (jg : List Deed) := jp 5 24 (by kernel_rfl) (by kernel_rfl); obtain ⟨jt, ju, jv⟩ : ∃ v, _ = v ∧ Ptr _ v _ := ⟨_, rfl, js⟩; exact ld ty59 ju jv (fun jw jx => fin jr jx)
  ·intro jm jn jo jp jq Q jr; have js : jm 4 = vi (j5) := (jq 4 (by kernel_rfl)).trans jf; exact mv js (fin jr rfl)
  ·intro jm jn jo jp jq Q jr; have js : V _ (jm 25) (jg : List Deed) := jp 6 25 (by kernel_rfl) (by kernel_rfl); obtain ⟨jt, ju, jv⟩ : ∃ v, _ = v ∧ V _ v _ := ⟨_, rfl, js⟩; have jw : jm 26 = vi (j5) := jp 7 26 (by kernel_rfl) (by kernel_rfl); exact ix Try.underlying59 ty64.inf ju jv jw jj (fun jx jy => fin jr jy)
  ·intro jm jn jo jp jq Q jr; have js : Ptr _ (jm 27) (ji : Deed) := jp 8 27 (by kernel_rfl) (by kernel_rfl); obtain ⟨jt, ju, jv⟩ : ∃ v, _ = v ∧ Ptr _ v _ := ⟨_, rfl, js⟩; exact ld ty64 ju jv (fun jw jx => fin jr jx)
  ·intro jm jn jo jp jq Q jr; have js : V _ (jm 28) (ji : Deed) := jp 9 28 (by kernel_rfl) (by kernel_rfl); obtain ⟨jt, ju, jv⟩ : ∃ v, _ = v ∧ V _ v _ := ⟨_, rfl, js⟩; refine L_calls cal40 (args1 ju) (dead_sends_ok N _ _ _ jv jk jl) (by decide) (fun jw jx jy jz => ?_); have k0 := Tch.ext (Ext.refl jn) jy; obtain rfl := jz.bool; exact L_nil (jr _ _ k0 rfl)
  ·intro jm jn jo jp jq
   have jr := Tch.ext jc jo
   have js : jm 0 = w0 := (jq 0 (by kernel_rfl)).trans jd
   have jt : jm 1 = w1 := (jq 1 (by kernel_rfl)).trans je
   have ju : jm 4 = vi (j5) := (jq 4 (by kernel_rfl)).trans jf
   have jv : jm 29 = vb (jk) := jp 10 29 (by kernel_rfl)
   refine then_n ?_
   refine W_cond _ jv (fun jw => ?_) (fun jw => ?_)
   ·have hr := ite_t jw hr; refine sr (ld ty67 js (h0.mono (j9.le.trans jo.le)) (fun jx jy => li ty3 jt (h1.mono (j9.le.trans jo.le)) (mv ju ?_))); obtain ⟨jz, k0, hr⟩ := bind_some hr; refine L_calls cal60 (args3 (rv jx) (rv (vi a1)) (rv (vi j5))) (dead_run_taken_ok N _ _ _ jy.toPtr a1 j5 jz k0) (by decide) (fun k1 k2 k3 k4 => ?_); have k5 := Tch.ext jr k3; obtain rfl := k4.bool; refine asg (rv (vb jz)) (nn (W_ret (then_r ?_))); obtain rfl := Option.some.inj hr; exact done1 (Or.inl rfl) Try.results64 rfl ⟨_, _, rfl, rfl, k5, Vbool⟩
   ·have hr := ite_f jw hr; refine W_skip (then_n (sr (ld ty67 js (h0.mono (j9.le.trans jo.le)) (fun jx jy => li ty3 jt (h1.mono (j9.le.trans jo.le)) (mv ju ?_))))); obtain ⟨jz, k0, hr⟩ := bind_some hr; refine L_calls cal62 (args3 (rv jx) (rv (vi a1)) (rv (vi j5))) (dead_run_received_ok N _ _ _ jy.toPtr a1 j5 jz k0) (by decide) (fun k1 k2 k3 k4 => ?_); have k5 := Tch.ext jr k3; obtain rfl := k4.bool; refine asg (rv (vb jz)) (nn (W_ret ?_)); obtain rfl := Option.some.inj hr; exact done1 (Or.inl rfl) Try.results64 rfl ⟨_, _, rfl, rfl, k5, Vbool⟩

set_option maxHeartbeats 1046000 in
theorem dead_run_can_ok (N : Nat) (s0 : St) (w0 : Value) (a0 : Run) (h0 : Ptr s0 w0 a0) (a1 : Int) (r : Bool) (hr : dead_run_can N a0 a1 = some r) :
    Calls Try.prog 32 #[w0, .int .i64 a1] s0.w (Ret s0 fun v s => V s v r) := by
 unfold dead_run_can at hr
 have j0 := Ext.refl s0
 refine Calls_of (n := 52) (args := [w0, .int .i64 a1]) Try.func32 rfl rfl (by simp) (sr (L_box (rv w0) (h0).toV (by decide) (fun j1 j2 j3 j4 => ?_)))
 have j5 := Tch.ext j0 j3
 refine L_box (rv (vi a1)) Vint (by decide) (fun j6 j7 j8 j9 => ?_)
 have ja := Tch.ext j5 j8
 refine asg (rv (vb false)) (nn (W_seq ?_))
 obtain ⟨jb, jc, hr⟩ := bind_some hr
 refine W_drawP mixed 9 [PX.ptr (a0 : Run), PX.ptr (a0 : Run), PX.ptr (a0.at_ : List Int), PX.data (a0.at_ : List Int), PX.eq (vi a1), PX.ptr (jb : Int), PX.eq (vi jb), PX.var s0.w.heap.size 3 ((0 : Int) : Int), PX.ptr (jb : Int)] [8, 9, 10, 11, 12, 13, 14, 5, 5] [[], [], [], [], [], [], [], [], [7]] rfl (by kernel_rfl) (ent0 rfl) (dis0 rfl) (StepsX_cons ?_ (StepsX_cons ?_ (StepsX_cons ?_ (StepsX_cons ?_ (StepsX_cons ?_ (StepsX_cons ?_ (StepsX_cons ?_ (StepsX_cons ?_ (StepsX_cons ?_ StepsX_nil))))))))) ?_
 ·intro jd je jf jg jh Q ji; have jj : jd 2 = j2 := (jh 2 (by kernel_rfl)).trans rfl; exact ld ty67 jj (j4.mono (j8.le.trans jf.le)) (fun jk jl => L_nil (ji _ _ No (Ext.refl je) (fun _ h => h.elim) jl.toPtr (fun _ h => h.elim)))
 ·intro jd je jf jg jh Q ji; have jj : Ptr _ (jd 8) (a0 : Run) := jg 0 (by kernel_rfl) (by show _ < 9; decide); obtain ⟨jk, jl, jm⟩ : ∃ v, _ = v ∧ Ptr _ v _ := ⟨_, rfl, jj⟩; exact L_nilCheck_ptr jl jm (by decide) (L_nil (ji _ _ No (Ext.refl je) (fun _ h => h.elim) jm (fun _ h => h.elim)))
 ·intro jd je jf jg jh Q ji; have jj : Ptr _ (jd 9) (a0 : Run) := jg 1 (by kernel_rfl) (by show _ < 9; decide); obtain ⟨jk, jl, jm⟩ : ∃ v, _ = v ∧ Ptr _ v _ := ⟨_, rfl, jj⟩; exact fa fld72_2 Run.of_at_ jl jm (fun jn jo => L_nil (ji _ _ No (Ext.refl je) (fun _ h => h.elim) jo (fun _ h => h.elim)))
 ·intro jd je jf jg jh Q ji; have jj : Ptr _ (jd 10) (a0.at_ : List Int) := jg 2 (by kernel_rfl) (by show _ < 9; decide); obtain ⟨jk, jl, jm⟩ : ∃ v, _ = v ∧ Ptr _ v _ := ⟨_, rfl, jj⟩; exact ld ty23 jl jm (fun jn jo => L_nil (ji _ _ No (Ext.refl je) (fun _ h => h.elim) jo (fun _ h => h.elim)))
 ·intro jd je jf jg jh Q ji; have jj : jd 3 = j7 := (jh 3 (by kernel_rfl)).trans rfl; exact li ty3 jj (j9.mono jf.le) (L_nil (ji _ _ No (Ext.refl je) (fun _ h => h.elim) rfl (fun _ h => h.elim)))
 ·intro jd je jf jg jh Q ji; have jj : V _ (jd 11) (a0.at_ : List Int) := jg 3 (by kernel_rfl) (by show _ < 9; decide); obtain ⟨jk, jl, jm⟩ : ∃ v, _ = v ∧ V _ v _ := ⟨_, rfl, jj⟩; have jn : jd 12 = vi (a1) := jg 4 (by kernel_rfl) (by show _ < 9; decide); exact ix Try.underlying23 ty3.inf jl jm jn jc (fun jo jp => L_nil (ji _ _ No (Ext.refl je) (fun _ h => h.elim) jp (fun _ h => h.elim)))
 ·intro jd je jf jg jh Q ji; have jj : Ptr _ (jd 13) (jb : Int) := jg 5 (by kernel_rfl) (by show _ < 9; decide); obtain ⟨jk, jl, jm⟩ : ∃ v, _ = v ∧ Ptr _ v _ := ⟨_, rfl, jj⟩; exact li ty3 jl jm (L_nil (ji _ _ No (Ext.refl je) (fun _ h => h.elim) rfl (fun _ h => h.elim)))
 ·intro jd je jf jg jh Q ji; refine L_alloc (α := Int) (x := 0) zero3 (fun _ => rfl) (by decide) (fun jj jk jl jm jn => ?_); have jo := Tch.ext (Ext.refl je) jl; exact L_nil (ji _ _ No jo (fun _ h => h.elim) ⟨_, rfl, (Nat.le_trans (Nat.le_trans ja.size jf.size) jm), jn⟩ (fun k h => Or.inr (by cases h; exact jm)))
 ·intro jd je jf jg jh Q ji; obtain ⟨jj, jk, jl, jm⟩ : ∃ b, jd 5 = Value.pointer (some ⟨b, 0, none⟩) ∧ s0.w.heap.size ≤ b ∧ Var je b 3 ((0 : Int) : Int) := jg 7 (by kernel_rfl) (by show _ < 9; decide); have jn : jd 14 = vi (jb) := jg 6 (by kernel_rfl) (by show _ < 9; decide); exact L_store_ro ty3 jk jn Vint (jm) (fun jo jp jq => L_nil (ji undef _ _ jp (fun k h => ⟨7, (List.mem_singleton.2 rfl : (7 : Nat) ∈ [7]), (by show ownP (jd 5) k; rw [jk]; exact congrArg (fun z => Value.pointer (some ⟨z, 0, none⟩)) h.symm)⟩) (by show Ptr _ (jd 5) _; rw [jk]; exact jq) (fun _ h => h.elim)))
 ·intro jd je jf jg jh ji
  have jj := Tch.trans ja jf (fun k h => absurd h (ent_none (k := 9) rfl rfl k))
  obtain ⟨jk, jl, jm⟩ : ∃ p, jd 5 = p ∧ Ptr je p (jb : Int) := ⟨_, rfl, jg 8 (by show _ < 9; decide) (by kernel_rfl)⟩
  have jn : jd 2 = j2 := (ji 2 (by kernel_rfl)).trans rfl
  have jo : jd 3 = j7 := (ji 3 (by kernel_rfl)).trans rfl
  refine then_n (W_seq (W_seq ?_))
  obtain ⟨jp, jq, hr⟩ := bind_some hr
  refine W_draws mixed (by kernel_rfl) [PV.eq (vi jb), PV.ptr (a0 : Run), PV.ptr (a0 : Run), PV.ptr (a0.c : List (List Deed)), PV.data (a0.c : List (List Deed)), PV.eq (vi a1), PV.ptr (jp : List Deed), PV.data (jp : List Deed), PV.eq (vi ((jp.length : Int))), PV.eq (vb (decide (jb = (jp.length : Int))))] (Steps_cons ?_ (Steps_cons ?_ (Steps_cons ?_ (Steps_cons ?_ (Steps_cons ?_ (Steps_cons ?_ (Steps_cons ?_ (Steps_cons ?_ (Steps_cons ?_ (Steps_cons ?_ Steps_nil)))))))))) ?_
  ·intro jr js jt ju jv Q jw; have jx : jr 5 = jk := (jv 5 (by kernel_rfl)).trans jl; exact li ty3 jx (jm.mono jt.le) (fin jw rfl)
  ·intro jr js jt ju jv Q jw; have jx : jr 2 = j2 := (jv 2 (by kernel_rfl)).trans jn; exact ld ty67 jx (j4.mono (j8.le.trans (jf.le.trans jt.le))) (fun jy jz => fin jw jz.toPtr)
  ·intro jr js jt ju jv Q jw; have jx : Ptr _ (jr 16) (a0 : Run) := ju 1 16 (by kernel_rfl) (by kernel_rfl); obtain ⟨jy, jz, k0⟩ : ∃ v, _ = v ∧ Ptr _ v _ := ⟨_, rfl, jx⟩; exact L_nilCheck_ptr jz k0 (by decide) (fin jw k0)
  ·intro jr js jt ju jv Q jw; have jx : Ptr _ (jr 17) (a0 : Run) := ju 2 17 (by kernel_rfl) (by kernel_rfl); obtain ⟨jy, jz, k0⟩ : ∃ v, _ = v ∧ Ptr _ v _ := ⟨_, rfl, jx⟩; exact fa fld72_0 Run.of_c jz k0 (fun k1 k2 => fin jw k2)
  ·intro jr js jt ju jv Q jw; have jx : Ptr _ (jr 18) (a0.c : List (List Deed)) := ju 3 18 (by kernel_rfl) (by kernel_rfl); obtain ⟨jy, jz, k0⟩ : ∃ v, _ = v ∧ Ptr _ v _ := ⟨_, rfl, jx⟩; exact ld ty29 jz k0 (fun k1 k2 => fin jw k2)
  ·intro jr js jt ju jv Q jw; have jx : jr 3 = j7 := (jv 3 (by kernel_rfl)).trans jo; exact li ty3 jx (j9.mono (jf.le.trans jt.le)) (fin jw rfl)
  ·intro jr js jt ju jv Q jw; have jx : V _ (jr 19) (a0.c : List (List Deed)) := ju 4 19 (by kernel_rfl) (by kernel_rfl); obtain ⟨jy, jz, k0⟩ : ∃ v, _ = v ∧ V _ v _ := ⟨_, rfl, jx⟩; have k1 : jr 20 = vi (a1) := ju 5 20 (by kernel_rfl) (by kernel_rfl); exact ix Try.underlying29 ty59.inf jz k0 k1 jq (fun k2 k3 => fin jw k3)
  ·intro jr js jt ju jv Q jw; have jx : Ptr _ (jr 21) (jp : List Deed) := ju 6 21 (by kernel_rfl) (by kernel_rfl); obtain ⟨jy, jz, k0⟩ : ∃ v, _ = v ∧ Ptr _ v _ := ⟨_, rfl, jx⟩; exact ld ty59 jz k0 (fun k1 k2 => fin jw k2)
  ·intro jr js jt ju jv Q jw; have jx : V _ (jr 22) (jp : List Deed) := ju 7 22 (by kernel_rfl) (by kernel_rfl); obtain ⟨jy, jz, k0⟩ : ∃ v, _ = v ∧ V _ v _ := ⟨_, rfl, jx⟩; exact ln Try.underlying59 jz k0 (fin jw rfl)
  ·intro jr js jt ju jv Q jw; have jx : jr 15 = vi (jb) := ju 0 15 (by kernel_rfl) (by kernel_rfl); have jy : jr 23 = vi ((jp.length : Int)) := ju 8 23 (by kernel_rfl) (by kernel_rfl); exact el jx jy (fin jw rfl)
  ·intro jr js jt ju jv
   have jw := Tch.ext jj jt
   have jx : jr 2 = j2 := (jv 2 (by kernel_rfl)).trans jn
   have jy : jr 3 = j7 := (jv 3 (by kernel_rfl)).trans jo
   have jz : jr 5 = jk := (jv 5 (by kernel_rfl)).trans jl
   have k0 : jr 24 = vb (decide (jb = (jp.length : Int))) := ju 9 24 (by kernel_rfl)
   refine then_n ?_
   refine W_cond _ k0 (fun k1 => ?_) (fun k1 => ?_)
   ·have hr := ite_t k1 hr; refine sr (asg (rv (vb false)) (nn (W_ret (then_r ?_)))); obtain rfl := Option.some.inj hr; exact done1 (Or.inl rfl) Try.results32 rfl ⟨_, _, rfl, rfl, jw, Vbool⟩
   ·have hr := ite_f k1 hr
    refine W_skip (then_n (W_seq ?_))
    obtain ⟨k2, k3, hr⟩ := bind_some hr
    obtain ⟨k4, k5, hr⟩ := bind_some hr
    rcases tf (decide (k4.Kind = (1 : Int))) with k6 | k6
    ·have hr := ite_t k6 hr
     refine W_drawI mixed (by kernel_rfl) (IM js.w.heap.size 26 0 9 ([(2, (1 : Int), (⟨Value.func (.func 59) #[] #[j2, j7, jk]⟩ : RawV)), (4, (2 : Int), (⟨Value.func (.func 61) #[] #[j2, j7, jk]⟩ : RawV)), (6, (6 : Int), (⟨Value.func (.func 63) #[] #[j2, j7]⟩ : RawV)), (8, (5 : Int), (⟨Value.func (.func 64) #[] #[j2, j7, jk]⟩ : RawV))] : List (Nat × Int × RawV))) [PL.any, PL.eq (Value.func (.func 59) #[] #[j2, j7, jk]), PL.any, PL.eq (Value.func (.func 61) #[] #[j2, j7, jk]), PL.any, PL.eq (Value.func (.func 63) #[] #[j2, j7]), PL.any, PL.eq (Value.func (.func 64) #[] #[j2, j7, jk]), PL.any, PL.mapq ([((1 : Int), (⟨Value.func (.func 59) #[] #[j2, j7, jk]⟩ : RawV)), ((2 : Int), (⟨Value.func (.func 61) #[] #[j2, j7, jk]⟩ : RawV)), ((6 : Int), (⟨Value.func (.func 63) #[] #[j2, j7]⟩ : RawV)), ((5 : Int), (⟨Value.func (.func 64) #[] #[j2, j7, jk]⟩ : RawV))] : List (Int × RawV)), PL.ptr (a0 : Run), PL.ptr (a0 : Run), PL.ptr (a0.c : List (List Deed)), PL.data (a0.c : List (List Deed)), PL.eq (vi a1), PL.ptr (k2 : List Deed), PL.data (k2 : List Deed), PL.eq (vi jb), PL.ptr (k4 : Deed), PL.ptr (k4.Kind : Int), PL.eq (vi (k4.Kind)), PL.two (PL.eq (Value.func (.func 59) #[] #[j2, j7, jk])) (PL.eq (vb true)), PL.two (PL.eq (Value.func (.func 59) #[] #[j2, j7, jk])) (PL.eq (vb true)), PL.eq (Value.func (.func 59) #[] #[j2, j7, jk]), PL.eq (vb true), PL.eq (Value.func (.func 59) #[] #[j2, j7, jk]), PL.eq (vb true)] (fun _ => IM_none) (StepsI_cons ?_ (StepsI_cons ?_ (StepsI_cons ?_ (StepsI_cons ?_ (StepsI_cons ?_ (StepsI_cons ?_ (StepsI_cons ?_ (StepsI_cons ?_ (StepsI_cons ?_ (StepsI_cons ?_ (StepsI_cons ?_ (StepsI_cons ?_ (StepsI_cons ?_ (StepsI_cons ?_ (StepsI_cons ?_ (StepsI_cons ?_ (StepsI_cons ?_ (StepsI_cons ?_ (StepsI_cons ?_ (StepsI_cons ?_ (StepsI_cons ?_ (StepsI_cons ?_ (StepsI_cons ?_ (StepsI_cons ?_ (StepsI_cons ?_ (StepsI_cons ?_ (StepsI_cons ?_ StepsI_nil))))))))))))))))))))))))))) ?_
     ·intro k7 k8 k9 ka kb kc kd ke kf kg Q kh; exact L_makeMap (β := RawV) (by decide) (fun ki kj kk kl km => L_nil (kh _ _ (Tch.ext kd kk) kk.le trivial (IM_new km (Nat.le_trans kd.size kl) (all_of (wait_of kc) [2, 4, 6, 8] rfl (by kernel_rfl)) rfl)))
     ·intro k7 k8 k9 ka kb kc kd ke kf kg Q kh; have ki : k8 2 = j2 := (kf 2 (by kernel_rfl)).trans jx; have kj : k8 3 = j7 := (kf 3 (by kernel_rfl)).trans jy; have kk : k8 5 = jk := (kf 5 (by kernel_rfl)).trans jz; exact L_makeFunc (args3 ki kj kk) (by decide) (L_nil (kh _ _ (Tch.ext kd (Ext.refl k9)) (Ext.refl k9).le rfl (IM_keep kg (Ext.refl k9) rfl rfl rfl rfl)))
     ·intro k7 k8 k9 ka kb kc kd ke kf kg Q kh; have ki : k8 27 = Value.func (.func 59) #[] #[j2, j7, jk] := ke 1 27 (by kernel_rfl) (by kernel_rfl); exact IM_insert (q := 2) Try.underlying101 Try.underlying3 kg (kb 0 (by kernel_rfl)) (wait_of kc 9 (by kernel_rfl)) ka (rv (vi 1)) ki (Vraw rfl) (List.Mem.head _) (by show List.Nodup [2, 4, 6, 8]; decide) (by show List.Nodup ([1, 2, 6, 5] : List Int); decide) kd (Nat.le_refl _) (fun kj kk kl km => L_nil (kh undef _ kk kl trivial km))
     ·intro k7 k8 k9 ka kb kc kd ke kf kg Q kh; have ki : k8 2 = j2 := (kf 2 (by kernel_rfl)).trans jx; have kj : k8 3 = j7 := (kf 3 (by kernel_rfl)).trans jy; have kk : k8 5 = jk := (kf 5 (by kernel_rfl)).trans jz; exact L_makeFunc (args3 ki kj kk) (by decide) (L_nil (kh _ _ (Tch.ext kd (Ext.refl k9)) (Ext.refl k9).le rfl (IM_keep kg (Ext.refl k9) rfl rfl rfl rfl)))
     ·intro k7 k8 k9 ka kb kc kd ke kf kg Q kh; have ki : k8 28 = Value.func (.func 61) #[] #[j2, j7, jk] := ke 3 28 (by kernel_rfl) (by kernel_rfl); exact IM_insert (q := 4) Try.underlying101 Try.underlying3 kg (kb 0 (by kernel_rfl)) (wait_of kc 9 (by kernel_rfl)) ka (rv (vi 2)) ki (Vraw rfl) (List.Mem.tail _ (List.Mem.head _)) (by show List.Nodup [2, 4, 6, 8]; decide) (by show List.Nodup ([1, 2, 6, 5] : List Int); decide) kd (Nat.le_refl _) (fun kj kk kl km => L_nil (kh undef _ kk kl trivial km))
     ·intro k7 k8 k9 ka kb kc kd ke kf kg Q kh; have ki : k8 2 = j2 := (kf 2 (by kernel_rfl)).trans jx; have kj : k8 3 = j7 := (kf 3 (by kernel_rfl)).trans jy; exact L_makeFunc (args2 ki kj) (by decide) (L_nil (kh _ _ (Tch.ext kd (Ext.refl k9)) (Ext.refl k9).le rfl (IM_keep kg (Ext.refl k9) rfl rfl rfl rfl)))
     ·intro k7 k8 k9 ka kb kc kd ke kf kg Q kh; have ki : k8 29 = Value.func (.func 63) #[] #[j2, j7] := ke 5 29 (by kernel_rfl) (by kernel_rfl); exact IM_insert (q := 6) Try.underlying101 Try.underlying3 kg (kb 0 (by kernel_rfl)) (wait_of kc 9 (by kernel_rfl)) ka (rv (vi 6)) ki (Vraw rfl) (List.Mem.tail _ (List.Mem.tail _ (List.Mem.head _))) (by show List.Nodup [2, 4, 6, 8]; decide) (by show List.Nodup ([1, 2, 6, 5] : List Int); decide) kd (Nat.le_refl _) (fun kj kk kl km => L_nil (kh undef _ kk kl trivial km))
     ·intro k7 k8 k9 ka kb kc kd ke kf kg Q kh; have ki : k8 2 = j2 := (kf 2 (by kernel_rfl)).trans jx; have kj : k8 3 = j7 := (kf 3 (by kernel_rfl)).trans jy; have kk : k8 5 = jk := (kf 5 (by kernel_rfl)).trans jz; exact L_makeFunc (args3 ki kj kk) (by decide) (L_nil (kh _ _ (Tch.ext kd (Ext.refl k9)) (Ext.refl k9).le rfl (IM_keep kg (Ext.refl k9) rfl rfl rfl rfl)))
     ·intro k7 k8 k9 ka kb kc kd ke kf kg Q kh; have ki : k8 30 = Value.func (.func 64) #[] #[j2, j7, jk] := ke 7 30 (by kernel_rfl) (by kernel_rfl); exact IM_insert (q := 8) Try.underlying101 Try.underlying3 kg (kb 0 (by kernel_rfl)) (wait_of kc 9 (by kernel_rfl)) ka (rv (vi 5)) ki (Vraw rfl) (List.Mem.tail _ (List.Mem.tail _ (List.Mem.tail _ (List.Mem.head _)))) (by show List.Nodup [2, 4, 6, 8]; decide) (by show List.Nodup ([1, 2, 6, 5] : List Int); decide) kd (Nat.le_refl _) (fun kj kk kl km => L_nil (kh undef _ kk kl trivial km))
     ·intro k7 k8 k9 ka kb kc kd ke kf kg Q kh; obtain ⟨ki, kj, kk, kl, km⟩ := IM_done kg (kb 0 (by kernel_rfl)) ka (all_of kb [2, 4, 6, 8] rfl (by kernel_rfl)) (by show List.Nodup ([1, 2, 6, 5] : List Int); decide) kd (Nat.le_refl _); rw [← kj]; exact mv (rv (k8 26)) (L_nil (kh _ _ kk kl km (IM_at rfl)))
     ·intro k7 k8 k9 ka kb kc kd ke kf kg Q kh; have ki : k8 2 = j2 := (kf 2 (by kernel_rfl)).trans jx; exact ld ty67 ki (j4.mono (j8.le.trans (jf.le.trans (jt.le.trans kd.le)))) (fun kj kk => L_nil (kh _ _ (Tch.ext kd (Ext.refl k9)) (Ext.refl k9).le kk.toPtr (IM_keep kg (Ext.refl k9) rfl rfl rfl rfl)))
     ·intro k7 k8 k9 ka kb kc kd ke kf kg Q kh; have ki : Ptr _ (k8 32) (a0 : Run) := ke 10 32 (by kernel_rfl) (by kernel_rfl); obtain ⟨kj, kk, kl⟩ : ∃ v, _ = v ∧ Ptr _ v _ := ⟨_, rfl, ki⟩; exact L_nilCheck_ptr kk kl (by decide) (L_nil (kh _ _ (Tch.ext kd (Ext.refl k9)) (Ext.refl k9).le kl (IM_keep kg (Ext.refl k9) rfl rfl rfl rfl)))
     ·intro k7 k8 k9 ka kb kc kd ke kf kg Q kh; have ki : Ptr _ (k8 33) (a0 : Run) := ke 11 33 (by kernel_rfl) (by kernel_rfl); obtain ⟨kj, kk, kl⟩ : ∃ v, _ = v ∧ Ptr _ v _ := ⟨_, rfl, ki⟩; exact fa fld72_0 Run.of_c kk kl (fun km kn => L_nil (kh _ _ (Tch.ext kd (Ext.refl k9)) (Ext.refl k9).le kn (IM_keep kg (Ext.refl k9) rfl rfl rfl rfl)))
     ·intro k7 k8 k9 ka kb kc kd ke kf kg Q kh; have ki : Ptr _ (k8 34) (a0.c : List (List Deed)) := ke 12 34 (by kernel_rfl) (by kernel_rfl); obtain ⟨kj, kk, kl⟩ : ∃ v, _ = v ∧ Ptr _ v _ := ⟨_, rfl, ki⟩; exact ld ty29 kk kl (fun km kn => L_nil (kh _ _ (Tch.ext kd (Ext.refl k9)) (Ext.refl k9).le kn (IM_keep kg (Ext.refl k9) rfl rfl rfl rfl)))
     ·intro k7 k8 k9 ka kb kc kd ke kf kg Q kh; have ki : k8 3 = j7 := (kf 3 (by kernel_rfl)).trans jy; exact li ty3 ki (j9.mono (jf.le.trans (jt.le.trans kd.le))) (L_nil (kh _ _ (Tch.ext kd (Ext.refl k9)) (Ext.refl k9).le rfl (IM_keep kg (Ext.refl k9) rfl rfl rfl rfl)))
     ·intro k7 k8 k9 ka kb kc kd ke kf kg Q kh; have ki : V _ (k8 35) (a0.c : List (List Deed)) := ke 13 35 (by kernel_rfl) (by kernel_rfl); obtain ⟨kj, kk, kl⟩ : ∃ v, _ = v ∧ V _ v _ := ⟨_, rfl, ki⟩; have km : k8 36 = vi (a1) := ke 14 36 (by kernel_rfl) (by kernel_rfl); exact ix Try.underlying29 ty59.inf kk kl km k3 (fun kn ko => L_nil (kh _ _ (Tch.ext kd (Ext.refl k9)) (Ext.refl k9).le ko (IM_keep kg (Ext.refl k9) rfl rfl rfl rfl)))
     ·intro k7 k8 k9 ka kb kc kd ke kf kg Q kh; have ki : Ptr _ (k8 37) (k2 : List Deed) := ke 15 37 (by kernel_rfl) (by kernel_rfl); obtain ⟨kj, kk, kl⟩ : ∃ v, _ = v ∧ Ptr _ v _ := ⟨_, rfl, ki⟩; exact ld ty59 kk kl (fun km kn => L_nil (kh _ _ (Tch.ext kd (Ext.refl k9)) (Ext.refl k9).le kn (IM_keep kg (Ext.refl k9) rfl rfl rfl rfl)))
     ·intro k7 k8 k9 ka kb kc kd ke kf kg Q kh; have ki : k8 5 = jk := (kf 5 (by kernel_rfl)).trans jz; exact li ty3 ki (jm.mono (jt.le.trans kd.le)) (L_nil (kh _ _ (Tch.ext kd (Ext.refl k9)) (Ext.refl k9).le rfl (IM_keep kg (Ext.refl k9) rfl rfl rfl rfl)))
     ·intro k7 k8 k9 ka kb kc kd ke kf kg Q kh; have ki : V _ (k8 38) (k2 : List Deed) := ke 16 38 (by kernel_rfl) (by kernel_rfl); obtain ⟨kj, kk, kl⟩ : ∃ v, _ = v ∧ V _ v _ := ⟨_, rfl, ki⟩; have km : k8 39 = vi (jb) := ke 17 39 (by kernel_rfl) (by kernel_rfl); exact ix Try.underlying59 ty64.inf kk kl km k5 (fun kn ko => L_nil (kh _ _ (Tch.ext kd (Ext.refl k9)) (Ext.refl k9).le ko (IM_keep kg (Ext.refl k9) rfl rfl rfl rfl)))
     ·intro k7 k8 k9 ka kb kc kd ke kf kg Q kh; have ki : Ptr _ (k8 40) (k4 : Deed) := ke 18 40 (by kernel_rfl) (by kernel_rfl); obtain ⟨kj, kk, kl⟩ : ∃ v, _ = v ∧ Ptr _ v _ := ⟨_, rfl, ki⟩; exact fa fld64_0 Deed.of_Kind kk kl (fun km kn => L_nil (kh _ _ (Tch.ext kd (Ext.refl k9)) (Ext.refl k9).le kn (IM_keep kg (Ext.refl k9) rfl rfl rfl rfl)))
     ·intro k7 k8 k9 ka kb kc kd ke kf kg Q kh; have ki : Ptr _ (k8 41) (k4.Kind : Int) := ke 19 41 (by kernel_rfl) (by kernel_rfl); obtain ⟨kj, kk, kl⟩ : ∃ v, _ = v ∧ Ptr _ v _ := ⟨_, rfl, ki⟩; exact li ty3 kk kl (L_nil (kh _ _ (Tch.ext kd (Ext.refl k9)) (Ext.refl k9).le rfl (IM_keep kg (Ext.refl k9) rfl rfl rfl rfl)))
     ·intro k7 k8 k9 ka kb kc kd ke kf kg Q kh; obtain ⟨ki, kj, kk⟩ : ∃ v, k8 31 = v ∧ MapQ k9 v ([((1 : Int), (⟨Value.func (.func 59) #[] #[j2, j7, jk]⟩ : RawV)), ((2 : Int), (⟨Value.func (.func 61) #[] #[j2, j7, jk]⟩ : RawV)), ((6 : Int), (⟨Value.func (.func 63) #[] #[j2, j7]⟩ : RawV)), ((5 : Int), (⟨Value.func (.func 64) #[] #[j2, j7, jk]⟩ : RawV))] : List (Int × RawV)) := ⟨_, rfl, ke 9 31 (by kernel_rfl) (by kernel_rfl)⟩; have kl : k8 42 = vi (k4.Kind) := ke 20 42 (by kernel_rfl) (by kernel_rfl); refine L_lookup_q (m := ([((1 : Int), (⟨Value.func (.func 59) #[] #[j2, j7, jk]⟩ : RawV)), ((2 : Int), (⟨Value.func (.func 61) #[] #[j2, j7, jk]⟩ : RawV)), ((6 : Int), (⟨Value.func (.func 63) #[] #[j2, j7]⟩ : RawV)), ((5 : Int), (⟨Value.func (.func 64) #[] #[j2, j7, jk]⟩ : RawV))] : List (Int × RawV))) (z0 := (⟨Value.nilFunc⟩ : RawV)) Try.underlying101 Try.underlying3 zero25 (Vraw rfl) kj kl kk (by decide) ?_; have km : mget ([((1 : Int), (⟨Value.func (.func 59) #[] #[j2, j7, jk]⟩ : RawV)), ((2 : Int), (⟨Value.func (.func 61) #[] #[j2, j7, jk]⟩ : RawV)), ((6 : Int), (⟨Value.func (.func 63) #[] #[j2, j7]⟩ : RawV)), ((5 : Int), (⟨Value.func (.func 64) #[] #[j2, j7, jk]⟩ : RawV))] : List (Int × RawV)) k4.Kind = some (⟨Value.func (.func 59) #[] #[j2, j7, jk]⟩ : RawV) := (mget_hit k6); rw [km]; intro kn ko; obtain rfl : kn = _ := ko.raw; exact L_nil (kh _ _ kd (Le.refl _) ⟨_, _, rfl, rfl, rfl⟩ (IM_keep kg (Ext.refl _) rfl rfl rfl rfl))
     ·intro k7 k8 k9 ka kb kc kd ke kf kg Q kh; have ki : (PV.two (PV.eq (Value.func (.func 59) #[] #[j2, j7, jk])) (PV.eq (vb true))).p (k8 43) k9 := ke 21 43 (by kernel_rfl) (by kernel_rfl); obtain ⟨kj, kk, kl, km, kn⟩ := ki; obtain rfl : kj = _ := km; obtain rfl : kk = _ := kn; exact mv kl (L_nil (kh _ _ (Tch.ext kd (Ext.refl k9)) (Ext.refl k9).le ⟨_, _, rfl, rfl, rfl⟩ (IM_keep kg (Ext.refl k9) rfl rfl rfl rfl)))
     ·intro k7 k8 k9 ka kb kc kd ke kf kg Q kh; have ki : (PV.two (PV.eq (Value.func (.func 59) #[] #[j2, j7, jk])) (PV.eq (vb true))).p (k8 25) k9 := ke 22 25 (by kernel_rfl) (by kernel_rfl); obtain ⟨kj, kk, kl, km, kn⟩ := ki; obtain rfl : kj = _ := km; obtain rfl : kk = _ := kn; exact xt kl (k := 0) rfl (L_nil (kh _ _ (Tch.ext kd (Ext.refl k9)) (Ext.refl k9).le rfl (IM_keep kg (Ext.refl k9) rfl rfl rfl rfl)))
     ·intro k7 k8 k9 ka kb kc kd ke kf kg Q kh; have ki : (PV.two (PV.eq (Value.func (.func 59) #[] #[j2, j7, jk])) (PV.eq (vb true))).p (k8 25) k9 := ke 22 25 (by kernel_rfl) (by kernel_rfl); obtain ⟨kj, kk, kl, km, kn⟩ := ki; obtain rfl : kj = _ := km; obtain rfl : kk = _ := kn; exact xt kl (k := 1) rfl (L_nil (kh _ _ (Tch.ext kd (Ext.refl k9)) (Ext.refl k9).le rfl (IM_keep kg (Ext.refl k9) rfl rfl rfl rfl)))
     ·intro k7 k8 k9 ka kb kc kd ke kf kg Q kh; have ki : k8 44 = Value.func (.func 59) #[] #[j2, j7, jk] := ke 23 44 (by kernel_rfl) (by kernel_rfl); exact asg ki (L_nil (kh _ _ (Tch.ext kd (Ext.refl k9)) (Ext.refl k9).le rfl (IM_keep kg (Ext.refl k9) rfl rfl rfl rfl)))
     ·intro k7 k8 k9 ka kb kc kd ke kf kg Q kh; have ki : k8 45 = vb (true) := ke 24 45 (by kernel_rfl) (by kernel_rfl); exact asg ki (L_nil (kh _ _ (Tch.ext kd (Ext.refl k9)) (Ext.refl k9).le rfl (IM_keep kg (Ext.refl k9) rfl rfl rfl rfl)))
     ·intro k7 k8 k9 ka kb; have kc := Tch.ext jw k9; have kd : k7 6 = Value.func (.func 59) #[] #[j2, j7, jk] := ka 25 6 (by kernel_rfl); have ke : k7 7 = vb (true) := ka 26 7 (by kernel_rfl); refine then_n (sr (mv ke (L_not (rv (vb true)) (by decide) (mv (rv (vb (!true))) (gt 48 (rv (vb (!true))) rfl (mv kd (gt 48 (rv (vb (!true))) rfl ?_))))))); obtain ⟨kf, kg, hr⟩ := bind_some hr; refine L_callv cal59 (rv (Value.func (.func 59) #[] #[j2, j7, jk])) (args0) (dead_run_can_1_ok N _ _ _ (j4.mono (j8.le.trans (jf.le.trans (jt.le.trans k9.le)))) _ _ (j9.mono (jf.le.trans (jt.le.trans k9.le))) _ _ (jm.mono (jt.le.trans k9.le)) kf kg) (by decide) (fun kh ki kj kk => ?_); have kl := Tch.ext kc kj; obtain rfl := kk.bool; refine pf (rv (vb (!true))) rfl (rv (vb kf)) (asg (rv (vb kf)) (nn (W_ret ?_))); obtain rfl := Option.some.inj hr; exact done1 (Or.inl rfl) Try.results32 rfl ⟨_, _, rfl, rfl, kl, Vbool⟩
    ·have hr := ite_f k6 hr
     rcases tf (decide (k4.Kind = (2 : Int))) with k7 | k7
     ·have hr := ite_t k7 hr
      refine W_drawI mixed (by kernel_rfl) (IM js.w.heap.size 26 0 9 ([(2, (1 : Int), (⟨Value.func (.func 59) #[] #[j2, j7, jk]⟩ : RawV)), (4, (2 : Int), (⟨Value.func (.func 61) #[] #[j2, j7, jk]⟩ : RawV)), (6, (6 : Int), (⟨Value.func (.func 63) #[] #[j2, j7]⟩ : RawV)), (8, (5 : Int), (⟨Value.func (.func 64) #[] #[j2, j7, jk]⟩ : RawV))] : List (Nat × Int × RawV))) [PL.any, PL.eq (Value.func (.func 59) #[] #[j2, j7, jk]), PL.any, PL.eq (Value.func (.func 61) #[] #[j2, j7, jk]), PL.any, PL.eq (Value.func (.func 63) #[] #[j2, j7]), PL.any, PL.eq (Value.func (.func 64) #[] #[j2, j7, jk]), PL.any, PL.mapq ([((1 : Int), (⟨Value.func (.func 59) #[] #[j2, j7, jk]⟩ : RawV)), ((2 : Int), (⟨Value.func (.func 61) #[] #[j2, j7, jk]⟩ : RawV)), ((6 : Int), (⟨Value.func (.func 63) #[] #[j2, j7]⟩ : RawV)), ((5 : Int), (⟨Value.func (.func 64) #[] #[j2, j7, jk]⟩ : RawV))] : List (Int × RawV)), PL.ptr (a0 : Run), PL.ptr (a0 : Run), PL.ptr (a0.c : List (List Deed)), PL.data (a0.c : List (List Deed)), PL.eq (vi a1), PL.ptr (k2 : List Deed), PL.data (k2 : List Deed), PL.eq (vi jb), PL.ptr (k4 : Deed), PL.ptr (k4.Kind : Int), PL.eq (vi (k4.Kind)), PL.two (PL.eq (Value.func (.func 61) #[] #[j2, j7, jk])) (PL.eq (vb true)), PL.two (PL.eq (Value.func (.func 61) #[] #[j2, j7, jk])) (PL.eq (vb true)), PL.eq (Value.func (.func 61) #[] #[j2, j7, jk]), PL.eq (vb true), PL.eq (Value.func (.func 61) #[] #[j2, j7, jk]), PL.eq (vb true)] (fun _ => IM_none) (StepsI_cons ?_ (StepsI_cons ?_ (StepsI_cons ?_ (StepsI_cons ?_ (StepsI_cons ?_ (StepsI_cons ?_ (StepsI_cons ?_ (StepsI_cons ?_ (StepsI_cons ?_ (StepsI_cons ?_ (StepsI_cons ?_ (StepsI_cons ?_ (StepsI_cons ?_ (StepsI_cons ?_ (StepsI_cons ?_ (StepsI_cons ?_ (StepsI_cons ?_ (StepsI_cons ?_ (StepsI_cons ?_ (StepsI_cons ?_ (StepsI_cons ?_ (StepsI_cons ?_ (StepsI_cons ?_ (StepsI_cons ?_ (StepsI_cons ?_ (StepsI_cons ?_ (StepsI_cons ?_ StepsI_nil))))))))))))))))))))))))))) ?_
      ·intro k8 k9 ka kb kc kd ke kf kg kh Q ki; exact L_makeMap (β := RawV) (by decide) (fun kj kk kl km kn => L_nil (ki _ _ (Tch.ext ke kl) kl.le trivial (IM_new kn (Nat.le_trans ke.size km) (all_of (wait_of kd) [2, 4, 6, 8] rfl (by kernel_rfl)) rfl)))
      ·intro k8 k9 ka kb kc kd ke kf kg kh Q ki; have kj : k9 2 = j2 := (kg 2 (by kernel_rfl)).trans jx; have kk : k9 3 = j7 := (kg 3 (by kernel_rfl)).trans jy; have kl : k9 5 = jk := (kg 5 (by kernel_rfl)).trans jz; exact L_makeFunc (args3 kj kk kl) (by decide) (L_nil (ki _ _ (Tch.ext ke (Ext.refl ka)) (Ext.refl ka).le rfl (IM_keep kh (Ext.refl ka) rfl rfl rfl rfl)))
      ·intro k8 k9 ka kb kc kd ke kf kg kh Q ki; have kj : k9 27 = Value.func (.func 59) #[] #[j2, j7, jk] := kf 1 27 (by kernel_rfl) (by kernel_rfl); exact IM_insert (q := 2) Try.underlying101 Try.underlying3 kh (kc 0 (by kernel_rfl)) (wait_of kd 9 (by kernel_rfl)) kb (rv (vi 1)) kj (Vraw rfl) (List.Mem.head _) (by show List.Nodup [2, 4, 6, 8]; decide) (by show List.Nodup ([1, 2, 6, 5] : List Int); decide) ke (Nat.le_refl _) (fun kk kl km kn => L_nil (ki undef _ kl km trivial kn))
      ·intro k8 k9 ka kb kc kd ke kf kg kh Q ki; have kj : k9 2 = j2 := (kg 2 (by kernel_rfl)).trans jx; have kk : k9 3 = j7 := (kg 3 (by kernel_rfl)).trans jy; have kl : k9 5 = jk := (kg 5 (by kernel_rfl)).trans jz; exact L_makeFunc (args3 kj kk kl) (by decide) (L_nil (ki _ _ (Tch.ext ke (Ext.refl ka)) (Ext.refl ka).le rfl (IM_keep kh (Ext.refl ka) rfl rfl rfl rfl)))
      ·intro k8 k9 ka kb kc kd ke kf kg kh Q ki; have kj : k9 28 = Value.func (.func 61) #[] #[j2, j7, jk] := kf 3 28 (by kernel_rfl) (by kernel_rfl); exact IM_insert (q := 4) Try.underlying101 Try.underlying3 kh (kc 0 (by kernel_rfl)) (wait_of kd 9 (by kernel_rfl)) kb (rv (vi 2)) kj (Vraw rfl) (List.Mem.tail _ (List.Mem.head _)) (by show List.Nodup [2, 4, 6, 8]; decide) (by show List.Nodup ([1, 2, 6, 5] : List Int); decide) ke (Nat.le_refl _) (fun kk kl km kn => L_nil (ki undef _ kl km trivial kn))
      ·intro k8 k9 ka kb kc kd ke kf kg kh Q ki; have kj : k9 2 = j2 := (kg 2 (by kernel_rfl)).trans jx; have kk : k9 3 = j7 := (kg 3 (by kernel_rfl)).trans jy; exact L_makeFunc (args2 kj kk) (by decide) (L_nil (ki _ _ (Tch.ext ke (Ext.refl ka)) (Ext.refl ka).le rfl (IM_keep kh (Ext.refl ka) rfl rfl rfl rfl)))
      ·intro k8 k9 ka kb kc kd ke kf kg kh Q ki; have kj : k9 29 = Value.func (.func 63) #[] #[j2, j7] := kf 5 29 (by kernel_rfl) (by kernel_rfl); exact IM_insert (q := 6) Try.underlying101 Try.underlying3 kh (kc 0 (by kernel_rfl)) (wait_of kd 9 (by kernel_rfl)) kb (rv (vi 6)) kj (Vraw rfl) (List.Mem.tail _ (List.Mem.tail _ (List.Mem.head _))) (by show List.Nodup [2, 4, 6, 8]; decide) (by show List.Nodup ([1, 2, 6, 5] : List Int); decide) ke (Nat.le_refl _) (fun kk kl km kn => L_nil (ki undef _ kl km trivial kn))
      ·intro k8 k9 ka kb kc kd ke kf kg kh Q ki; have kj : k9 2 = j2 := (kg 2 (by kernel_rfl)).trans jx; have kk : k9 3 = j7 := (kg 3 (by kernel_rfl)).trans jy; have kl : k9 5 = jk := (kg 5 (by kernel_rfl)).trans jz; exact L_makeFunc (args3 kj kk kl) (by decide) (L_nil (ki _ _ (Tch.ext ke (Ext.refl ka)) (Ext.refl ka).le rfl (IM_keep kh (Ext.refl ka) rfl rfl rfl rfl)))
      ·intro k8 k9 ka kb kc kd ke kf kg kh Q ki; have kj : k9 30 = Value.func (.func 64) #[] #[j2, j7, jk] := kf 7 30 (by kernel_rfl) (by kernel_rfl); exact IM_insert (q := 8) Try.underlying101 Try.underlying3 kh (kc 0 (by kernel_rfl)) (wait_of kd 9 (by kernel_rfl)) kb (rv (vi 5)) kj (Vraw rfl) (List.Mem.tail _ (List.Mem.tail _ (List.Mem.tail _ (List.Mem.head _)))) (by show List.Nodup [2, 4, 6, 8]; decide) (by show List.Nodup ([1, 2, 6, 5] : List Int); decide) ke (Nat.le_refl _) (fun kk kl km kn => L_nil (ki undef _ kl km trivial kn))
      ·intro k8 k9 ka kb kc kd ke kf kg kh Q ki; obtain ⟨kj, kk, kl, km, kn⟩ := IM_done kh (kc 0 (by kernel_rfl)) kb (all_of kc [2, 4, 6, 8] rfl (by kernel_rfl)) (by show List.Nodup ([1, 2, 6, 5] : List Int); decide) ke (Nat.le_refl _); rw [← kk]; exact mv (rv (k9 26)) (L_nil (ki _ _ kl km kn (IM_at rfl)))
      ·intro k8 k9 ka kb kc kd ke kf kg kh Q ki; have kj : k9 2 = j2 := (kg 2 (by kernel_rfl)).trans jx; exact ld ty67 kj (j4.mono (j8.le.trans (jf.le.trans (jt.le.trans ke.le)))) (fun kk kl => L_nil (ki _ _ (Tch.ext ke (Ext.refl ka)) (Ext.refl ka).le kl.toPtr (IM_keep kh (Ext.refl ka) rfl rfl rfl rfl)))
      ·intro k8 k9 ka kb kc kd ke kf kg kh Q ki; have kj : Ptr _ (k9 32) (a0 : Run) := kf 10 32 (by kernel_rfl) (by kernel_rfl); obtain ⟨kk, kl, km⟩ : ∃ v, _ = v ∧ Ptr _ v _ := ⟨_, rfl, kj⟩; exact L_nilCheck_ptr kl km (by decide) (L_nil (ki _ _ (Tch.ext ke (Ext.refl ka)) (Ext.refl ka).le km (IM_keep kh (Ext.refl ka) rfl rfl rfl rfl)))
      ·intro k8 k9 ka kb kc kd ke kf kg kh Q ki; have kj : Ptr _ (k9 33) (a0 : Run) := kf 11 33 (by kernel_rfl) (by kernel_rfl); obtain ⟨kk, kl, km⟩ : ∃ v, _ = v ∧ Ptr _ v _ := ⟨_, rfl, kj⟩; exact fa fld72_0 Run.of_c kl km (fun kn ko => L_nil (ki _ _ (Tch.ext ke (Ext.refl ka)) (Ext.refl ka).le ko (IM_keep kh (Ext.refl ka) rfl rfl rfl rfl)))
      ·intro k8 k9 ka kb kc kd ke kf kg kh Q ki; have kj : Ptr _ (k9 34) (a0.c : List (List Deed)) := kf 12 34 (by kernel_rfl) (by kernel_rfl); obtain ⟨kk, kl, km⟩ : ∃ v, _ = v ∧ Ptr _ v _ := ⟨_, rfl, kj⟩; exact ld ty29 kl km (fun kn ko => L_nil (ki _ _ (Tch.ext ke (Ext.refl ka)) (Ext.refl ka).le ko (IM_keep kh (Ext.refl ka) rfl rfl rfl rfl)))
      ·intro k8 k9 ka kb kc kd ke kf kg kh Q ki; have kj : k9 3 = j7 := (kg 3 (by kernel_rfl)).trans jy; exact li ty3 kj (j9.mono (jf.le.trans (jt.le.trans ke.le))) (L_nil (ki _ _ (Tch.ext ke (Ext.refl ka)) (Ext.refl ka).le rfl (IM_keep kh (Ext.refl ka) rfl rfl rfl rfl)))
      ·intro k8 k9 ka kb kc kd ke kf kg kh Q ki; have kj : V _ (k9 35) (a0.c : List (List Deed)) := kf 13 35 (by kernel_rfl) (by kernel_rfl); obtain ⟨kk, kl, km⟩ : ∃ v, _ = v ∧ V _ v _ := ⟨_, rfl, kj⟩; have kn : k9 36 = vi (a1) := kf 14 36 (by kernel_rfl) (by kernel_rfl); exact ix Try.underlying29 ty59.inf kl km kn k3 (fun ko kp => L_nil (ki _ _ (Tch.ext ke (Ext.refl ka)) (Ext.refl ka).le kp (IM_keep kh (Ext.refl ka) rfl rfl rfl rfl)))
      ·intro k8 k9 ka kb kc kd ke kf kg kh Q ki; have kj : Ptr _ (k9 37) (k2 : List Deed) := kf 15 37 (by kernel_rfl) (by kernel_rfl); obtain ⟨kk, kl, km⟩ : ∃ v, _ = v ∧ Ptr _ v _ := ⟨_, rfl, kj⟩; exact ld ty59 kl km (fun kn ko => L_nil (ki _ _ (Tch.ext ke (Ext.refl ka)) (Ext.refl ka).le ko (IM_keep kh (Ext.refl ka) rfl rfl rfl rfl)))
      ·intro k8 k9 ka kb kc kd ke kf kg kh Q ki; have kj : k9 5 = jk := (kg 5 (by kernel_rfl)).trans jz; exact li ty3 kj (jm.mono (jt.le.trans ke.le)) (L_nil (ki _ _ (Tch.ext ke (Ext.refl ka)) (Ext.refl ka).le rfl (IM_keep kh (Ext.refl ka) rfl rfl rfl rfl)))
      ·intro k8 k9 ka kb kc kd ke kf kg kh Q ki; have kj : V _ (k9 38) (k2 : List Deed) := kf 16 38 (by kernel_rfl) (by kernel_rfl); obtain ⟨kk, kl, km⟩ : ∃ v, _ = v ∧ V _ v _ := ⟨_, rfl, kj⟩; have kn : k9 39 = vi (jb) := kf 17 39 (by kernel_rfl) (by kernel_rfl); exact ix Try.underlying59 ty64.inf kl km kn k5 (fun ko kp => L_nil (ki _ _ (Tch.ext ke (Ext.refl ka)) (Ext.refl ka).le kp (IM_keep kh (Ext.refl ka) rfl rfl rfl rfl)))
      ·intro k8 k9 ka kb kc kd ke kf kg kh Q ki; have kj : Ptr _ (k9 40) (k4 : Deed) := kf 18 40 (by kernel_rfl) (by kernel_rfl); obtain ⟨kk, kl, km⟩ : ∃ v, _ = v ∧ Ptr _ v _ := ⟨_, rfl, kj⟩; exact fa fld64_0 Deed.of_Kind kl km (fun kn ko => L_nil (ki _ _ (Tch.ext ke (Ext.refl ka)) (Ext.refl ka).le ko (IM_keep kh (Ext.refl ka) rfl rfl rfl rfl)))
      ·intro k8 k9 ka kb kc kd ke kf kg kh Q ki; have kj : Ptr _ (k9 41) (k4.Kind : Int) := kf 19 41 (by kernel_rfl) (by kernel_rfl); obtain ⟨kk, kl, km⟩ : ∃ v, _ = v ∧ Ptr _ v _ := ⟨_, rfl, kj⟩; exact li ty3 kl km (L_nil (ki _ _ (Tch.ext ke (Ext.refl ka)) (Ext.refl ka).le rfl (IM_keep kh (Ext.refl ka) rfl rfl rfl rfl)))
      ·intro k8 k9 ka kb kc kd ke kf kg kh Q ki; obtain ⟨kj, kk, kl⟩ : ∃ v, k9 31 = v ∧ MapQ ka v ([((1 : Int), (⟨Value.func (.func 59) #[] #[j2, j7, jk]⟩ : RawV)), ((2 : Int), (⟨Value.func (.func 61) #[] #[j2, j7, jk]⟩ : RawV)), ((6 : Int), (⟨Value.func (.func 63) #[] #[j2, j7]⟩ : RawV)), ((5 : Int), (⟨Value.func (.func 64) #[] #[j2, j7, jk]⟩ : RawV))] : List (Int × RawV)) := ⟨_, rfl, kf 9 31 (by kernel_rfl) (by kernel_rfl)⟩; have km : k9 42 = vi (k4.Kind) := kf 20 42 (by kernel_rfl) (by kernel_rfl); refine L_lookup_q (m := ([((1 : Int), (⟨Value.func (.func 59) #[] #[j2, j7, jk]⟩ : RawV)), ((2 : Int), (⟨Value.func (.func 61) #[] #[j2, j7, jk]⟩ : RawV)), ((6 : Int), (⟨Value.func (.func 63) #[] #[j2, j7]⟩ : RawV)), ((5 : Int), (⟨Value.func (.func 64) #[] #[j2, j7, jk]⟩ : RawV))] : List (Int × RawV))) (z0 := (⟨Value.nilFunc⟩ : RawV)) Try.underlying101 Try.underlying3 zero25 (Vraw rfl) kk km kl (by decide) ?_; have kn : mget ([((1 : Int), (⟨Value.func (.func 59) #[] #[j2, j7, jk]⟩ : RawV)), ((2 : Int), (⟨Value.func (.func 61) #[] #[j2, j7, jk]⟩ : RawV)), ((6 : Int), (⟨Value.func (.func 63) #[] #[j2, j7]⟩ : RawV)), ((5 : Int), (⟨Value.func (.func 64) #[] #[j2, j7, jk]⟩ : RawV))] : List (Int × RawV)) k4.Kind = some (⟨Value.func (.func 61) #[] #[j2, j7, jk]⟩ : RawV) := (mget_skip k6 (mget_hit k7)); rw [kn]; intro ko kp; obtain rfl : ko = _ := kp.raw; exact L_nil (ki _ _ ke (Le.refl _) ⟨_, _, rfl, rfl, rfl⟩ (IM_keep kh (Ext.refl _) rfl rfl rfl rfl))
      ·intro k8 k9 ka kb kc kd ke kf kg kh Q ki; have kj : (PV.two (PV.eq (Value.func (.func 61) #[] #[j2, j7, jk])) (PV.eq (vb true))).p (k9 43) ka := kf 21 43 (by kernel_rfl) (by kernel_rfl); obtain ⟨kk, kl, km, kn, ko⟩ := kj; obtain rfl : kk = _ := kn; obtain rfl : kl = _ := ko; exact mv km (L_nil (ki _ _ (Tch.ext ke (Ext.refl ka)) (Ext.refl ka).le ⟨_, _, rfl, rfl, rfl⟩ (IM_keep kh (Ext.refl ka) rfl rfl rfl rfl)))
      ·intro k8 k9 ka kb kc kd ke kf kg kh Q ki; have kj : (PV.two (PV.eq (Value.func (.func 61) #[] #[j2, j7, jk])) (PV.eq (vb true))).p (k9 25) ka := kf 22 25 (by kernel_rfl) (by kernel_rfl); obtain ⟨kk, kl, km, kn, ko⟩ := kj; obtain rfl : kk = _ := kn; obtain rfl : kl = _ := ko; exact xt km (k := 0) rfl (L_nil (ki _ _ (Tch.ext ke (Ext.refl ka)) (Ext.refl ka).le rfl (IM_keep kh (Ext.refl ka) rfl rfl rfl rfl)))
      ·intro k8 k9 ka kb kc kd ke kf kg kh Q ki; have kj : (PV.two (PV.eq (Value.func (.func 61) #[] #[j2, j7, jk])) (PV.eq (vb true))).p (k9 25) ka := kf 22 25 (by kernel_rfl) (by kernel_rfl); obtain ⟨kk, kl, km, kn, ko⟩ := kj; obtain rfl : kk = _ := kn; obtain rfl : kl = _ := ko; exact xt km (k := 1) rfl (L_nil (ki _ _ (Tch.ext ke (Ext.refl ka)) (Ext.refl ka).le rfl (IM_keep kh (Ext.refl ka) rfl rfl rfl rfl)))
      ·intro k8 k9 ka kb kc kd ke kf kg kh Q ki; have kj : k9 44 = Value.func (.func 61) #[] #[j2, j7, jk] := kf 23 44 (by kernel_rfl) (by kernel_rfl); exact asg kj (L_nil (ki _ _ (Tch.ext ke (Ext.refl ka)) (Ext.refl ka).le rfl (IM_keep kh (Ext.refl ka) rfl rfl rfl rfl)))
      ·intro k8 k9 ka kb kc kd ke kf kg kh Q ki; have kj : k9 45 = vb (true) := kf 24 45 (by kernel_rfl) (by kernel_rfl); exact asg kj (L_nil (ki _ _ (Tch.ext ke (Ext.refl ka)) (Ext.refl ka).le rfl (IM_keep kh (Ext.refl ka) rfl rfl rfl rfl)))
      ·intro k8 k9 ka kb kc; have kd := Tch.ext jw ka; have ke : k8 6 = Value.func (.func 61) #[] #[j2, j7, jk] := kb 25 6 (by kernel_rfl); have kf : k8 7 = vb (true) := kb 26 7 (by kernel_rfl); refine then_n (sr (mv kf (L_not (rv (vb true)) (by decide) (mv (rv (vb (!true))) (gt 48 (rv (vb (!true))) rfl (mv ke (gt 48 (rv (vb (!true))) rfl ?_))))))); obtain ⟨kg, kh, hr⟩ := bind_some hr; refine L_callv cal61 (rv (Value.func (.func 61) #[] #[j2, j7, jk])) (args0) (dead_run_can_2_ok N _ _ _ (j4.mono (j8.le.trans (jf.le.trans (jt.le.trans ka.le)))) _ _ (j9.mono (jf.le.trans (jt.le.trans ka.le))) _ _ (jm.mono (jt.le.trans ka.le)) kg kh) (by decide) (fun ki kj kk kl => ?_); have km := Tch.ext kd kk; obtain rfl := kl.bool; refine pf (rv (vb (!true))) rfl (rv (vb kg)) (asg (rv (vb kg)) (nn (W_ret ?_))); obtain rfl := Option.some.inj hr; exact done1 (Or.inl rfl) Try.results32 rfl ⟨_, _, rfl, rfl, km, Vbool⟩
     ·have hr := ite_f k7 hr
      rcases tf (decide (k4.Kind = (6 : Int))) with k8 | k8
      ·have hr := ite_t k8 hr
       refine W_drawI mixed (by kernel_rfl) (IM js.w.heap.size 26 0 9 ([(2, (1 : Int), (⟨Value.func (.func 59) #[] #[j2, j7, jk]⟩ : RawV)), (4, (2 : Int), (⟨Value.func (.func 61) #[] #[j2, j7, jk]⟩ : RawV)), (6, (6 : Int), (⟨Value.func (.func 63) #[] #[j2, j7]⟩ : RawV)), (8, (5 : Int), (⟨Value.func (.func 64) #[] #[j2, j7, jk]⟩ : RawV))] : List (Nat × Int × RawV))) [PL.any, PL.eq (Value.func (.func 59) #[] #[j2, j7, jk]), PL.any, PL.eq (Value.func (.func 61) #[] #[j2, j7, jk]), PL.any, PL.eq (Value.func (.func 63) #[] #[j2, j7]), PL.any, PL.eq (Value.func (.func 64) #[] #[j2, j7, jk]), PL.any, PL.mapq ([((1 : Int), (⟨Value.func (.func 59) #[] #[j2, j7, jk]⟩ : RawV)), ((2 : Int), (⟨Value.func (.func 61) #[] #[j2, j7, jk]⟩ : RawV)), ((6 : Int), (⟨Value.func (.func 63) #[] #[j2, j7]⟩ : RawV)), ((5 : Int), (⟨Value.func (.func 64) #[] #[j2, j7, jk]⟩ : RawV))] : List (Int × RawV)), PL.ptr (a0 : Run), PL.ptr (a0 : Run), PL.ptr (a0.c : List (List Deed)), PL.data (a0.c : List (List Deed)), PL.eq (vi a1), PL.ptr (k2 : List Deed), PL.data (k2 : List Deed), PL.eq (vi jb), PL.ptr (k4 : Deed), PL.ptr (k4.Kind : Int), PL.eq (vi (k4.Kind)), PL.two (PL.eq (Value.func (.func 63) #[] #[j2, j7])) (PL.eq (vb true)), PL.two (PL.eq (Value.func (.func 63) #[] #[j2, j7])) (PL.eq (vb true)), PL.eq (Value.func (.func 63) #[] #[j2, j7]), PL.eq (vb true), PL.eq (Value.func (.func 63) #[] #[j2, j7]), PL.eq (vb true)] (fun _ => IM_none) (StepsI_cons ?_ (StepsI_cons ?_ (StepsI_cons ?_ (StepsI_cons ?_ (StepsI_cons ?_ (StepsI_cons ?_ (StepsI_cons ?_ (StepsI_cons ?_ (StepsI_cons ?_ (StepsI_cons ?_ (StepsI_cons ?_ (StepsI_cons ?_ (StepsI_cons ?_ (StepsI_cons ?_ (StepsI_cons ?_ (StepsI_cons ?_ (StepsI_cons ?_ (StepsI_cons ?_ (StepsI_cons ?_ (StepsI_cons ?_ (StepsI_cons ?_ (StepsI_cons ?_ (StepsI_cons ?_ (StepsI_cons ?_ (StepsI_cons ?_ (StepsI_cons ?_ (StepsI_cons ?_ StepsI_nil))))))))))))))))))))))))))) ?_
       ·intro k9 ka kb kc kd ke kf kg kh ki Q kj; exact L_makeMap (β := RawV) (by decide) (fun kk kl km kn ko => L_nil (kj _ _ (Tch.ext kf km) km.le trivial (IM_new ko (Nat.le_trans kf.size kn) (all_of (wait_of ke) [2, 4, 6, 8] rfl (by kernel_rfl)) rfl)))
       ·intro k9 ka kb kc kd ke kf kg kh ki Q kj; have kk : ka 2 = j2 := (kh 2 (by kernel_rfl)).trans jx; have kl : ka 3 = j7 := (kh 3 (by kernel_rfl)).trans jy; have km : ka 5 = jk := (kh 5 (by kernel_rfl)).trans jz; exact L_makeFunc (args3 kk kl km) (by decide) (L_nil (kj _ _ (Tch.ext kf (Ext.refl kb)) (Ext.refl kb).le rfl (IM_keep ki (Ext.refl kb) rfl rfl rfl rfl)))
       ·intro k9 ka kb kc kd ke kf kg kh ki Q kj; have kk : ka 27 = Value.func (.func 59) #[] #[j2, j7, jk] := kg 1 27 (by kernel_rfl) (by kernel_rfl); exact IM_insert (q := 2) Try.underlying101 Try.underlying3 ki (kd 0 (by kernel_rfl)) (wait_of ke 9 (by kernel_rfl)) kc (rv (vi 1)) kk (Vraw rfl) (List.Mem.head _) (by show List.Nodup [2, 4, 6, 8]; decide) (by show List.Nodup ([1, 2, 6, 5] : List Int); decide) kf (Nat.le_refl _) (fun kl km kn ko => L_nil (kj undef _ km kn trivial ko))
       ·intro k9 ka kb kc kd ke kf kg kh ki Q kj; have kk : ka 2 = j2 := (kh 2 (by kernel_rfl)).trans jx; have kl : ka 3 = j7 := (kh 3 (by kernel_rfl)).trans jy; have km : ka 5 = jk := (kh 5 (by kernel_rfl)).trans jz; exact L_makeFunc (args3 kk kl km) (by decide) (L_nil (kj _ _ (Tch.ext kf (Ext.refl kb)) (Ext.refl kb).le rfl (IM_keep ki (Ext.refl kb) rfl rfl rfl rfl)))
       ·intro k9 ka kb kc kd ke kf kg kh ki Q kj; have kk : ka 28 = Value.func (.func 61) #[] #[j2, j7, jk] := kg 3 28 (by kernel_rfl) (by kernel_rfl); exact IM_insert (q := 4) Try.underlying101 Try.underlying3 ki (kd 0 (by kernel_rfl)) (wait_of ke 9 (by kernel_rfl)) kc (rv (vi 2)) kk (Vraw rfl) (List.Mem.tail _ (List.Mem.head _)) (by show List.Nodup [2, 4, 6, 8]; decide) (by show List.Nodup ([1, 2, 6, 5] : List Int); decide) kf (Nat.le_refl _) (fun kl km kn ko => L_nil (kj undef _ km kn trivial ko))
       ·intro k9 ka kb kc kd ke kf kg kh ki Q kj; have kk : ka 2 = j2 := (kh 2 (by kernel_rfl)).trans jx; have kl : ka 3 = j7 := (kh 3 (by kernel_rfl)).trans jy; exact L_makeFunc (args2 kk kl) (by decide) (L_nil (kj _ _ (Tch.ext kf (Ext.refl kb)) (Ext.refl kb).le rfl (IM_keep ki (Ext.refl kb) rfl rfl rfl rfl)))
       ·intro k9 ka kb kc kd ke kf kg kh ki Q kj; have kk : ka 29 = Value.func (.func 63) #[] #[j2, j7] := kg 5 29 (by kernel_rfl) (by kernel_rfl); exact IM_insert (q := 6) Try.underlying101 Try.underlying3 ki (kd 0 (by kernel_rfl)) (wait_of ke 9 (by kernel_rfl)) kc (rv (vi 6)) kk (Vraw rfl) (List.Mem.tail _ (List.Mem.tail _ (List.Mem.head _))) (by show List.Nodup [2, 4, 6, 8]; decide) (by show List.Nodup ([1, 2, 6, 5] : List Int); decide) kf (Nat.le_refl _) (fun kl km kn ko => L_nil (kj undef _ km kn trivial ko))
       ·intro k9 ka kb kc kd ke kf kg kh ki Q kj; have kk : ka 2 = j2 := (kh 2 (by kernel_rfl)).trans jx; have kl : ka 3 = j7 := (kh 3 (by kernel_rfl)).trans jy; have km : ka 5 = jk := (kh 5 (by kernel_rfl)).trans jz; exact L_makeFunc (args3 kk kl km) (by decide) (L_nil (kj _ _ (Tch.ext kf (Ext.refl kb)) (Ext.refl kb).le rfl (IM_keep ki (Ext.refl kb) rfl rfl rfl rfl)))
       ·intro k9 ka kb kc kd ke kf kg kh ki Q kj; have kk : ka 30 = Value.func (.func 64) #[] #[j2, j7, jk] := kg 7 30 (by kernel_rfl) (by kernel_rfl); exact IM_insert (q := 8) Try.underlying101 Try.underlying3 ki (kd 0 (by kernel_rfl)) (wait_of ke 9 (by kernel_rfl)) kc (rv (vi 5)) kk (Vraw rfl) (List.Mem.tail _ (List.Mem.tail _ (List.Mem.tail _ (List.Mem.head _)))) (by show List.Nodup [2, 4, 6, 8]; decide) (by show List.Nodup ([1, 2, 6, 5] : List Int); decide) kf (Nat.le_refl _) (fun kl km kn ko => L_nil (kj undef _ km kn trivial ko))
       ·intro k9 ka kb kc kd ke kf kg kh ki Q kj; obtain ⟨kk, kl, km, kn, ko⟩ := IM_done ki (kd 0 (by kernel_rfl)) kc (all_of kd [2, 4, 6, 8] rfl (by kernel_rfl)) (by show List.Nodup ([1, 2, 6, 5] : List Int); decide) kf (Nat.le_refl _); rw [← kl]; exact mv (rv (ka 26)) (L_nil (kj _ _ km kn ko (IM_at rfl)))
       ·intro k9 ka kb kc kd ke kf kg kh ki Q kj; have kk : ka 2 = j2 := (kh 2 (by kernel_rfl)).trans jx; exact ld ty67 kk (j4.mono (j8.le.trans (jf.le.trans (jt.le.trans kf.le)))) (fun kl km => L_nil (kj _ _ (Tch.ext kf (Ext.refl kb)) (Ext.refl kb).le km.toPtr (IM_keep ki (Ext.refl kb) rfl rfl rfl rfl)))
       ·intro k9 ka kb kc kd ke kf kg kh ki Q kj; have kk : Ptr _ (ka 32) (a0 : Run) := kg 10 32 (by kernel_rfl) (by kernel_rfl); obtain ⟨kl, km, kn⟩ : ∃ v, _ = v ∧ Ptr _ v _ := ⟨_, rfl, kk⟩; exact L_nilCheck_ptr km kn (by decide) (L_nil (kj _ _ (Tch.ext kf (Ext.refl kb)) (Ext.refl kb).le kn (IM_keep ki (Ext.refl kb) rfl rfl rfl rfl)))
       ·intro k9 ka kb kc kd ke kf kg kh ki Q kj; have kk : Ptr _ (ka 33) (a0 : Run) := kg 11 33 (by kernel_rfl) (by kernel_rfl); obtain ⟨kl, km, kn⟩ : ∃ v, _ = v ∧ Ptr _ v _ := ⟨_, rfl, kk⟩; exact fa fld72_0 Run.of_c km kn (fun ko kp => L_nil (kj _ _ (Tch.ext kf (Ext.refl kb)) (Ext.refl kb).le kp (IM_keep ki (Ext.refl kb) rfl rfl rfl rfl)))
       ·intro k9 ka kb kc kd ke kf kg kh ki Q kj; have kk : Ptr _ (ka 34) (a0.c : List (List Deed)) := kg 12 34 (by kernel_rfl) (by kernel_rfl); obtain ⟨kl, km, kn⟩ : ∃ v, _ = v ∧ Ptr _ v _ := ⟨_, rfl, kk⟩; exact ld ty29 km kn (fun ko kp => L_nil (kj _ _ (Tch.ext kf (Ext.refl kb)) (Ext.refl kb).le kp (IM_keep ki (Ext.refl kb) rfl rfl rfl rfl)))
       ·intro k9 ka kb kc kd ke kf kg kh ki Q kj; have kk : ka 3 = j7 := (kh 3 (by kernel_rfl)).trans jy; exact li ty3 kk (j9.mono (jf.le.trans (jt.le.trans kf.le))) (L_nil (kj _ _ (Tch.ext kf (Ext.refl kb)) (Ext.refl kb).le rfl (IM_keep ki (Ext.refl kb) rfl rfl rfl rfl)))
       ·intro k9 ka kb kc kd ke kf kg kh ki Q kj; have kk : V _ (ka 35) (a0.c : List (List Deed)) := kg 13 35 (by kernel_rfl) (by kernel_rfl); obtain ⟨kl, km, kn⟩ : ∃ v, _ = v ∧ V _ v _ := ⟨_, rfl, kk⟩; have ko : ka 36 = vi (a1) := kg 14 36 (by kernel_rfl) (by kernel_rfl); exact ix Try.underlying29 ty59.inf km kn ko k3 (fun kp kq => L_nil (kj _ _ (Tch.ext kf (Ext.refl kb)) (Ext.refl kb).le kq (IM_keep ki (Ext.refl kb) rfl rfl rfl rfl)))
       ·intro k9 ka kb kc kd ke kf kg kh ki Q kj; have kk : Ptr _ (ka 37) (k2 : List Deed) := kg 15 37 (by kernel_rfl) (by kernel_rfl); obtain ⟨kl, km, kn⟩ : ∃ v, _ = v ∧ Ptr _ v _ := ⟨_, rfl, kk⟩; exact ld ty59 km kn (fun ko kp => L_nil (kj _ _ (Tch.ext kf (Ext.refl kb)) (Ext.refl kb).le kp (IM_keep ki (Ext.refl kb) rfl rfl rfl rfl)))
       ·intro k9 ka kb kc kd ke kf kg kh ki Q kj; have kk : ka 5 = jk := (kh 5 (by kernel_rfl)).trans jz; exact li ty3 kk (jm.mono (jt.le.trans kf.le)) (L_nil (kj _ _ (Tch.ext kf (Ext.refl kb)) (Ext.refl kb).le rfl (IM_keep ki (Ext.refl kb) rfl rfl rfl rfl)))
       ·intro k9 ka kb kc kd ke kf kg kh ki Q kj; have kk : V _ (ka 38) (k2 : List Deed) := kg 16 38 (by kernel_rfl) (by kernel_rfl); obtain ⟨kl, km, kn⟩ : ∃ v, _ = v ∧ V _ v _ := ⟨_, rfl, kk⟩; have ko : ka 39 = vi (jb) := kg 17 39 (by kernel_rfl) (by kernel_rfl); exact ix Try.underlying59 ty64.inf km kn ko k5 (fun kp kq => L_nil (kj _ _ (Tch.ext kf (Ext.refl kb)) (Ext.refl kb).le kq (IM_keep ki (Ext.refl kb) rfl rfl rfl rfl)))
       ·intro k9 ka kb kc kd ke kf kg kh ki Q kj; have kk : Ptr _ (ka 40) (k4 : Deed) := kg 18 40 (by kernel_rfl) (by kernel_rfl); obtain ⟨kl, km, kn⟩ : ∃ v, _ = v ∧ Ptr _ v _ := ⟨_, rfl, kk⟩; exact fa fld64_0 Deed.of_Kind km kn (fun ko kp => L_nil (kj _ _ (Tch.ext kf (Ext.refl kb)) (Ext.refl kb).le kp (IM_keep ki (Ext.refl kb) rfl rfl rfl rfl)))
       ·intro k9 ka kb kc kd ke kf kg kh ki Q kj; have kk : Ptr _ (ka 41) (k4.Kind : Int) := kg 19 41 (by kernel_rfl) (by kernel_rfl); obtain ⟨kl, km, kn⟩ : ∃ v, _ = v ∧ Ptr _ v _ := ⟨_, rfl, kk⟩; exact li ty3 km kn (L_nil (kj _ _ (Tch.ext kf (Ext.refl kb)) (Ext.refl kb).le rfl (IM_keep ki (Ext.refl kb) rfl rfl rfl rfl)))
       ·intro k9 ka kb kc kd ke kf kg kh ki Q kj; obtain ⟨kk, kl, km⟩ : ∃ v, ka 31 = v ∧ MapQ kb v ([((1 : Int), (⟨Value.func (.func 59) #[] #[j2, j7, jk]⟩ : RawV)), ((2 : Int), (⟨Value.func (.func 61) #[] #[j2, j7, jk]⟩ : RawV)), ((6 : Int), (⟨Value.func (.func 63) #[] #[j2, j7]⟩ : RawV)), ((5 : Int), (⟨Value.func (.func 64) #[] #[j2, j7, jk]⟩ : RawV))] : List (Int × RawV)) := ⟨_, rfl, kg 9 31 (by kernel_rfl) (by kernel_rfl)⟩; have kn : ka 42 = vi (k4.Kind) := kg 20 42 (by kernel_rfl) (by kernel_rfl); refine L_lookup_q (m := ([((1 : Int), (⟨Value.func (.func 59) #[] #[j2, j7, jk]⟩ : RawV)), ((2 : Int), (⟨Value.func (.func 61) #[] #[j2, j7, jk]⟩ : RawV)), ((6 : Int), (⟨Value.func (.func 63) #[] #[j2, j7]⟩ : RawV)), ((5 : Int), (⟨Value.func (.func 64) #[] #[j2, j7, jk]⟩ : RawV))] : List (Int × RawV))) (z0 := (⟨Value.nilFunc⟩ : RawV)) Try.underlying101 Try.underlying3 zero25 (Vraw rfl) kl kn km (by decide) ?_; have ko : mget ([((1 : Int), (⟨Value.func (.func 59) #[] #[j2, j7, jk]⟩ : RawV)), ((2 : Int), (⟨Value.func (.func 61) #[] #[j2, j7, jk]⟩ : RawV)), ((6 : Int), (⟨Value.func (.func 63) #[] #[j2, j7]⟩ : RawV)), ((5 : Int), (⟨Value.func (.func 64) #[] #[j2, j7, jk]⟩ : RawV))] : List (Int × RawV)) k4.Kind = some (⟨Value.func (.func 63) #[] #[j2, j7]⟩ : RawV) := (mget_skip k6 (mget_skip k7 (mget_hit k8))); rw [ko]; intro kp kq; obtain rfl : kp = _ := kq.raw; exact L_nil (kj _ _ kf (Le.refl _) ⟨_, _, rfl, rfl, rfl⟩ (IM_keep ki (Ext.refl _) rfl rfl rfl rfl))
       ·intro k9 ka kb kc kd ke kf kg kh ki Q kj; have kk : (PV.two (PV.eq (Value.func (.func 63) #[] #[j2, j7])) (PV.eq (vb true))).p (ka 43) kb := kg 21 43 (by kernel_rfl) (by kernel_rfl); obtain ⟨kl, km, kn, ko, kp⟩ := kk; obtain rfl : kl = _ := ko; obtain rfl : km = _ := kp; exact mv kn (L_nil (kj _ _ (Tch.ext kf (Ext.refl kb)) (Ext.refl kb).le ⟨_, _, rfl, rfl, rfl⟩ (IM_keep ki (Ext.refl kb) rfl rfl rfl rfl)))
       ·intro k9 ka kb kc kd ke kf kg kh ki Q kj; have kk : (PV.two (PV.eq (Value.func (.func 63) #[] #[j2, j7])) (PV.eq (vb true))).p (ka 25) kb := kg 22 25 (by kernel_rfl) (by kernel_rfl); obtain ⟨kl, km, kn, ko, kp⟩ := kk; obtain rfl : kl = _ := ko; obtain rfl : km = _ := kp; exact xt kn (k := 0) rfl (L_nil (kj _ _ (Tch.ext kf (Ext.refl kb)) (Ext.refl kb).le rfl (IM_keep ki (Ext.refl kb) rfl rfl rfl rfl)))
       ·intro k9 ka kb kc kd ke kf kg kh ki Q kj; have kk : (PV.two (PV.eq (Value.func (.func 63) #[] #[j2, j7])) (PV.eq (vb true))).p (ka 25) kb := kg 22 25 (by kernel_rfl) (by kernel_rfl); obtain ⟨kl, km, kn, ko, kp⟩ := kk; obtain rfl : kl = _ := ko; obtain rfl : km = _ := kp; exact xt kn (k := 1) rfl (L_nil (kj _ _ (Tch.ext kf (Ext.refl kb)) (Ext.refl kb).le rfl (IM_keep ki (Ext.refl kb) rfl rfl rfl rfl)))
       ·intro k9 ka kb kc kd ke kf kg kh ki Q kj; have kk : ka 44 = Value.func (.func 63) #[] #[j2, j7] := kg 23 44 (by kernel_rfl) (by kernel_rfl); exact asg kk (L_nil (kj _ _ (Tch.ext kf (Ext.refl kb)) (Ext.refl kb).le rfl (IM_keep ki (Ext.refl kb) rfl rfl rfl rfl)))
       ·intro k9 ka kb kc kd ke kf kg kh ki Q kj; have kk : ka 45 = vb (true) := kg 24 45 (by kernel_rfl) (by kernel_rfl); exact asg kk (L_nil (kj _ _ (Tch.ext kf (Ext.refl kb)) (Ext.refl kb).le rfl (IM_keep ki (Ext.refl kb) rfl rfl rfl rfl)))
       ·intro k9 ka kb kc kd; have ke := Tch.ext jw kb; have kf : k9 6 = Value.func (.func 63) #[] #[j2, j7] := kc 25 6 (by kernel_rfl); have kg : k9 7 = vb (true) := kc 26 7 (by kernel_rfl); refine then_n (sr (mv kg (L_not (rv (vb true)) (by decide) (mv (rv (vb (!true))) (gt 48 (rv (vb (!true))) rfl (mv kf (gt 48 (rv (vb (!true))) rfl ?_))))))); obtain ⟨kh, ki, hr⟩ := bind_some hr; refine L_callv cal63 (rv (Value.func (.func 63) #[] #[j2, j7])) (args0) (dead_run_can_3_ok N _ _ _ (j4.mono (j8.le.trans (jf.le.trans (jt.le.trans kb.le)))) _ _ (j9.mono (jf.le.trans (jt.le.trans kb.le))) kh ki) (by decide) (fun kj kk kl km => ?_); have kn := Tch.ext ke kl; obtain rfl := km.bool; refine pf (rv (vb (!true))) rfl (rv (vb kh)) (asg (rv (vb kh)) (nn (W_ret ?_))); obtain rfl := Option.some.inj hr; exact done1 (Or.inl rfl) Try.results32 rfl ⟨_, _, rfl, rfl, kn, Vbool⟩
      ·have hr := ite_f k8 hr
       rcases tf (decide (k4.Kind = (5 : Int))) with k9 | k9
       ·have hr := ite_t k9 hr
        refine W_drawI mixed (by kernel_rfl) (IM js.w.heap.size 26 0 9 ([(2, (1 : Int), (⟨Value.func (.func 59) #[] #[j2, j7, jk]⟩ : RawV)), (4, (2 : Int), (⟨Value.func (.func 61) #[] #[j2, j7, jk]⟩ : RawV)), (6, (6 : Int), (⟨Value.func (.func 63) #[] #[j2, j7]⟩ : RawV)), (8, (5 : Int), (⟨Value.func (.func 64) #[] #[j2, j7, jk]⟩ : RawV))] : List (Nat × Int × RawV))) [PL.any, PL.eq (Value.func (.func 59) #[] #[j2, j7, jk]), PL.any, PL.eq (Value.func (.func 61) #[] #[j2, j7, jk]), PL.any, PL.eq (Value.func (.func 63) #[] #[j2, j7]), PL.any, PL.eq (Value.func (.func 64) #[] #[j2, j7, jk]), PL.any, PL.mapq ([((1 : Int), (⟨Value.func (.func 59) #[] #[j2, j7, jk]⟩ : RawV)), ((2 : Int), (⟨Value.func (.func 61) #[] #[j2, j7, jk]⟩ : RawV)), ((6 : Int), (⟨Value.func (.func 63) #[] #[j2, j7]⟩ : RawV)), ((5 : Int), (⟨Value.func (.func 64) #[] #[j2, j7, jk]⟩ : RawV))] : List (Int × RawV)), PL.ptr (a0 : Run), PL.ptr (a0 : Run), PL.ptr (a0.c : List (List Deed)), PL.data (a0.c : List (List Deed)), PL.eq (vi a1), PL.ptr (k2 : List Deed), PL.data (k2 : List Deed), PL.eq (vi jb), PL.ptr (k4 : Deed), PL.ptr (k4.Kind : Int), PL.eq (vi (k4.Kind)), PL.two (PL.eq (Value.func (.func 64) #[] #[j2, j7, jk])) (PL.eq (vb true)), PL.two (PL.eq (Value.func (.func 64) #[] #[j2, j7, jk])) (PL.eq (vb true)), PL.eq (Value.func (.func 64) #[] #[j2, j7, jk]), PL.eq (vb true), PL.eq (Value.func (.func 64) #[] #[j2, j7, jk]), PL.eq (vb true)] (fun _ => IM_none) (StepsI_cons ?_ (StepsI_cons ?_ (StepsI_cons ?_ (StepsI_cons ?_ (StepsI_cons ?_ (StepsI_cons ?_ (StepsI_cons ?_ (StepsI_cons ?_ (StepsI_cons ?_ (StepsI_cons ?_ (StepsI_cons ?_ (StepsI_cons ?_ (StepsI_cons ?_ (StepsI_cons ?_ (StepsI_cons ?_ (StepsI_cons ?_ (StepsI_cons ?_ (StepsI_cons ?_ (StepsI_cons ?_ (StepsI_cons ?_ (StepsI_cons ?_ (StepsI_cons ?_ (StepsI_cons ?_ (StepsI_cons ?_ (StepsI_cons ?_ (StepsI_cons ?_ (StepsI_cons ?_ StepsI_nil))))))))))))))))))))))))))) ?_
        ·intro ka kb kc kd ke kf kg kh ki kj Q kk; exact L_makeMap (β := RawV) (by decide) (fun kl km kn ko kp => L_nil (kk _ _ (Tch.ext kg kn) kn.le trivial (IM_new kp (Nat.le_trans kg.size ko) (all_of (wait_of kf) [2, 4, 6, 8] rfl (by kernel_rfl)) rfl)))
        ·intro ka kb kc kd ke kf kg kh ki kj Q kk; have kl : kb 2 = j2 := (ki 2 (by kernel_rfl)).trans jx; have km : kb 3 = j7 := (ki 3 (by kernel_rfl)).trans jy; have kn : kb 5 = jk := (ki 5 (by kernel_rfl)).trans jz; exact L_makeFunc (args3 kl km kn) (by decide) (L_nil (kk _ _ (Tch.ext kg (Ext.refl kc)) (Ext.refl kc).le rfl (IM_keep kj (Ext.refl kc) rfl rfl rfl rfl)))
        ·intro ka kb kc kd ke kf kg kh ki kj Q kk; have kl : kb 27 = Value.func (.func 59) #[] #[j2, j7, jk] := kh 1 27 (by kernel_rfl) (by kernel_rfl); exact IM_insert (q := 2) Try.underlying101 Try.underlying3 kj (ke 0 (by kernel_rfl)) (wait_of kf 9 (by kernel_rfl)) kd (rv (vi 1)) kl (Vraw rfl) (List.Mem.head _) (by show List.Nodup [2, 4, 6, 8]; decide) (by show List.Nodup ([1, 2, 6, 5] : List Int); decide) kg (Nat.le_refl _) (fun km kn ko kp => L_nil (kk undef _ kn ko trivial kp))
        ·intro ka kb kc kd ke kf kg kh ki kj Q kk; have kl : kb 2 = j2 := (ki 2 (by kernel_rfl)).trans jx; have km : kb 3 = j7 := (ki 3 (by kernel_rfl)).trans jy; have kn : kb 5 = jk := (ki 5 (by kernel_rfl)).trans jz; exact L_makeFunc (args3 kl km kn) (by decide) (L_nil (kk _ _ (Tch.ext kg (Ext.refl kc)) (Ext.refl kc).le rfl (IM_keep kj (Ext.refl kc) rfl rfl rfl rfl)))
        ·intro ka kb kc kd ke kf kg kh ki kj Q kk; have kl : kb 28 = Value.func (.func 61) #[] #[j2, j7, jk] := kh 3 28 (by kernel_rfl) (by kernel_rfl); exact IM_insert (q := 4) Try.underlying101 Try.underlying3 kj (ke 0 (by kernel_rfl)) (wait_of kf 9 (by kernel_rfl)) kd (rv (vi 2)) kl (Vraw rfl) (List.Mem.tail _ (List.Mem.head _)) (by show List.Nodup [2, 4, 6, 8]; decide) (by show List.Nodup ([1, 2, 6, 5] : List Int); decide) kg (Nat.le_refl _) (fun km kn ko kp => L_nil (kk undef _ kn ko trivial kp))
        ·intro ka kb kc kd ke kf kg kh ki kj Q kk; have kl : kb 2 = j2 := (ki 2 (by kernel_rfl)).trans jx; have km : kb 3 = j7 := (ki 3 (by kernel_rfl)).trans jy; exact L_makeFunc (args2 kl km) (by decide) (L_nil (kk _ _ (Tch.ext kg (Ext.refl kc)) (Ext.refl kc).le rfl (IM_keep kj (Ext.refl kc) rfl rfl rfl rfl)))
        ·intro ka kb kc kd ke kf kg kh ki kj Q kk; have kl : kb 29 = Value.func (.func 63) #[] #[j2, j7] := kh 5 29 (by kernel_rfl) (by kernel_rfl); exact IM_insert (q := 6) Try.underlying101 Try.underlying3 kj (ke 0 (by kernel_rfl)) (wait_of kf 9 (by kernel_rfl)) kd (rv (vi 6)) kl (Vraw rfl) (List.Mem.tail _ (List.Mem.tail _ (List.Mem.head _))) (by show List.Nodup [2, 4, 6, 8]; decide) (by show List.Nodup ([1, 2, 6, 5] : List Int); decide) kg (Nat.le_refl _) (fun km kn ko kp => L_nil (kk undef _ kn ko trivial kp))
        ·intro ka kb kc kd ke kf kg kh ki kj Q kk; have kl : kb 2 = j2 := (ki 2 (by kernel_rfl)).trans jx; have km : kb 3 = j7 := (ki 3 (by kernel_rfl)).trans jy; have kn : kb 5 = jk := (ki 5 (by kernel_rfl)).trans jz; exact L_makeFunc (args3 kl km kn) (by decide) (L_nil (kk _ _ (Tch.ext kg (Ext.refl kc)) (Ext.refl kc).le rfl (IM_keep kj (Ext.refl kc) rfl rfl rfl rfl)))
        ·intro ka kb kc kd ke kf kg kh ki kj Q kk; have kl : kb 30 = Value.func (.func 64) #[] #[j2, j7, jk] := kh 7 30 (by kernel_rfl) (by kernel_rfl); exact IM_insert (q := 8) Try.underlying101 Try.underlying3 kj (ke 0 (by kernel_rfl)) (wait_of kf 9 (by kernel_rfl)) kd (rv (vi 5)) kl (Vraw rfl) (List.Mem.tail _ (List.Mem.tail _ (List.Mem.tail _ (List.Mem.head _)))) (by show List.Nodup [2, 4, 6, 8]; decide) (by show List.Nodup ([1, 2, 6, 5] : List Int); decide) kg (Nat.le_refl _) (fun km kn ko kp => L_nil (kk undef _ kn ko trivial kp))
        ·intro ka kb kc kd ke kf kg kh ki kj Q kk; obtain ⟨kl, km, kn, ko, kp⟩ := IM_done kj (ke 0 (by kernel_rfl)) kd (all_of ke [2, 4, 6, 8] rfl (by kernel_rfl)) (by show List.Nodup ([1, 2, 6, 5] : List Int); decide) kg (Nat.le_refl _); rw [← km]; exact mv (rv (kb 26)) (L_nil (kk _ _ kn ko kp (IM_at rfl)))
        ·intro ka kb kc kd ke kf kg kh ki kj Q kk; have kl : kb 2 = j2 := (ki 2 (by kernel_rfl)).trans jx; exact ld ty67 kl (j4.mono (j8.le.trans (jf.le.trans (jt.le.trans kg.le)))) (fun km kn => L_nil (kk _ _ (Tch.ext kg (Ext.refl kc)) (Ext.refl kc).le kn.toPtr (IM_keep kj (Ext.refl kc) rfl rfl rfl rfl)))
        ·intro ka kb kc kd ke kf kg kh ki kj Q kk; have kl : Ptr _ (kb 32) (a0 : Run) := kh 10 32 (by kernel_rfl) (by kernel_rfl); obtain ⟨km, kn, ko⟩ : ∃ v, _ = v ∧ Ptr _ v _ := ⟨_, rfl, kl⟩; exact L_nilCheck_ptr kn ko (by decide) (L_nil (kk _ _ (Tch.ext kg (Ext.refl kc)) (Ext.refl kc).le ko (IM_keep kj (Ext.refl kc) rfl rfl rfl rfl)))
        ·intro ka kb kc kd ke kf kg kh ki kj Q kk; have kl : Ptr _ (kb 33) (a0 : Run) := kh 11 33 (by kernel_rfl) (by kernel_rfl); obtain ⟨km, kn, ko⟩ : ∃ v, _ = v ∧ Ptr _ v _ := ⟨_, rfl, kl⟩; exact fa fld72_0 Run.of_c kn ko (fun kp kq => L_nil (kk _ _ (Tch.ext kg (Ext.refl kc)) (Ext.refl kc).le kq (IM_keep kj (Ext.refl kc) rfl rfl rfl rfl)))
        ·intro ka kb kc kd ke kf kg kh ki kj Q kk; have kl : Ptr _ (kb 34) (a0.c : List (List Deed)) := kh 12 34 (by kernel_rfl) (by kernel_rfl); obtain ⟨km, kn, ko⟩ : ∃ v, _ = v ∧ Ptr _ v _ := ⟨_, rfl, kl⟩; exact ld ty29 kn ko (fun kp kq => L_nil (kk _ _ (Tch.ext kg (Ext.refl kc)) (Ext.refl kc).le kq (IM_keep kj (Ext.refl kc) rfl rfl rfl rfl)))
        ·intro ka kb kc kd ke kf kg kh ki kj Q kk; have kl : kb 3 = j7 := (ki 3 (by kernel_rfl)).trans jy; exact li ty3 kl (j9.mono (jf.le.trans (jt.le.trans kg.le))) (L_nil (kk _ _ (Tch.ext kg (Ext.refl kc)) (Ext.refl kc).le rfl (IM_keep kj (Ext.refl kc) rfl rfl rfl rfl)))
        ·intro ka kb kc kd ke kf kg kh ki kj Q kk; have kl : V _ (kb 35) (a0.c : List (List Deed)) := kh 13 35 (by kernel_rfl) (by kernel_rfl); obtain ⟨km, kn, ko⟩ : ∃ v, _ = v ∧ V _ v _ := ⟨_, rfl, kl⟩; have kp : kb 36 = vi (a1) := kh 14 36 (by kernel_rfl) (by kernel_rfl); exact ix Try.underlying29 ty59.inf kn ko kp k3 (fun kq kr => L_nil (kk _ _ (Tch.ext kg (Ext.refl kc)) (Ext.refl kc).le kr (IM_keep kj (Ext.refl kc) rfl rfl rfl rfl)))
        ·intro ka kb kc kd ke kf kg kh ki kj Q kk; have kl : Ptr _ (kb 37) (k2 : List Deed) := kh 15 37 (by kernel_rfl) (by kernel_rfl); obtain ⟨km, kn, ko⟩ : ∃ v, _ = v ∧ Ptr _ v _ := ⟨_, rfl, kl⟩; exact ld ty59 kn ko (fun kp kq => L_nil (kk _ _ (Tch.ext kg (Ext.refl kc)) (Ext.refl kc).le kq (IM_keep kj (Ext.refl kc) rfl rfl rfl rfl)))
        ·intro ka kb kc kd ke kf kg kh ki kj Q kk; have kl : kb 5 = jk := (ki 5 (by kernel_rfl)).trans jz; exact li ty3 kl (jm.mono (jt.le.trans kg.le)) (L_nil (kk _ _ (Tch.ext kg (Ext.refl kc)) (Ext.refl kc).le rfl (IM_keep kj (Ext.refl kc) rfl rfl rfl rfl)))
        ·intro ka kb kc kd ke kf kg kh ki kj Q kk; have kl : V _ (kb 38) (k2 : List Deed) := kh 16 38 (by kernel_rfl) (by kernel_rfl); obtain ⟨km, kn, ko⟩ : ∃ v, _ = v ∧ V _ v _ := ⟨_, rfl, kl⟩; have kp : kb 39 = vi (jb) := kh 17 39 (by kernel_rfl) (by kernel_rfl); exact ix Try.underlying59 ty64.inf kn ko kp k5 (fun kq kr => L_nil (kk _ _ (Tch.ext kg (Ext.refl kc)) (Ext.refl kc).le kr (IM_keep kj (Ext.refl kc) rfl rfl rfl rfl)))
        ·intro ka kb kc kd ke kf kg kh ki kj Q kk; have kl : Ptr _ (kb 40) (k4 : Deed) := kh 18 40 (by kernel_rfl) (by kernel_rfl); obtain ⟨km, kn, ko⟩ : ∃ v, _ = v ∧ Ptr _ v _ := ⟨_, rfl, kl⟩; exact fa fld64_0 Deed.of_Kind kn ko (fun kp kq => L_nil (kk _ _ (Tch.ext kg (Ext.refl kc)) (Ext.refl kc).le kq (IM_keep kj (Ext.refl kc) rfl rfl rfl rfl)))
        ·intro ka kb kc kd ke kf kg kh ki kj Q kk; have kl : Ptr _ (kb 41) (k4.Kind : Int) := kh 19 41 (by kernel_rfl) (by kernel_rfl); obtain ⟨km, kn, ko⟩ : ∃ v, _ = v ∧ Ptr _ v _ := ⟨_, rfl, kl⟩; exact li ty3 kn ko (L_nil (kk _ _ (Tch.ext kg (Ext.refl kc)) (Ext.refl kc).le rfl (IM_keep kj (Ext.refl kc) rfl rfl rfl rfl)))
        ·intro ka kb kc kd ke kf kg kh ki kj Q kk; obtain ⟨kl, km, kn⟩ : ∃ v, kb 31 = v ∧ MapQ kc v ([((1 : Int), (⟨Value.func (.func 59) #[] #[j2, j7, jk]⟩ : RawV)), ((2 : Int), (⟨Value.func (.func 61) #[] #[j2, j7, jk]⟩ : RawV)), ((6 : Int), (⟨Value.func (.func 63) #[] #[j2, j7]⟩ : RawV)), ((5 : Int), (⟨Value.func (.func 64) #[] #[j2, j7, jk]⟩ : RawV))] : List (Int × RawV)) := ⟨_, rfl, kh 9 31 (by kernel_rfl) (by kernel_rfl)⟩; have ko : kb 42 = vi (k4.Kind) := kh 20 42 (by kernel_rfl) (by kernel_rfl); refine L_lookup_q (m := ([((1 : Int), (⟨Value.func (.func 59) #[] #[j2, j7, jk]⟩ : RawV)), ((2 : Int), (⟨Value.func (.func 61) #[] #[j2, j7, jk]⟩ : RawV)), ((6 : Int), (⟨Value.func (.func 63) #[] #[j2, j7]⟩ : RawV)), ((5 : Int), (⟨Value.func (.func 64) #[] #[j2, j7, jk]⟩ : RawV))] : List (Int × RawV))) (z0 := (⟨Value.nilFunc⟩ : RawV)) Try.underlying101 Try.underlying3 zero25 (Vraw rfl) km ko kn (by decide) ?_; have kp : mget ([((1 : Int), (⟨Value.func (.func 59) #[] #[j2, j7, jk]⟩ : RawV)), ((2 : Int), (⟨Value.func (.func 61) #[] #[j2, j7, jk]⟩ : RawV)), ((6 : Int), (⟨Value.func (.func 63) #[] #[j2, j7]⟩ : RawV)), ((5 : Int), (⟨Value.func (.func 64) #[] #[j2, j7, jk]⟩ : RawV))] : List (Int × RawV)) k4.Kind = some (⟨Value.func (.func 64) #[] #[j2, j7, jk]⟩ : RawV) := (mget_skip k6 (mget_skip k7 (mget_skip k8 (mget_hit k9)))); rw [kp]; intro kq kr; obtain rfl : kq = _ := kr.raw; exact L_nil (kk _ _ kg (Le.refl _) ⟨_, _, rfl, rfl, rfl⟩ (IM_keep kj (Ext.refl _) rfl rfl rfl rfl))
        ·intro ka kb kc kd ke kf kg kh ki kj Q kk; have kl : (PV.two (PV.eq (Value.func (.func 64) #[] #[j2, j7, jk])) (PV.eq (vb true))).p (kb 43) kc := kh 21 43 (by kernel_rfl) (by kernel_rfl); obtain ⟨km, kn, ko, kp, kq⟩ := kl; obtain rfl : km = _ := kp; obtain rfl : kn = _ := kq; exact mv ko (L_nil (kk _ _ (Tch.ext kg (Ext.refl kc)) (Ext.refl kc).le ⟨_, _, rfl, rfl, rfl⟩ (IM_keep kj (Ext.refl kc) rfl rfl rfl rfl)))
        ·intro ka kb kc kd ke kf kg kh ki kj Q kk; have kl : (PV.two (PV.eq (Value.func (.func 64) #[] #[j2, j7, jk])) (PV.eq (vb true))).p (kb 25) kc := kh 22 25 (by kernel_rfl) (by kernel_rfl); obtain ⟨km, kn, ko, kp, kq⟩ := kl; obtain rfl : km = _ := kp; obtain rfl : kn = _ := kq; exact xt ko (k := 0) rfl (L_nil (kk _ _ (Tch.ext kg (Ext.refl kc)) (Ext.refl kc).le rfl (IM_keep kj (Ext.refl kc) rfl rfl rfl rfl)))
        ·intro ka kb kc kd ke kf kg kh ki kj Q kk; have kl : (PV.two (PV.eq (Value.func (.func 64) #[] #[j2, j7, jk])) (PV.eq (vb true))).p (kb 25) kc := kh 22 25 (by kernel_rfl) (by kernel_rfl); obtain ⟨km, kn, ko, kp, kq⟩ := kl; obtain rfl : km = _ := kp; obtain rfl : kn = _ := kq; exact xt ko (k := 1) rfl (L_nil (kk _ _ (Tch.ext kg (Ext.refl kc)) (Ext.refl kc).le rfl (IM_keep kj (Ext.refl kc) rfl rfl rfl rfl)))
        ·intro ka kb kc kd ke kf kg kh ki kj Q kk; have kl : kb 44 = Value.func (.func 64) #[] #[j2, j7, jk] := kh 23 44 (by kernel_rfl) (by kernel_rfl); exact asg kl (L_nil (kk _ _ (Tch.ext kg (Ext.refl kc)) (Ext.refl kc).le rfl (IM_keep kj (Ext.refl kc) rfl rfl rfl rfl)))
        ·intro ka kb kc kd ke kf kg kh ki kj Q kk; have kl : kb 45 = vb (true) := kh 24 45 (by kernel_rfl) (by kernel_rfl); exact asg kl (L_nil (kk _ _ (Tch.ext kg (Ext.refl kc)) (Ext.refl kc).le rfl (IM_keep kj (Ext.refl kc) rfl rfl rfl rfl)))
        ·intro ka kb kc kd ke; have kf := Tch.ext jw kc; have kg : ka 6 = Value.func (.func 64) #[] #[j2, j7, jk] := kd 25 6 (by kernel_rfl); have kh : ka 7 = vb (true) := kd 26 7 (by kernel_rfl); refine then_n (sr (mv kh (L_not (rv (vb true)) (by decide) (mv (rv (vb (!true))) (gt 48 (rv (vb (!true))) rfl (mv kg (gt 48 (rv (vb (!true))) rfl ?_))))))); obtain ⟨ki, kj, hr⟩ := bind_some hr; refine L_callv cal64 (rv (Value.func (.func 64) #[] #[j2, j7, jk])) (args0) (dead_run_can_4_ok N _ _ _ (j4.mono (j8.le.trans (jf.le.trans (jt.le.trans kc.le)))) _ _ (j9.mono (jf.le.trans (jt.le.trans kc.le))) _ _ (jm.mono (jt.le.trans kc.le)) ki kj) (by decide) (fun kk kl km kn => ?_); have ko := Tch.ext kf km; obtain rfl := kn.bool; refine pf (rv (vb (!true))) rfl (rv (vb ki)) (asg (rv (vb ki)) (nn (W_ret ?_))); obtain rfl := Option.some.inj hr; exact done1 (Or.inl rfl) Try.results32 rfl ⟨_, _, rfl, rfl, ko, Vbool⟩
       ·have hr := ite_f k9 hr
        refine W_drawI mixed (by kernel_rfl) (IM js.w.heap.size 26 0 9 ([(2, (1 : Int), (⟨Value.func (.func 59) #[] #[j2, j7, jk]⟩ : RawV)), (4, (2 : Int), (⟨Value.func (.func 61) #[] #[j2, j7, jk]⟩ : RawV)), (6, (6 : Int), (⟨Value.func (.func 63) #[] #[j2, j7]⟩ : RawV)), (8, (5 : Int), (⟨Value.func (.func 64) #[] #[j2, j7, jk]⟩ : RawV))] : List (Nat × Int × RawV))) [PL.any, PL.eq (Value.func (.func 59) #[] #[j2, j7, jk]), PL.any, PL.eq (Value.func (.func 61) #[] #[j2, j7, jk]), PL.any, PL.eq (Value.func (.func 63) #[] #[j2, j7]), PL.any, PL.eq (Value.func (.func 64) #[] #[j2, j7, jk]), PL.any, PL.mapq ([((1 : Int), (⟨Value.func (.func 59) #[] #[j2, j7, jk]⟩ : RawV)), ((2 : Int), (⟨Value.func (.func 61) #[] #[j2, j7, jk]⟩ : RawV)), ((6 : Int), (⟨Value.func (.func 63) #[] #[j2, j7]⟩ : RawV)), ((5 : Int), (⟨Value.func (.func 64) #[] #[j2, j7, jk]⟩ : RawV))] : List (Int × RawV)), PL.ptr (a0 : Run), PL.ptr (a0 : Run), PL.ptr (a0.c : List (List Deed)), PL.data (a0.c : List (List Deed)), PL.eq (vi a1), PL.ptr (k2 : List Deed), PL.data (k2 : List Deed), PL.eq (vi jb), PL.ptr (k4 : Deed), PL.ptr (k4.Kind : Int), PL.eq (vi (k4.Kind)), PL.two (PL.eq (Value.nilFunc)) (PL.eq (vb false)), PL.two (PL.eq (Value.nilFunc)) (PL.eq (vb false)), PL.eq (Value.nilFunc), PL.eq (vb false), PL.eq (Value.nilFunc), PL.eq (vb false)] (fun _ => IM_none) (StepsI_cons ?_ (StepsI_cons ?_ (StepsI_cons ?_ (StepsI_cons ?_ (StepsI_cons ?_ (StepsI_cons ?_ (StepsI_cons ?_ (StepsI_cons ?_ (StepsI_cons ?_ (StepsI_cons ?_ (StepsI_cons ?_ (StepsI_cons ?_ (StepsI_cons ?_ (StepsI_cons ?_ (StepsI_cons ?_ (StepsI_cons ?_ (StepsI_cons ?_ (StepsI_cons ?_ (StepsI_cons ?_ (StepsI_cons ?_ (StepsI_cons ?_ (StepsI_cons ?_ (StepsI_cons ?_ (StepsI_cons ?_ (StepsI_cons ?_ (StepsI_cons ?_ (StepsI_cons ?_ StepsI_nil))))))))))))))))))))))))))) ?_
        ·intro ka kb kc kd ke kf kg kh ki kj Q kk; exact L_makeMap (β := RawV) (by decide) (fun kl km kn ko kp => L_nil (kk _ _ (Tch.ext kg kn) kn.le trivial (IM_new kp (Nat.le_trans kg.size ko) (all_of (wait_of kf) [2, 4, 6, 8] rfl (by kernel_rfl)) rfl)))
        ·intro ka kb kc kd ke kf kg kh ki kj Q kk; have kl : kb 2 = j2 := (ki 2 (by kernel_rfl)).trans jx; have km : kb 3 = j7 := (ki 3 (by kernel_rfl)).trans jy; have kn : kb 5 = jk := (ki 5 (by kernel_rfl)).trans jz; exact L_makeFunc (args3 kl km kn) (by decide) (L_nil (kk _ _ (Tch.ext kg (Ext.refl kc)) (Ext.refl kc).le rfl (IM_keep kj (Ext.refl kc) rfl rfl rfl rfl)))
        ·intro ka kb kc kd ke kf kg kh ki kj Q kk; have kl : kb 27 = Value.func (.func 59) #[] #[j2, j7, jk] := kh 1 27 (by kernel_rfl) (by kernel_rfl); exact IM_insert (q := 2) Try.underlying101 Try.underlying3 kj (ke 0 (by kernel_rfl)) (wait_of kf 9 (by kernel_rfl)) kd (rv (vi 1)) kl (Vraw rfl) (List.Mem.head _) (by show List.Nodup [2, 4, 6, 8]; decide) (by show List.Nodup ([1, 2, 6, 5] : List Int); decide) kg (Nat.le_refl _) (fun km kn ko kp => L_nil (kk undef _ kn ko trivial kp))
        ·intro ka kb kc kd ke kf kg kh ki kj Q kk; have kl : kb 2 = j2 := (ki 2 (by kernel_rfl)).trans jx; have km : kb 3 = j7 := (ki 3 (by kernel_rfl)).trans jy; have kn : kb 5 = jk := (ki 5 (by kernel_rfl)).trans jz; exact L_makeFunc (args3 kl km kn) (by decide) (L_nil (kk _ _ (Tch.ext kg (Ext.refl kc)) (Ext.refl kc).le rfl (IM_keep kj (Ext.refl kc) rfl rfl rfl rfl)))
        ·intro ka kb kc kd ke kf kg kh ki kj Q kk; have kl : kb 28 = Value.func (.func 61) #[] #[j2, j7, jk] := kh 3 28 (by kernel_rfl) (by kernel_rfl); exact IM_insert (q := 4) Try.underlying101 Try.underlying3 kj (ke 0 (by kernel_rfl)) (wait_of kf 9 (by kernel_rfl)) kd (rv (vi 2)) kl (Vraw rfl) (List.Mem.tail _ (List.Mem.head _)) (by show List.Nodup [2, 4, 6, 8]; decide) (by show List.Nodup ([1, 2, 6, 5] : List Int); decide) kg (Nat.le_refl _) (fun km kn ko kp => L_nil (kk undef _ kn ko trivial kp))
        ·intro ka kb kc kd ke kf kg kh ki kj Q kk; have kl : kb 2 = j2 := (ki 2 (by kernel_rfl)).trans jx; have km : kb 3 = j7 := (ki 3 (by kernel_rfl)).trans jy; exact L_makeFunc (args2 kl km) (by decide) (L_nil (kk _ _ (Tch.ext kg (Ext.refl kc)) (Ext.refl kc).le rfl (IM_keep kj (Ext.refl kc) rfl rfl rfl rfl)))
        ·intro ka kb kc kd ke kf kg kh ki kj Q kk; have kl : kb 29 = Value.func (.func 63) #[] #[j2, j7] := kh 5 29 (by kernel_rfl) (by kernel_rfl); exact IM_insert (q := 6) Try.underlying101 Try.underlying3 kj (ke 0 (by kernel_rfl)) (wait_of kf 9 (by kernel_rfl)) kd (rv (vi 6)) kl (Vraw rfl) (List.Mem.tail _ (List.Mem.tail _ (List.Mem.head _))) (by show List.Nodup [2, 4, 6, 8]; decide) (by show List.Nodup ([1, 2, 6, 5] : List Int); decide) kg (Nat.le_refl _) (fun km kn ko kp => L_nil (kk undef _ kn ko trivial kp))
        ·intro ka kb kc kd ke kf kg kh ki kj Q kk; have kl : kb 2 = j2 := (ki 2 (by kernel_rfl)).trans jx; have km : kb 3 = j7 := (ki 3 (by kernel_rfl)).trans jy; have kn : kb 5 = jk := (ki 5 (by kernel_rfl)).trans jz; exact L_makeFunc (args3 kl km kn) (by decide) (L_nil (kk _ _ (Tch.ext kg (Ext.refl kc)) (Ext.refl kc).le rfl (IM_keep kj (Ext.refl kc) rfl rfl rfl rfl)))
        ·intro ka kb kc kd ke kf kg kh ki kj Q kk; have kl : kb 30 = Value.func (.func 64) #[] #[j2, j7, jk] := kh 7 30 (by kernel_rfl) (by kernel_rfl); exact IM_insert (q := 8) Try.underlying101 Try.underlying3 kj (ke 0 (by kernel_rfl)) (wait_of kf 9 (by kernel_rfl)) kd (rv (vi 5)) kl (Vraw rfl) (List.Mem.tail _ (List.Mem.tail _ (List.Mem.tail _ (List.Mem.head _)))) (by show List.Nodup [2, 4, 6, 8]; decide) (by show List.Nodup ([1, 2, 6, 5] : List Int); decide) kg (Nat.le_refl _) (fun km kn ko kp => L_nil (kk undef _ kn ko trivial kp))
        ·intro ka kb kc kd ke kf kg kh ki kj Q kk; obtain ⟨kl, km, kn, ko, kp⟩ := IM_done kj (ke 0 (by kernel_rfl)) kd (all_of ke [2, 4, 6, 8] rfl (by kernel_rfl)) (by show List.Nodup ([1, 2, 6, 5] : List Int); decide) kg (Nat.le_refl _); rw [← km]; exact mv (rv (kb 26)) (L_nil (kk _ _ kn ko kp (IM_at rfl)))
        ·intro ka kb kc kd ke kf kg kh ki kj Q kk; have kl : kb 2 = j2 := (ki 2 (by kernel_rfl)).trans jx; exact ld ty67 kl (j4.mono (j8.le.trans (jf.le.trans (jt.le.trans kg.le)))) (fun km kn => L_nil (kk _ _ (Tch.ext kg (Ext.refl kc)) (Ext.refl kc).le kn.toPtr (IM_keep kj (Ext.refl kc) rfl rfl rfl rfl)))
        ·intro ka kb kc kd ke kf kg kh ki kj Q kk; have kl : Ptr _ (kb 32) (a0 : Run) := kh 10 32 (by kernel_rfl) (by kernel_rfl); obtain ⟨km, kn, ko⟩ : ∃ v, _ = v ∧ Ptr _ v _ := ⟨_, rfl, kl⟩; exact L_nilCheck_ptr kn ko (by decide) (L_nil (kk _ _ (Tch.ext kg (Ext.refl kc)) (Ext.refl kc).le ko (IM_keep kj (Ext.refl kc) rfl rfl rfl rfl)))
        ·intro ka kb kc kd ke kf kg kh ki kj Q kk; have kl : Ptr _ (kb 33) (a0 : Run) := kh 11 33 (by kernel_rfl) (by kernel_rfl); obtain ⟨km, kn, ko⟩ : ∃ v, _ = v ∧ Ptr _ v _ := ⟨_, rfl, kl⟩; exact fa fld72_0 Run.of_c kn ko (fun kp kq => L_nil (kk _ _ (Tch.ext kg (Ext.refl kc)) (Ext.refl kc).le kq (IM_keep kj (Ext.refl kc) rfl rfl rfl rfl)))
        ·intro ka kb kc kd ke kf kg kh ki kj Q kk; have kl : Ptr _ (kb 34) (a0.c : List (List Deed)) := kh 12 34 (by kernel_rfl) (by kernel_rfl); obtain ⟨km, kn, ko⟩ : ∃ v, _ = v ∧ Ptr _ v _ := ⟨_, rfl, kl⟩; exact ld ty29 kn ko (fun kp kq => L_nil (kk _ _ (Tch.ext kg (Ext.refl kc)) (Ext.refl kc).le kq (IM_keep kj (Ext.refl kc) rfl rfl rfl rfl)))
        ·intro ka kb kc kd ke kf kg kh ki kj Q kk; have kl : kb 3 = j7 := (ki 3 (by kernel_rfl)).trans jy; exact li ty3 kl (j9.mono (jf.le.trans (jt.le.trans kg.le))) (L_nil (kk _ _ (Tch.ext kg (Ext.refl kc)) (Ext.refl kc).le rfl (IM_keep kj (Ext.refl kc) rfl rfl rfl rfl)))
        ·intro ka kb kc kd ke kf kg kh ki kj Q kk; have kl : V _ (kb 35) (a0.c : List (List Deed)) := kh 13 35 (by kernel_rfl) (by kernel_rfl); obtain ⟨km, kn, ko⟩ : ∃ v, _ = v ∧ V _ v _ := ⟨_, rfl, kl⟩; have kp : kb 36 = vi (a1) := kh 14 36 (by kernel_rfl) (by kernel_rfl); exact ix Try.underlying29 ty59.inf kn ko kp k3 (fun kq kr => L_nil (kk _ _ (Tch.ext kg (Ext.refl kc)) (Ext.refl kc).le kr (IM_keep kj (Ext.refl kc) rfl rfl rfl rfl)))
        ·intro ka kb kc kd ke kf kg kh ki kj Q kk; have kl : Ptr _ (kb 37) (k2 : List Deed) := kh 15 37 (by kernel_rfl) (by kernel_rfl); obtain ⟨km, kn, ko⟩ : ∃ v, _ = v ∧ Ptr _ v _ := ⟨_, rfl, kl⟩; exact ld ty59 kn ko (fun kp kq => L_nil (kk _ _ (Tch.ext kg (Ext.refl kc)) (Ext.refl kc).le kq (IM_keep kj (Ext.refl kc) rfl rfl rfl rfl)))
        ·intro ka kb kc kd ke kf kg kh ki kj Q kk; have kl : kb 5 = jk := (ki 5 (by kernel_rfl)).trans jz; exact li ty3 kl (jm.mono (jt.le.trans kg.le)) (L_nil (kk _ _ (Tch.ext kg (Ext.refl kc)) (Ext.refl kc).le rfl (IM_keep kj (Ext.refl kc) rfl rfl rfl rfl)))
        ·intro ka kb kc kd ke kf kg kh ki kj Q kk; have kl : V _ (kb 38) (k2 : List Deed) := kh 16 38 (by kernel_rfl) (by kernel_rfl); obtain ⟨km, kn, ko⟩ : ∃ v, _ = v ∧ V _ v _ := ⟨_, rfl, kl⟩; have kp : kb 39 = vi (jb) := kh 17 39 (by kernel_rfl) (by kernel_rfl); exact ix Try.underlying59 ty64.inf kn ko kp k5 (fun kq kr => L_nil (kk _ _ (Tch.ext kg (Ext.refl kc)) (Ext.refl kc).le kr (IM_keep kj (Ext.refl kc) rfl rfl rfl rfl)))
        ·intro ka kb kc kd ke kf kg kh ki kj Q kk; have kl : Ptr _ (kb 40) (k4 : Deed) := kh 18 40 (by kernel_rfl) (by kernel_rfl); obtain ⟨km, kn, ko⟩ : ∃ v, _ = v ∧ Ptr _ v _ := ⟨_, rfl, kl⟩; exact fa fld64_0 Deed.of_Kind kn ko (fun kp kq => L_nil (kk _ _ (Tch.ext kg (Ext.refl kc)) (Ext.refl kc).le kq (IM_keep kj (Ext.refl kc) rfl rfl rfl rfl)))
        ·intro ka kb kc kd ke kf kg kh ki kj Q kk; have kl : Ptr _ (kb 41) (k4.Kind : Int) := kh 19 41 (by kernel_rfl) (by kernel_rfl); obtain ⟨km, kn, ko⟩ : ∃ v, _ = v ∧ Ptr _ v _ := ⟨_, rfl, kl⟩; exact li ty3 kn ko (L_nil (kk _ _ (Tch.ext kg (Ext.refl kc)) (Ext.refl kc).le rfl (IM_keep kj (Ext.refl kc) rfl rfl rfl rfl)))
        ·intro ka kb kc kd ke kf kg kh ki kj Q kk; obtain ⟨kl, km, kn⟩ : ∃ v, kb 31 = v ∧ MapQ kc v ([((1 : Int), (⟨Value.func (.func 59) #[] #[j2, j7, jk]⟩ : RawV)), ((2 : Int), (⟨Value.func (.func 61) #[] #[j2, j7, jk]⟩ : RawV)), ((6 : Int), (⟨Value.func (.func 63) #[] #[j2, j7]⟩ : RawV)), ((5 : Int), (⟨Value.func (.func 64) #[] #[j2, j7, jk]⟩ : RawV))] : List (Int × RawV)) := ⟨_, rfl, kh 9 31 (by kernel_rfl) (by kernel_rfl)⟩; have ko : kb 42 = vi (k4.Kind) := kh 20 42 (by kernel_rfl) (by kernel_rfl); refine L_lookup_q (m := ([((1 : Int), (⟨Value.func (.func 59) #[] #[j2, j7, jk]⟩ : RawV)), ((2 : Int), (⟨Value.func (.func 61) #[] #[j2, j7, jk]⟩ : RawV)), ((6 : Int), (⟨Value.func (.func 63) #[] #[j2, j7]⟩ : RawV)), ((5 : Int), (⟨Value.func (.func 64) #[] #[j2, j7, jk]⟩ : RawV))] : List (Int × RawV))) (z0 := (⟨Value.nilFunc⟩ : RawV)) Try.underlying101 Try.underlying3 zero25 (Vraw rfl) km ko kn (by decide) ?_; have kp : mget ([((1 : Int), (⟨Value.func (.func 59) #[] #[j2, j7, jk]⟩ : RawV)), ((2 : Int), (⟨Value.func (.func 61) #[] #[j2, j7, jk]⟩ : RawV)), ((6 : Int), (⟨Value.func (.func 63) #[] #[j2, j7]⟩ : RawV)), ((5 : Int), (⟨Value.func (.func 64) #[] #[j2, j7, jk]⟩ : RawV))] : List (Int × RawV)) k4.Kind = (none : Option RawV) := (mget_skip k6 (mget_skip k7 (mget_skip k8 (mget_skip k9 mget_nil)))); rw [kp]; intro kq kr; obtain rfl : kq = _ := kr.raw; exact L_nil (kk _ _ kg (Le.refl _) ⟨_, _, rfl, rfl, rfl⟩ (IM_keep kj (Ext.refl _) rfl rfl rfl rfl))
        ·intro ka kb kc kd ke kf kg kh ki kj Q kk; have kl : (PV.two (PV.eq (Value.nilFunc)) (PV.eq (vb false))).p (kb 43) kc := kh 21 43 (by kernel_rfl) (by kernel_rfl); obtain ⟨km, kn, ko, kp, kq⟩ := kl; obtain rfl : km = _ := kp; obtain rfl : kn = _ := kq; exact mv ko (L_nil (kk _ _ (Tch.ext kg (Ext.refl kc)) (Ext.refl kc).le ⟨_, _, rfl, rfl, rfl⟩ (IM_keep kj (Ext.refl kc) rfl rfl rfl rfl)))
        ·intro ka kb kc kd ke kf kg kh ki kj Q kk; have kl : (PV.two (PV.eq (Value.nilFunc)) (PV.eq (vb false))).p (kb 25) kc := kh 22 25 (by kernel_rfl) (by kernel_rfl); obtain ⟨km, kn, ko, kp, kq⟩ := kl; obtain rfl : km = _ := kp; obtain rfl : kn = _ := kq; exact xt ko (k := 0) rfl (L_nil (kk _ _ (Tch.ext kg (Ext.refl kc)) (Ext.refl kc).le rfl (IM_keep kj (Ext.refl kc) rfl rfl rfl rfl)))
        ·intro ka kb kc kd ke kf kg kh ki kj Q kk; have kl : (PV.two (PV.eq (Value.nilFunc)) (PV.eq (vb false))).p (kb 25) kc := kh 22 25 (by kernel_rfl) (by kernel_rfl); obtain ⟨km, kn, ko, kp, kq⟩ := kl; obtain rfl : km = _ := kp; obtain rfl : kn = _ := kq; exact xt ko (k := 1) rfl (L_nil (kk _ _ (Tch.ext kg (Ext.refl kc)) (Ext.refl kc).le rfl (IM_keep kj (Ext.refl kc) rfl rfl rfl rfl)))
        ·intro ka kb kc kd ke kf kg kh ki kj Q kk; have kl : kb 44 = Value.nilFunc := kh 23 44 (by kernel_rfl) (by kernel_rfl); exact asg kl (L_nil (kk _ _ (Tch.ext kg (Ext.refl kc)) (Ext.refl kc).le rfl (IM_keep kj (Ext.refl kc) rfl rfl rfl rfl)))
        ·intro ka kb kc kd ke kf kg kh ki kj Q kk; have kl : kb 45 = vb (false) := kh 24 45 (by kernel_rfl) (by kernel_rfl); exact asg kl (L_nil (kk _ _ (Tch.ext kg (Ext.refl kc)) (Ext.refl kc).le rfl (IM_keep kj (Ext.refl kc) rfl rfl rfl rfl)))
        ·intro ka kb kc kd ke; have kf := Tch.ext jw kc; have kg : ka 7 = vb (false) := kd 26 7 (by kernel_rfl); refine then_n (sr (mv kg (L_not (rv (vb false)) (by decide) (mv (rv (vb (!false))) (gf 48 (rv (vb (!false))) rfl (gf 48 (rv (vb (!false))) rfl (pt (rv (vb (!false))) rfl (rv (vb true)) (asg (rv (vb true)) (nn (W_ret ?_)))))))))); obtain rfl := Option.some.inj hr; exact done1 (Or.inl rfl) Try.results32 rfl ⟨_, _, rfl, rfl, kf, Vbool⟩

theorem dead_run_next_ok (N : Nat) (s0 : St) (w0 : Value) (a0 : Run) (h0 : Ptr s0 w0 a0) (r : Int) (hr : dead_run_next N a0 = some r) :
    Calls Try.prog 33 #[w0] s0.w (Ret s0 fun v s => V s v r) := by
 unfold dead_run_next at hr
 have j0 := Ext.refl s0
 refine Calls_of (n := 17) (args := [w0]) Try.func33 rfl rfl (by simp) (sr (asg (rv (vi 0)) (nn (W_seq (sr (mv (rv w0) (L_nilCheck_ptr (rv w0) h0 (by decide) (fa fld72_0 Run.of_c (rv w0) h0 (fun j1 j2 => ld ty29 (rv j1) j2 (fun j3 j4 => ln Try.underlying29 (rv j3) j4 (mv (rv (vi 0)) (nn ?_))))))))))))
 obtain ⟨j5, j6, j7⟩ := bind_some hr
 refine W_cut (fun f w => ∃ (s : St), s.w = w ∧ Ext s0 s ∧ Le s0 s ∧ Sum.inl () = j5) ?_ ?_
 ·refine W_block (W_loop (fun m f w => ∃ (s : St) (j8 : Int), s.w = w ∧ Ext s0 s ∧ Le s0 s ∧ dead_run_next_l1 N a0 m j8 = some j5 ∧ f 9 = vi j8 ∧ f 0 = w0 ∧ f 8 = vi ((a0.c.length : Int))) N ⟨s0, 0, rfl, j0, (Le.refl _), j6, rfl, rfl, rfl⟩ ?_)
  rintro j9 ja jb ⟨jc, j8, rfl, jd, je, hr, jf, jg, jh⟩
  cases j9 with
  | zero => exact absurd hr (by simp [dead_run_next_l1])
  | succ j9 =>
   rw [dead_run_next_l1.eq_2] at hr
   refine sr (ls jf jh (nn (W_seq ?_)))
   refine W_cond _ (rv (vb (decide (j8 < (a0.c.length : Int))))) (fun ji => ?_) (fun ji => ?_)
   ·have hr := ite_t ji hr
    refine W_skip (then_n (W_seq (W_block (sr (mv jf (asg (rv (vi j8)) (nn (sr (mv jg (mv (rv (vi j8)) ?_))))))))))
    obtain ⟨jj, jk, hr⟩ := bind_some hr
    refine L_calls cal32 (args2 (rv w0) (rv (vi j8))) (dead_run_can_ok N _ _ _ (h0.mono je) j8 jj jk) (by decide) (fun jl jm jn jo => ?_)
    have jp := Tch.ext jd jn
    obtain rfl := jo.bool
    refine nn ?_
    refine W_cond _ (rv (vb jj)) (fun jq => ?_) (fun jq => ?_)
    ·have hr := ite_t jq hr; refine sr (mv (rv (vi j8)) (asg (rv (vi j8)) (nn (W_ret (block_r (then_r (then_r (block_r ?_)))))))); obtain rfl := Option.some.inj hr; have hr := j7; (try dsimp only at hr); refine then_r (then_r ?_); obtain rfl := Option.some.inj hr; exact done1 (Or.inl rfl) Try.results33 rfl ⟨_, _, rfl, rfl, jp, Vint⟩
    ·have hr := ite_f jq hr; refine W_skip (block_n (then_n (W_region ?_))); obtain ⟨jr, hr⟩ := chk_some hr; exact ad jf (rv (vi 1)) jr (mv (rv (vi (j8 + 1))) (nn ⟨j9, Nat.lt_succ_self _, ⟨jm, (j8 + 1), rfl, jp, (je.trans jn.le), hr, rfl, jg, jh⟩⟩))
   ·have hr := ite_f ji hr; refine W_exit (then_x (then_x (block_here ?_))); exact then_n ⟨jc, rfl, jd, je, Option.some.inj hr⟩
 ·rintro j8 j9 ⟨ja, rfl, jb, jc, j6⟩; subst j6; have hr := j7; (try dsimp only at hr); refine then_n (sr (asg (rv (vi (-1))) (nn (W_ret ?_)))); obtain rfl := Option.some.inj hr; exact done1 (Or.inl rfl) Try.results33 rfl ⟨_, _, rfl, rfl, jb, Vint⟩

theorem dead_Follow_ok (N : Nat) (s0 : St) (w0 : Value) (a0 : List (List Deed)) (h0 : V s0 w0 a0) (a1 : Int) (w2 : Value) (a2 : List Int) (h2 : V s0 w2 a2) (r : (List Int) × Bool × Int) (hr : dead_Follow N a0 a1 a2 = some r) :
    Calls Try.prog 11 #[w0, .int .i64 a1, w2] s0.w (Ret s0 fun v s => ∃ a b c, v = .tuple #[a, b, c] ∧ V s a r.1 ∧ V s b r.2.1 ∧ V s c r.2.2) := by
 unfold dead_Follow at hr
 have j0 := Ext.refl s0
 refine Calls_of (n := 59) (args := [w0, .int .i64 a1, w2]) Try.func11 rfl rfl (by simp) (sr (asg (rv (Value.slice none 0 0)) (asg (rv (vb false)) (asg (rv (vi 0)) (nn (sr (mv (rv w0) (mv (rv (vi a1)) ?_))))))))
 obtain ⟨j1, j2, hr⟩ := bind_some hr
 refine L_calls cal31 (args2 (rv w0) (rv (vi a1))) (dead_newRun_ok N _ _ _ h0 a1 j1 j2) (by decide) (fun j3 j4 j5 j6 => ?_)
 have j7 := Tch.ext j0 j5
 obtain ⟨j8, j9, rfl, ja, jb⟩ := j6
 obtain rfl := jb.int
 refine mv (rv (Value.tuple #[j8, vi (j1.2)])) (xt (rv (Value.tuple #[j8, vi (j1.2)])) (k := 0) rfl (xt (rv (Value.tuple #[j8, vi (j1.2)])) (k := 1) rfl (asg (rv j8) (asg (rv (vi (j1.2))) (nn (W_seq (sr (mv (rv (vi (j1.2))) (ne (rv (vi (j1.2))) (rv (vi 0)) (nn ?_))))))))))
 refine W_cond _ (rv (vb (!decide (j1.2 = 0)))) (fun jc => ?_) (fun jc => ?_)
 ·have hr := ite_t jc hr; refine sr (mv (rv (vi (j1.2))) (asg (rv (Value.slice none 0 0)) (asg (rv (vb false)) (asg (rv (vi (j1.2))) (nn (W_ret (then_r ?_))))))); obtain rfl := Option.some.inj hr; exact done3 (Or.inl rfl) Try.results11 rfl rfl rfl ⟨_, _, rfl, rfl, j7, _, _, _, rfl, Vnil, Vbool, Vint⟩
 ·have hr := ite_f jc hr
  refine W_skip (then_n (W_seq (sr (mv (rv w2) (ln Try.underlying23 (rv w2) (h2.mono j5.le) (mv (rv (vi 0)) (nn ?_)))))))
  obtain ⟨jd, je, hr⟩ := bind_some hr
  obtain ⟨jf, jg, jh, ji⟩ := ja.open je
  obtain ⟨jj, jk, jl⟩ := bind_some hr
  refine W_cut (fun f w => ∃ (s : St) (jm : List Int), s.w = w ∧ Ext s0 s ∧ Le j4 s ∧ Sum.inl jm = jj ∧ f 9 = j8 ∧ Arr s jf 3 (jd.at_).length jm) ?_ ?_
  ·refine W_block (W_loop (fun m f w => ∃ (s : St) (jn : Int) (jo : List Int), s.w = w ∧ Ext s0 s ∧ Le j4 s ∧ dead_Follow_l1 N a0 a2 jd m jn jo = some jj ∧ f 24 = vi jn ∧ f 0 = w0 ∧ f 9 = j8 ∧ f 22 = w2 ∧ f 23 = vi ((a2.length : Int)) ∧ Arr s jf 3 (jd.at_).length jo) N ⟨j4, 0, jd.at_, rfl, j7, (Le.refl _), jk, rfl, rfl, rfl, rfl, rfl, ji⟩ ?_)
   rintro jp jq jr ⟨js, jn, jo, rfl, jt, ju, hr, jv, jw, jx, jy, jz, k0⟩
   cases jp with
   | zero => exact absurd hr (by simp [dead_Follow_l1])
   | succ jp =>
    rw [dead_Follow_l1.eq_2] at hr
    refine sr (ls jv jz (nn (W_seq ?_)))
    refine W_cond _ (rv (vb (decide (jn < (a2.length : Int))))) (fun k1 => ?_) (fun k1 => ?_)
    ·have hr := ite_t k1 hr
     refine W_skip (then_n (W_seq (W_block (sr ?_))))
     obtain ⟨k2, k3, hr⟩ := bind_some hr
     refine ix Try.underlying23 ty3.inf jy (h2.mono (j5.le.trans ju)) jv k3 (fun k4 k5 => li ty3 (rv k4) k5 (asg (rv (vi k2)) (nn ?_)))
     obtain ⟨k6, k7, k8⟩ := bind_some hr
     refine W_seq_cut (fun f w => ∃ (s : St), s.w = w ∧ Ext s0 s ∧ Le js s ∧ Sum.inl () = k6 ∧ f 0 = w0 ∧ f 9 = j8 ∧ f 12 = vi (k2) ∧ f 22 = w2 ∧ f 23 = vi ((a2.length : Int)) ∧ f 24 = vi (jn) ∧ Arr s jf 3 (jd.at_).length jo) ?_ ?_
     ·have hr := k7
      refine W_block ?_
      obtain ⟨k9, ka, kb⟩ := bind_some hr
      refine W_seq_cut (fun f w => ∃ (s : St) (kc : Bool), s.w = w ∧ Ext s0 s ∧ Le js s ∧ kc = k9 ∧ f 28 = vb kc ∧ f 0 = w0 ∧ f 9 = j8 ∧ f 12 = vi (k2) ∧ f 22 = w2 ∧ f 23 = vi ((a2.length : Int)) ∧ f 24 = vi (jn) ∧ Arr s jf 3 (jd.at_).length jo) ?_ ?_
      ·have hr := ka
       refine W_region (mv (rv (vi k2)) (ls (rv (vi k2)) (rv (vi 0)) (mv (rv (vb (decide (k2 < 0)))) ?_)))
       rcases tf (decide (k2 < 0)) with kd | kd
       ·have hr := ite_t kd hr; exact gf 31 (rv (vb (decide (k2 < 0)))) kd (gf 31 (rv (vb (decide (k2 < 0)))) kd (gf 31 (rv (vb (decide (k2 < 0)))) kd (gf 31 (rv (vb (decide (k2 < 0)))) kd (pt (rv (vb (decide (k2 < 0)))) kd (rv (vb true)) (asg (rv (vb true)) (nn ⟨js, true, rfl, jt, (Le.refl _), Option.some.inj hr, rfl, jw, jx, rfl, jy, jz, jv, k0⟩))))))
       ·have hr := ite_f kd hr; exact gt 31 (rv (vb (decide (k2 < 0)))) kd (mv (rv (vi k2)) (gt 31 (rv (vb (decide (k2 < 0)))) kd (mv jw (gt 31 (rv (vb (decide (k2 < 0)))) kd (ln Try.underlying29 (rv w0) (h0.mono (j5.le.trans ju)) (gt 31 (rv (vb (decide (k2 < 0)))) kd (L_geq (rv (vi k2)) (rv (vi ((a0.length : Int)))) (by decide) (pf (rv (vb (decide (k2 < 0)))) kd (rv (vb (decide ((a0.length : Int) ≤ k2)))) (asg (rv (vb (decide ((a0.length : Int) ≤ k2)))) (nn ⟨js, (decide ((a0.length : Int) ≤ k2)), rfl, jt, (Le.refl _), Option.some.inj hr, rfl, jw, jx, rfl, jy, jz, jv, k0⟩))))))))))
      ·rintro kd ke ⟨kf, kc, rfl, kg, kh, ka, ki, kj, kk, kl, km, kn, ko, kp⟩
       subst ka
       have hr := kb
       try dsimp only at hr
       refine W_cond _ ki (fun kq => ?_) (fun kq => ?_)
       ·have hr := ite_t kq hr; refine sr (asg (rv (Value.slice none 0 0)) (asg (rv (vb false)) (asg (rv (vi 11)) (nn (W_ret (block_r ?_)))))); obtain rfl := Option.some.inj hr; have hr := k8; (try dsimp only at hr); refine then_r (block_r (then_r (then_r (block_r ?_)))); obtain rfl := Option.some.inj hr; have hr := jl; (try dsimp only at hr); refine then_r (then_r ?_); obtain rfl := Option.some.inj hr; exact done3 (Or.inl rfl) Try.results11 rfl rfl rfl ⟨_, _, rfl, rfl, kg, _, _, _, rfl, Vnil, Vbool, Vint⟩
       ·have hr := ite_f kq hr
        refine sr (mv kk (mv kl ?_))
        obtain ⟨kr, ks, hr⟩ := bind_some hr
        obtain ⟨kt, ku, kv, kw⟩ := (kp).freeze
        refine L_calls_fz cal32 (args2 (rv j8) (rv (vi k2))) ku kv (fun k hk => by have kx : k = jf := hk; rw [kx]; exact (kp).g) (dead_run_can_ok N _ _ _ ((jh.mono (ju.trans (kh.trans kv.le))).ptr kw) k2 kr ks) (by decide) (fun ky kz g0 g1 g2 g3 => ?_)
        have g4 := Tch.ext kg g2
        obtain rfl := g3.bool
        refine L_not (rv (vb kr)) (by decide) (asg (rv (vb (!kr))) (nn ?_))
        refine W_cond _ (rv (vb (!kr))) (fun g5 => ?_) (fun g5 => ?_)
        ·have hr := ite_t g5 hr; refine sr (asg (rv (Value.slice none 0 0)) (asg (rv (vb false)) (asg (rv (vi 6)) (nn (W_ret (block_r ?_)))))); obtain rfl := Option.some.inj hr; have hr := k8; (try dsimp only at hr); refine then_r (block_r (then_r (then_r (block_r ?_)))); obtain rfl := Option.some.inj hr; have hr := jl; (try dsimp only at hr); refine then_r (then_r ?_); obtain rfl := Option.some.inj hr; exact done3 (Or.inl rfl) Try.results11 rfl rfl rfl ⟨_, _, rfl, rfl, g4, _, _, _, rfl, Vnil, Vbool, Vint⟩
        ·have hr := ite_f g5 hr; refine W_skip (block_n ?_); exact then_n ⟨g0, rfl, g4, (kh.trans g2.le), Option.some.inj hr, kj, kk, kl, km, kn, ko, (kp).ext g2⟩
     ·rintro k9 ka ⟨kb, rfl, kc, kd, k7, ke, kf, kg, kh, ki, kj, kk⟩; subst k7; have hr := k8; (try dsimp only at hr); refine W_region (mv kf (L_nilCheck_shell (rv j8) (jh.mono (ju.trans kd)) (by decide) (L_fieldAddr_shell fld72_2 (rv j8) (jh.mono (ju.trans kd)) (by decide) (fun kl km => L_load_cell Try.underlying23 rfl (rv kl) km (by decide) (mv kg ?_))))); obtain ⟨kn, ko, hr⟩ := bind_some hr; refine L_indexA (sz := 1) Try.underlying23 ty3.inf (rv (Value.slice (some ⟨jf, 0, none⟩) (jd.at_).length (jd.at_).length)) (rv (vi k2)) (idx_some ko).1 (by have := (idx_some ko).2.1; have := (kk).1; omega) (by decide) (L_loadA (xs := jo) ty3 (rv (Value.pointer (some ⟨jf, (k2).toNat * 1, none⟩))) (kk) ko (by decide) (fun kp kq => ?_)); obtain rfl := kq.int; obtain ⟨kr, hr⟩ := chk_some hr; refine ad (rv (vi kn)) (rv (vi 1)) kr ?_; obtain ⟨ks, kt, hr⟩ := bind_some hr; refine L_indexA (sz := 1) Try.underlying23 ty3.inf (rv (Value.slice (some ⟨jf, 0, none⟩) (jd.at_).length (jd.at_).length)) (rv (vi k2)) (idx_some kt).1 (by have := (idx_some kt).2.1; have := (kk).1; omega) (by decide) (L_storeA (xs := jo) ty3 (rv (Value.pointer (some ⟨jf, (k2).toNat * 1, none⟩))) (rv (vi (kn + 1))) Vint (kk) kt (fun ku kv kw => ?_)); have kx := Tch.trans kc kv (fun k hk => Or.inr (by subst hk; exact (Nat.le_trans j0.size jg))); refine L_nil (block_n (then_n (W_region ?_))); obtain ⟨ky, hr⟩ := chk_some hr; exact ad kj (rv (vi 1)) ky (mv (rv (vi (jn + 1))) (nn ⟨jp, Nat.lt_succ_self _, ⟨ku, (jn + 1), (jo.set (k2).toNat (kn + 1)), rfl, kx, (ju.trans (kd.trans kv.le)), hr, rfl, ke, kf, kh, ki, kw⟩⟩))
    ·have hr := ite_f k1 hr; refine W_exit (then_x (then_x (block_here ?_))); exact then_n ⟨js, jo, rfl, jt, ju, Option.some.inj hr, jx, k0⟩
  ·rintro jn jo ⟨jp, jm, rfl, jq, jr, jk, js, jt⟩
   subst jk
   have hr := jl
   try dsimp only at hr
   refine then_n (W_seq ?_)
   obtain ⟨ju, jv, jw, jx⟩ := (jt).freeze
   rw [← jv]
   have jy := Tch.trans jq jw (fun k hk => Or.inr (by subst hk; exact (Nat.le_trans j0.size jg)))
   obtain ⟨jz, k0, hr⟩ := bind_some hr
   refine W_draws mixed (by kernel_rfl) [PV.ptr ((Run.with_at_ jd jm) : Run), PV.ptr ((Run.with_at_ jd jm) : Run), PV.ptr ((Run.with_at_ jd jm).at_ : List Int), PV.data ((Run.with_at_ jd jm).at_ : List Int), PV.ptr ((Run.with_at_ jd jm) : Run), PV.eq (vi jz), PV.eq (vb (decide (jz < 0))), PV.data ((Run.with_at_ jd jm).at_ : List Int), PV.eq (vb (decide (jz < 0))), PV.eq (vi 0)] (Steps_cons ?_ (Steps_cons ?_ (Steps_cons ?_ (Steps_cons ?_ (Steps_cons ?_ (Steps_cons ?_ (Steps_cons ?_ (Steps_cons ?_ (Steps_cons ?_ (Steps_cons ?_ Steps_nil)))))))))) ?_
   ·intro k1 k2 k3 k4 k5 Q k6; have k7 : k1 9 = j8 := (k5 9 (by kernel_rfl)).trans js; exact mv k7 (fin k6 (((jh.mono (jr.trans jw.le)).ptr jx).mono k3.le))
   ·intro k1 k2 k3 k4 k5 Q k6; have k7 : Ptr _ (k1 52) ((Run.with_at_ jd jm) : Run) := k4 0 52 (by kernel_rfl) (by kernel_rfl); obtain ⟨k8, k9, ka⟩ : ∃ v, _ = v ∧ Ptr _ v _ := ⟨_, rfl, k7⟩; exact L_nilCheck_ptr k9 ka (by decide) (fin k6 ka)
   ·intro k1 k2 k3 k4 k5 Q k6; have k7 : Ptr _ (k1 53) ((Run.with_at_ jd jm) : Run) := k4 1 53 (by kernel_rfl) (by kernel_rfl); obtain ⟨k8, k9, ka⟩ : ∃ v, _ = v ∧ Ptr _ v _ := ⟨_, rfl, k7⟩; exact fa fld72_2 Run.of_at_ k9 ka (fun kb kc => fin k6 kc)
   ·intro k1 k2 k3 k4 k5 Q k6; have k7 : Ptr _ (k1 54) ((Run.with_at_ jd jm).at_ : List Int) := k4 2 54 (by kernel_rfl) (by kernel_rfl); obtain ⟨k8, k9, ka⟩ : ∃ v, _ = v ∧ Ptr _ v _ := ⟨_, rfl, k7⟩; exact ld ty23 k9 ka (fun kb kc => fin k6 kc)
   ·intro k1 k2 k3 k4 k5 Q k6; have k7 : k1 9 = j8 := (k5 9 (by kernel_rfl)).trans js; exact mv k7 (fin k6 (((jh.mono (jr.trans jw.le)).ptr jx).mono k3.le))
   ·intro k1 k2 k3 k4 k5 Q k6; have k7 : Ptr _ (k1 56) ((Run.with_at_ jd jm) : Run) := k4 4 56 (by kernel_rfl) (by kernel_rfl); obtain ⟨k8, k9, ka⟩ : ∃ v, _ = v ∧ Ptr _ v _ := ⟨_, rfl, k7⟩; refine L_calls cal33 (args1 k9) (dead_run_next_ok N _ _ _ ka jz k0) (by decide) (fun kb kc kd ke => ?_); have kf := Tch.ext (Ext.refl k2) kd; obtain rfl := ke.int; exact L_nil (k6 _ _ kf rfl)
   ·intro k1 k2 k3 k4 k5 Q k6; have k7 : k1 57 = vi (jz) := k4 5 57 (by kernel_rfl) (by kernel_rfl); exact ls k7 (rv (vi 0)) (fin k6 rfl)
   ·intro k1 k2 k3 k4 k5 Q k6; have k7 : V _ (k1 55) ((Run.with_at_ jd jm).at_ : List Int) := k4 3 55 (by kernel_rfl) (by kernel_rfl); obtain ⟨k8, k9, ka⟩ : ∃ v, _ = v ∧ V _ v _ := ⟨_, rfl, k7⟩; exact asg k9 (fin k6 ka)
   ·intro k1 k2 k3 k4 k5 Q k6; have k7 : k1 58 = vb (decide (jz < 0)) := k4 6 58 (by kernel_rfl) (by kernel_rfl); exact asg k7 (fin k6 rfl)
   ·intro k1 k2 k3 k4 k5 Q k6; exact asg (rv (vi 0)) (fin k6 rfl)
   ·intro k1 k2 k3 k4 k5; have k6 := Tch.ext jy k3; have k7 : V _ (k1 6) ((Run.with_at_ jd jm).at_ : List Int) := k4 7 6 (by kernel_rfl); obtain ⟨k8, k9, ka⟩ : ∃ v, _ = v ∧ V _ v _ := ⟨_, rfl, k7⟩; have kb : k1 7 = vb (decide (jz < 0)) := k4 8 7 (by kernel_rfl); have kc : k1 8 = vi (0) := k4 9 8 (by kernel_rfl); refine then_n (W_ret ?_); obtain rfl := Option.some.inj hr; exact done3 (Or.inl rfl) Try.results11 k9 kb kc ⟨_, _, rfl, rfl, k6, _, _, _, rfl, ka, Vbool, Vint⟩

theorem ref01_SameInts_ok (N : Nat) (s0 : St) (w0 : Value) (a0 : List Int) (h0 : V s0 w0 a0) (w1 : Value) (a1 : List Int) (h1 : V s0 w1 a1) (r : Bool) (hr : ref01_SameInts N a0 a1 = some r) :
    Calls Try.prog 14 #[w0, w1] s0.w (Ret s0 fun v s => V s v r) := by
 unfold ref01_SameInts at hr
 have j0 := Ext.refl s0
 refine Calls_of (n := 26) (args := [w0, w1]) Try.func14 rfl rfl (by simp) (sr (asg (rv (vb false)) (nn (W_seq (sr (mv (rv w0) (ln Try.underlying23 (rv w0) h0 (mv (rv w1) (ln Try.underlying23 (rv w1) h1 (ne (rv (vi ((a0.length : Int)))) (rv (vi ((a1.length : Int)))) (nn ?_)))))))))))
 refine W_cond _ (rv (vb (!decide ((a0.length : Int) = (a1.length : Int))))) (fun j1 => ?_) (fun j1 => ?_)
 ·have hr := ite_t j1 hr; refine sr (asg (rv (vb false)) (nn (W_ret (then_r ?_)))); obtain rfl := Option.some.inj hr; exact done1 (Or.inl rfl) Try.results14 rfl ⟨_, _, rfl, rfl, j0, Vbool⟩
 ·have hr := ite_f j1 hr
  refine W_skip (then_n (W_seq (sr (asg (rv (vi 0)) (nn ?_)))))
  obtain ⟨j2, j3, j4⟩ := bind_some hr
  refine W_cut (fun f w => ∃ (s : St), s.w = w ∧ Ext s0 s ∧ Le s0 s ∧ Sum.inl () = j2) ?_ ?_
  ·refine W_block (W_loop (fun m f w => ∃ (s : St) (j5 : Int), s.w = w ∧ Ext s0 s ∧ Le s0 s ∧ ref01_SameInts_l1 N a0 a1 m j5 = some j2 ∧ f 5 = vi j5 ∧ f 0 = w0 ∧ f 1 = w1) N ⟨s0, 0, rfl, j0, (Le.refl _), j3, rfl, rfl, rfl⟩ ?_)
   rintro j6 j7 j8 ⟨j9, j5, rfl, ja, jb, hr, jc, jd, je⟩
   cases j6 with
   | zero => exact absurd hr (by simp [ref01_SameInts_l1])
   | succ j6 =>
    rw [ref01_SameInts_l1.eq_2] at hr
    refine W_seq (sr (mv jc (mv jd (ln Try.underlying23 (rv w0) (h0.mono jb) (ls (rv (vi j5)) (rv (vi ((a0.length : Int)))) (nn ?_))))))
    refine W_cond _ (rv (vb (decide (j5 < (a0.length : Int))))) (fun jf => ?_) (fun jf => ?_)
    ·have hr := ite_t jf hr
     refine W_skip (then_n (W_seq (W_block (W_seq ?_))))
     obtain ⟨jg, jh, hr⟩ := bind_some hr
     obtain ⟨ji, jj, hr⟩ := bind_some hr
     refine W_draws mixed (by kernel_rfl) [PV.data (a0 : List Int), PV.eq (vi j5), PV.ptr (jg : Int), PV.eq (vi jg), PV.data (a1 : List Int), PV.eq (vi j5), PV.ptr (ji : Int), PV.eq (vi ji), PV.eq (vb (!decide (jg = ji)))] (Steps_cons ?_ (Steps_cons ?_ (Steps_cons ?_ (Steps_cons ?_ (Steps_cons ?_ (Steps_cons ?_ (Steps_cons ?_ (Steps_cons ?_ (Steps_cons ?_ Steps_nil))))))))) ?_
     ·intro jk jl jm jn jo Q jp; have jq : jk 0 = w0 := (jo 0 (by kernel_rfl)).trans jd; exact mv jq (fin jp (h0.mono (jb.trans jm.le)))
     ·intro jk jl jm jn jo Q jp; have jq : jk 5 = vi (j5) := (jo 5 (by kernel_rfl)).trans jc; exact mv jq (fin jp rfl)
     ·intro jk jl jm jn jo Q jp; have jq : V _ (jk 17) (a0 : List Int) := jn 0 17 (by kernel_rfl) (by kernel_rfl); obtain ⟨jr, js, jt⟩ : ∃ v, _ = v ∧ V _ v _ := ⟨_, rfl, jq⟩; have ju : jk 18 = vi (j5) := jn 1 18 (by kernel_rfl) (by kernel_rfl); exact ix Try.underlying23 ty3.inf js jt ju jh (fun jv jw => fin jp jw)
     ·intro jk jl jm jn jo Q jp; have jq : Ptr _ (jk 19) (jg : Int) := jn 2 19 (by kernel_rfl) (by kernel_rfl); obtain ⟨jr, js, jt⟩ : ∃ v, _ = v ∧ Ptr _ v _ := ⟨_, rfl, jq⟩; exact li ty3 js jt (fin jp rfl)
     ·intro jk jl jm jn jo Q jp; have jq : jk 1 = w1 := (jo 1 (by kernel_rfl)).trans je; exact mv jq (fin jp (h1.mono (jb.trans jm.le)))
     ·intro jk jl jm jn jo Q jp; have jq : jk 5 = vi (j5) := (jo 5 (by kernel_rfl)).trans jc; exact mv jq (fin jp rfl)
     ·intro jk jl jm jn jo Q jp; have jq : V _ (jk 21) (a1 : List Int) := jn 4 21 (by kernel_rfl) (by kernel_rfl); obtain ⟨jr, js, jt⟩ : ∃ v, _ = v ∧ V _ v _ := ⟨_, rfl, jq⟩; have ju : jk 22 = vi (j5) := jn 5 22 (by kernel_rfl) (by kernel_rfl); exact ix Try.underlying23 ty3.inf js jt ju jj (fun jv jw => fin jp jw)
     ·intro jk jl jm jn jo Q jp; have jq : Ptr _ (jk 23) (ji : Int) := jn 6 23 (by kernel_rfl) (by kernel_rfl); obtain ⟨jr, js, jt⟩ : ∃ v, _ = v ∧ Ptr _ v _ := ⟨_, rfl, jq⟩; exact li ty3 js jt (fin jp rfl)
     ·intro jk jl jm jn jo Q jp; have jq : jk 20 = vi (jg) := jn 3 20 (by kernel_rfl) (by kernel_rfl); have jr : jk 24 = vi (ji) := jn 7 24 (by kernel_rfl) (by kernel_rfl); exact ne jq jr (fin jp rfl)
     ·intro jk jl jm jn jo
      have jp := Tch.ext ja jm
      have jq : jk 0 = w0 := (jo 0 (by kernel_rfl)).trans jd
      have jr : jk 1 = w1 := (jo 1 (by kernel_rfl)).trans je
      have js : jk 5 = vi (j5) := (jo 5 (by kernel_rfl)).trans jc
      have jt : jk 25 = vb (!decide (jg = ji)) := jn 8 25 (by kernel_rfl)
      refine then_n ?_
      refine W_cond _ jt (fun ju => ?_) (fun ju => ?_)
      ·have hr := ite_t ju hr; refine sr (asg (rv (vb false)) (nn (W_ret (block_r (then_r (then_r (block_r ?_))))))); obtain rfl := Option.some.inj hr; have hr := j4; (try dsimp only at hr); refine then_r (then_r ?_); obtain rfl := Option.some.inj hr; exact done1 (Or.inl rfl) Try.results14 rfl ⟨_, _, rfl, rfl, jp, Vbool⟩
      ·have hr := ite_f ju hr; refine W_skip (block_n (then_n (W_region (mv js ?_)))); obtain ⟨jv, hr⟩ := chk_some hr; exact ad (rv (vi j5)) (rv (vi 1)) jv (asg (rv (vi (j5 + 1))) (nn ⟨j6, Nat.lt_succ_self _, ⟨jl, (j5 + 1), rfl, jp, (jb.trans jm.le), hr, rfl, jq, jr⟩⟩))
    ·have hr := ite_f jf hr; refine W_exit (then_x (then_x (block_here ?_))); exact then_n ⟨j9, rfl, ja, jb, Option.some.inj hr⟩
  ·rintro j5 j6 ⟨j7, rfl, j8, j9, j3⟩; subst j3; have hr := j4; (try dsimp only at hr); refine then_n (sr (asg (rv (vb true)) (nn (W_ret ?_)))); obtain rfl := Option.some.inj hr; exact done1 (Or.inl rfl) Try.results14 rfl ⟨_, _, rfl, rfl, j8, Vbool⟩

theorem dead_Narrow_1_ok (N : Nat) (s0 : St) (w0 : Value) (a0 : Deed) (h0 : V s0 w0 a0) (w1 : Value) (a1 : Int) (h1 : Ptr s0 w1 a1) (w2 : Value) (a2 : Deed) (h2 : Ptr s0 w2 a2) (r : Bool) (hr : dead_Narrow_1 N a0 a1 a2 = some r) :
    Calls Try.prog 39 #[w0, w1, w2] s0.w (Ret s0 fun v s => V s v r) := by
 unfold dead_Narrow_1 at hr
 have j0 := Ext.refl s0
 refine Calls_of (n := 18) (args := [w0, w1, w2]) Try.func39 rfl rfl (by simp) (sr (L_box (rv w0) h0 (by decide) (fun j1 j2 j3 j4 => ?_)))
 have j5 := Tch.ext j0 j3
 refine asg (rv (vb false)) (nn (sr (ld ty64 (rv j2) j4 (fun j6 j7 => ?_))))
 obtain ⟨j8, j9, hr⟩ := bind_some hr
 refine L_calls cal40 (args1 (rv j6)) (dead_sends_ok N _ _ _ j7 j8 j9) (by decide) (fun ja jb jc jd => ?_)
 have je := Tch.ext j5 jc
 obtain rfl := jd.bool
 refine mv (rv (vb j8)) ?_
 rcases tf (j8) with jf | jf
 ·have hr := ite_t jf hr
  refine gt 7 (rv (vb j8)) jf (fa fld64_1 Deed.of_Peer (rv j2) (j4.mono jc.le) (fun jg jh => gt 7 (rv (vb j8)) jf (li ty3 (rv jg) jh (gt 7 (rv (vb j8)) jf (li ty3 (rv w1) (h1.mono (j3.le.trans jc.le)) (gt 7 (rv (vb j8)) jf (el (rv (vi (a0.Peer))) (rv (vi a1)) (pt (rv (vb j8)) jf (rv (vb (decide (a0.Peer = a1)))) (mv (rv (vb (decide (a0.Peer = a1)))) ?_)))))))))
  rcases tf (decide (a0.Peer = a1)) with ji | ji
  ·have hr := ite_t ji hr; refine gt 13 (rv (vb (decide (a0.Peer = a1)))) ji (ld ty64 (rv j2) (j4.mono jc.le) (fun jj jk => gt 13 (rv (vb (decide (a0.Peer = a1)))) ji (ld ty64 (rv w2) (h2.mono (j3.le.trans jc.le)) (fun jl jm => gt 13 (rv (vb (decide (a0.Peer = a1)))) ji ?_)))); obtain ⟨jn, jo, hr⟩ := bind_some hr; refine L_calls cal41 (args2 (rv jj) (rv jl)) (dead_fits_ok N _ _ _ jk _ _ jm jn jo) (by decide) (fun jp jq jr js => ?_); have jt := Tch.ext je jr; obtain rfl := js.bool; refine pt (rv (vb (decide (a0.Peer = a1)))) ji (rv (vb jn)) (asg (rv (vb jn)) (nn (W_ret ?_))); obtain rfl := Option.some.inj hr; exact done1 (Or.inl rfl) Try.results39 rfl ⟨_, _, rfl, rfl, jt, Vbool⟩
  ·have hr := ite_f ji hr; refine gf 13 (rv (vb (decide (a0.Peer = a1)))) ji (gf 13 (rv (vb (decide (a0.Peer = a1)))) ji (gf 13 (rv (vb (decide (a0.Peer = a1)))) ji (pf (rv (vb (decide (a0.Peer = a1)))) ji (rv (vb false)) (asg (rv (vb false)) (nn (W_ret ?_)))))); obtain rfl := Option.some.inj hr; exact done1 (Or.inl rfl) Try.results39 rfl ⟨_, _, rfl, rfl, je, Vbool⟩
 ·have hr := ite_f jf hr; refine gf 7 (rv (vb j8)) jf (gf 7 (rv (vb j8)) jf (gf 7 (rv (vb j8)) jf (gf 7 (rv (vb j8)) jf (pf (rv (vb j8)) jf (rv (vb false)) (mv (rv (vb false)) (gf 13 (rv (vb false)) rfl (gf 13 (rv (vb false)) rfl (gf 13 (rv (vb false)) rfl (pf (rv (vb false)) rfl (rv (vb false)) (asg (rv (vb false)) (nn (W_ret ?_)))))))))))); obtain rfl := Option.some.inj hr; exact done1 (Or.inl rfl) Try.results39 rfl ⟨_, _, rfl, rfl, je, Vbool⟩

theorem cal39 : Callee Try.prog 39 := ⟨_, Try.func39, by kernel_rfl, by kernel_rfl⟩
theorem dead_Narrow_ok (N : Nat) (s0 : St) (w0 : Value) (a0 : List (List Deed)) (h0 : V s0 w0 a0) (r : (List (List Deed)) × Bool × Int) (hr : dead_Narrow N a0 = some r) :
    Calls Try.prog 15 #[w0] s0.w (Ret s0 fun v s => ∃ a b c, v = .tuple #[a, b, c] ∧ V s a r.1 ∧ V s b r.2.1 ∧ V s c r.2.2) := by
 unfold dead_Narrow at hr
 have j0 := Ext.refl s0
 refine Calls_of (n := 81) (args := [w0]) Try.func15 rfl rfl (by simp) (sr (asg (rv (Value.slice none 0 0)) (asg (rv (vb false)) (asg (rv (vi 0)) (nn (W_scope ?_))))))
 repeat (first | with_reducible refine W_seq ?_ | with_reducible refine then_n ?_ | with_reducible refine block_n ?_)
 refine W_region (mv (rv w0) ?_)
 obtain ⟨j1, j2, hr⟩ := bind_some hr
 refine L_calls cal27 (args1 (rv w0)) (dead_Check_ok N _ _ _ h0 j1 j2) (by decide) (fun j3 j4 j5 j6 => ?_)
 have j7 := Tch.ext j0 j5
 obtain rfl := j6.int
 refine asg (rv (vi j1)) (L_nil ?_)
 repeat (first | with_reducible refine W_seq ?_ | with_reducible refine then_n ?_ | with_reducible refine block_n ?_)
 refine W_region (mv (rv (vi j1)) (ne (rv (vi j1)) (rv (vi 0)) (L_nil ?_)))
 repeat (first | with_reducible refine W_seq ?_ | with_reducible refine then_n ?_ | with_reducible refine block_n ?_)
 refine W_cond _ (rv (vb (!decide (j1 = 0)))) (fun j8 => ?_) (fun j8 => ?_)
 ·have hr := ite_t j8 hr; refine sr (mv (rv (vi j1)) (asg (rv (Value.slice none 0 0)) (asg (rv (vb false)) (asg (rv (vi j1)) (L_nil ?_))))); (repeat (first | with_reducible refine W_seq ?_ | with_reducible refine then_n ?_ | with_reducible refine block_n ?_)); refine W_ret ?_; (repeat (with_reducible refine then_r ?_)); obtain rfl := Option.some.inj hr; exact done3 (Or.inl rfl) Try.results15 rfl rfl rfl ⟨_, _, rfl, rfl, j7, _, _, _, rfl, Vnil, Vbool, Vint⟩
 have hr := ite_f j8 hr
 refine W_skip ?_
 repeat (first | with_reducible refine W_seq ?_ | with_reducible refine then_n ?_ | with_reducible refine block_n ?_)
 refine W_region (mv (rv w0) (ln Try.underlying29 (rv w0) (h0.mono j7.le) ?_))
 obtain ⟨j9, hr⟩ := chk_some hr
 refine L_makeB (B := s0.w.heap.size) (E' := 64) Try.underlying29 tyz59 (rv (vi (a0.length : Int))) j9.1 j9.2.1 j9.2.2 (by decide) j7.size (fun ja bA jb hbA jc => ?_)
 have jd := Tch.ext j7 jb
 have je : ((a0.length : Int)).toNat = a0.length := by omega
 refine asg (rv (Value.slice (some ⟨bA, 0, none⟩) (a0.length : Int).toNat (a0.length : Int).toNat)) ?_
 rw [je]
 refine L_nil ?_
 repeat (first | with_reducible refine W_seq ?_ | with_reducible refine then_n ?_ | with_reducible refine block_n ?_)
 refine W_label ?_
 repeat (first | with_reducible refine W_seq ?_ | with_reducible refine then_n ?_ | with_reducible refine block_n ?_)
 refine W_region (mv (rv w0) (ln Try.underlying29 (rv w0) (h0.mono jd.le) (mv (rv (vi 0)) (L_nil ?_))))
 repeat (first | with_reducible refine W_seq ?_ | with_reducible refine then_n ?_ | with_reducible refine block_n ?_)
 obtain ⟨jf, jg, hq⟩ := bind_some hr
 refine W_cut (fun f w => ∃ (s : St), s.w = w ∧ Ext s0 s ∧ ((jf = none ∧ f 6 = Value.slice none 0 0) ∨ ∃ vs out, jf = some out ∧ ArrB s s0.w.heap.size 59 64 bA vs out ∧ out.length = a0.length ∧ f 6 = Value.slice (some ⟨bA, 0, none⟩) a0.length a0.length)) ?_ ?_
 ·refine W_block (W_loop (fun m f w => ∃ (s : St) (jh : Int) (vs : List Value) (out : List (List Deed)), s.w = w ∧ Ext s0 s ∧ dead_Narrow_l1 N a0 m jh out = some jf ∧ ArrB s s0.w.heap.size 59 64 bA vs out ∧ out.length = a0.length ∧ f 24 = vi jh ∧ f 0 = w0 ∧ f 6 = Value.slice (some ⟨bA, 0, none⟩) a0.length a0.length ∧ f 22 = w0 ∧ f 23 = vi (a0.length : Int)) N ⟨ja, 0, _, _, rfl, jd, jg, jc, by simp, rfl, rfl, rfl, rfl, rfl⟩ ?_)
  rintro ji jj jk ⟨s, jh, vs, out, rfl, hE, hr, hA, hlo, jl, jm, jn, jo, jp⟩
  cases ji with
  | zero => exact absurd hr (by simp [dead_Narrow_l1])
  | succ ji =>
   rw [dead_Narrow_l1.eq_2] at hr
   refine sr (ls jl jp (L_nil ?_))
   repeat (first | with_reducible refine W_seq ?_ | with_reducible refine then_n ?_ | with_reducible refine block_n ?_)
   refine W_cond _ (rv (vb (decide (jh < (a0.length : Int))))) (fun hb => ?_) (fun hb => ?_)
   rotate_left
   ·have hr := ite_f hb hr; refine W_exit ?_; (repeat (with_reducible refine then_x ?_)); refine block_here ?_; exact then_n ⟨s, rfl, hE, Or.inr ⟨vs, out, (Option.some.inj hr).symm, hA, hlo, jn⟩⟩
   have hr := ite_t hb hr
   refine W_skip ?_
   repeat (first | with_reducible refine W_seq ?_ | with_reducible refine then_n ?_ | with_reducible refine block_n ?_)
   refine W_block ?_
   repeat (first | with_reducible refine W_seq ?_ | with_reducible refine then_n ?_ | with_reducible refine block_n ?_)
   refine W_region ?_
   obtain ⟨y, hy, hr⟩ := bind_some hr
   refine mv jl (ix Try.underlying29 ty59.inf jo (h0.mono hE.le) jl hy (fun py hpy => ld ty59 (rv py) hpy (fun vy hvy => L_var ty3 zero3 (by decide) (rv (vi jh)) Vint (by decide) (fun jq jr js jt => ?_))))
   have ju := Tch.ext hE js
   have jv := hA.ext js
   refine asg (rv vy) (L_nil ?_)
   repeat (first | with_reducible refine W_seq ?_ | with_reducible refine then_n ?_ | with_reducible refine block_n ?_)
   refine W_region (mv (rv vy) (ln Try.underlying59 (rv vy) (hvy.mono js.le) (mv (rv (vi 0)) (L_nil ?_))))
   repeat (first | with_reducible refine W_seq ?_ | with_reducible refine then_n ?_ | with_reducible refine block_n ?_)
   obtain ⟨jw, jx, jy⟩ := bind_some hr
   refine W_cut (fun f w => ∃ (s : St) (vs : List Value) (out : List (List Deed)), s.w = w ∧ Ext s0 s ∧ jw = some out ∧ ArrB s s0.w.heap.size 59 64 bA vs out ∧ out.length = a0.length ∧ f 24 = vi jh ∧ f 0 = w0 ∧ f 6 = Value.slice (some ⟨bA, 0, none⟩) a0.length a0.length ∧ f 22 = w0 ∧ f 23 = vi (a0.length : Int)) ?_ ?_
   rotate_left
   ·rintro jz k0 ⟨s, vs, out, rfl, hE, jx, hA, hlo, jl, jm, jn, jo, jp⟩; subst jx; have hr := jy; dsimp only at hr; obtain ⟨hc, hr⟩ := chk_some hr; (repeat (first | with_reducible refine W_seq ?_ | with_reducible refine then_n ?_ | with_reducible refine block_n ?_)); exact W_region (ad jl (rv (vi 1)) hc (mv (rv (vi (jh + 1))) (nn ⟨ji, Nat.lt_succ_self _, ⟨s, jh + 1, vs, out, rfl, hE, hr, hA, hlo, rfl, jm, jn, jo, jp⟩⟩)))
   refine W_block (W_loop (fun m f w => ∃ (s : St) (jz : Int) (vs : List Value) (out : List (List Deed)), s.w = w ∧ Ext s0 s ∧ dead_Narrow_l2 N a0 jh y m jz out = some jw ∧ ArrB s s0.w.heap.size 59 64 bA vs out ∧ out.length = a0.length ∧ Ptr s jr jh ∧ V s vy y ∧ f 31 = vi jz ∧ f 29 = vy ∧ f 30 = vi (y.length : Int) ∧ f 7 = jr ∧ f 24 = vi jh ∧ f 0 = w0 ∧ f 6 = Value.slice (some ⟨bA, 0, none⟩) a0.length a0.length ∧ f 22 = w0 ∧ f 23 = vi (a0.length : Int)) N ⟨jq, 0, vs, out, rfl, ju, jx, jv, hlo, jt, hvy.mono js.le, rfl, rfl, rfl, rfl, jl, jm, jn, jo, jp⟩ ?_)
   clear hr hA hE jv ju jt hvy jl jm jn jo jp hlo
   rintro k0 jj jk ⟨s, jz, vs, out, rfl, hE, hr, hA, hlo, jt, hvy, k1, k2, k3, k4, jl, jm, jn, jo, jp⟩
   cases k0 with
   | zero => exact absurd hr (by simp [dead_Narrow_l2])
   | succ k0 =>
    rw [dead_Narrow_l2.eq_2] at hr
    refine sr (ls k1 k3 (L_nil ?_))
    repeat (first | with_reducible refine W_seq ?_ | with_reducible refine then_n ?_ | with_reducible refine block_n ?_)
    refine W_cond _ (rv (vb (decide (jz < (y.length : Int))))) (fun hb => ?_) (fun hb => ?_)
    rotate_left
    ·have hr := ite_f hb hr; refine W_exit ?_; (repeat (with_reducible refine then_x ?_)); refine block_here ?_; exact then_n ⟨s, vs, out, rfl, hE, (Option.some.inj hr).symm, hA, hlo, jl, jm, jn, jo, jp⟩
    have hr := ite_t hb hr
    refine W_skip ?_
    repeat (first | with_reducible refine W_seq ?_ | with_reducible refine then_n ?_ | with_reducible refine block_n ?_)
    refine W_block ?_
    repeat (first | with_reducible refine W_seq ?_ | with_reducible refine then_n ?_ | with_reducible refine block_n ?_)
    refine W_region ?_
    obtain ⟨dd, hdd, hr⟩ := bind_some hr
    refine ix Try.underlying59 ty64.inf k2 hvy k1 hdd (fun pd hpd => ld ty64 (rv pd) hpd (fun vd hvd => L_alloc (α := Deed) (x := ⟨0, 0, 0, 0, false⟩) zero64 Deed.zero_rel (by decide) (fun k5 k6 k7 k8 k9 => ?_)))
    have ka := Tch.ext hE k7
    have kb := hA.ext k7
    have hown : ∀ k, ownB bA vs k → ¬ k = k6 := fun k hk e => by have := (hA.lt hk).2; omega
    refine L_store ty64 (rv (Value.pointer (some ⟨k6, 0, none⟩))) (rv vd) (hvd.mono k7.le) k9 (fun kc j5 kd => ?_)
    have hb10' : s0.w.heap.size ≤ k6 := Nat.le_trans hE.size k8
    have ke := Tch.trans ka j5 (fun k hk => Or.inr (by subst hk; exact hb10'))
    have kf := kb.tch j5 hown
    have kg := jt.mono (k7.le.trans j5.le)
    have kh := hvy.mono (k7.le.trans j5.le)
    refine L_nil ?_
    repeat (first | with_reducible refine W_seq ?_ | with_reducible refine then_n ?_ | with_reducible refine block_n ?_)
    refine W_region (L_load_var ty64 (rv (Value.pointer (some ⟨k6, 0, none⟩))) kd (by decide) (fun ki kj => ?_))
    obtain ⟨oo, hoo, hr⟩ := bind_some hr
    refine L_calls cal37 (args1 (rv ki)) (dead_open_ok N _ _ _ kj oo hoo) (by decide) (fun kk kl km j6 => ?_)
    obtain rfl := j6.bool
    have kn := Tch.ext ke km
    have ko := kf.ext km
    have kp := kd.ext km
    have kq := kg.mono km.le
    have kr := kh.mono km.le
    clear hE hA jt hvy ka kb ke kf k9 kd hvd kg kh
    refine L_not (rv (vb oo)) (by decide) (L_nil ?_)
    repeat (first | with_reducible refine W_seq ?_ | with_reducible refine then_n ?_ | with_reducible refine block_n ?_)
    refine W_cond _ (rv (vb (!oo))) (fun ks => ?_) (fun ks => ?_)
    ·have hr := ite_t ks hr
     obtain ⟨j4, kt, ku, kv⟩ := kp.freeze
     have hE := Tch.trans kn ku (fun k hk => Or.inr (by subst hk; exact hb10'))
     have hA := ko.tch ku hown
     have jt := kq.mono ku.le
     have hvy := kr.mono ku.le
     rw [← kt]
     repeat (first | with_reducible refine W_seq ?_ | with_reducible refine then_n ?_ | with_reducible refine block_n ?_)
     obtain ⟨z, hz, hr⟩ := bind_some hr
     obtain ⟨hc, hr⟩ := chk_some hr
     obtain ⟨kw, hjl, hze⟩ := idx_some hz
     have hjv : jh.toNat < vs.length := by rw [hA.len]; omega
     obtain ⟨kx, ky⟩ : ∃ kx, vs[jh.toNat]? = some kx := ⟨_, List.getElem?_eq_getElem hjv⟩
     refine W_drawP mixed 11 [PX.eq (Value.slice (some ⟨bA, 0, none⟩) a0.length a0.length), PX.eq (vi jh), PX.eq (Value.slice (some ⟨bA, 0, none⟩) a0.length a0.length), PX.eq (vi jh), PX.eq (Value.pointer (some ⟨bA, jh.toNat * 1, none⟩)), PX.eq kx, PX.data (dd : Deed), PX.data [(dd : Deed)], PX.arrh s0.w.heap.size 59 64 bA vs out jh.toNat hjv (z ++ [(dd : Deed)]), PX.eq (Value.pointer (some ⟨bA, jh.toNat * 1, none⟩)), PX.arrc s0.w.heap.size 59 64 bA vs (out.set jh.toNat (z ++ [(dd : Deed)])) jh.toNat, PX.arrb s0.w.heap.size 59 64 bA vs out] [38, 39, 40, 41, 42, 43, 44, 45, 46, 47, 46, 6] [[], [], [], [], [], [], [], [], [11], [], [8]] rfl (by kernel_rfl) (ent1 rfl hA) (dis1 rfl) (StepsX_cons ?_ (StepsX_cons ?_ (StepsX_cons ?_ (StepsX_cons ?_ (StepsX_cons ?_ (StepsX_cons ?_ (StepsX_cons ?_ (StepsX_cons ?_ (StepsX_cons ?_ (StepsX_cons ?_ (StepsX_cons ?_ StepsX_nil))))))))))) ?_
     ·intro f' s' hT hX hB Q hk; have ha : f' 6 = Value.slice (some ⟨bA, 0, none⟩) a0.length a0.length := (hB 6 (by kernel_rfl)).trans jn; exact mv ha (L_nil (hk _ _ No (Ext.refl s') (fun _ h => h.elim) rfl (fun _ h => h.elim)))
     ·intro f' s' hT hX hB Q hk; have ha : f' 7 = jr := (hB 7 (by kernel_rfl)).trans k4; exact li ty3 ha (jt.mono hT.le) (L_nil (hk _ _ No (Ext.refl s') (fun _ h => h.elim) rfl (fun _ h => h.elim)))
     ·intro f' s' hT hX hB Q hk; have ha : f' 6 = Value.slice (some ⟨bA, 0, none⟩) a0.length a0.length := (hB 6 (by kernel_rfl)).trans jn; exact mv ha (L_nil (hk _ _ No (Ext.refl s') (fun _ h => h.elim) rfl (fun _ h => h.elim)))
     ·intro f' s' hT hX hB Q hk; have ha : f' 7 = jr := (hB 7 (by kernel_rfl)).trans k4; exact li ty3 ha (jt.mono hT.le) (L_nil (hk _ _ No (Ext.refl s') (fun _ h => h.elim) rfl (fun _ h => h.elim)))
     ·intro f' s' hT hX hB Q hk; have ha : f' 40 = Value.slice (some ⟨bA, 0, none⟩) a0.length a0.length := hX 2 (by kernel_rfl) (by show _ < 12; decide); have hb : f' 41 = vi jh := hX 3 (by kernel_rfl) (by show _ < 12; decide); exact L_indexA Try.underlying29 ty59.inf ha hb kw (by rw [← hlo]; omega) (by decide) (L_nil (hk _ _ No (Ext.refl s') (fun _ h => h.elim) rfl (fun _ h => h.elim)))
     ·intro f' s' hT hX hB Q hk; have ha : f' 42 = Value.pointer (some ⟨bA, jh.toNat * 1, none⟩) := hX 4 (by kernel_rfl) (by show _ < 12; decide); have hA' : ArrB s' s0.w.heap.size 59 64 bA vs out := hX 11 (by kernel_rfl) (by show _ < 12; decide); exact L_loadB ty59 (ha.trans (by rw [Nat.mul_one])) hA' ky (by decide) (L_nil (hk _ _ No (Ext.refl s') (fun _ h => h.elim) rfl (fun _ h => h.elim)))
     ·intro f' s' hT hX hB Q hk; have ha : f' 10 = Value.pointer (some ⟨k6, 0, none⟩) := (hB 10 (by kernel_rfl)).trans rfl; exact ld ty64 ha (kv.mono hT.le) (fun v hv => L_nil (hk _ _ No (Ext.refl s') (fun _ h => h.elim) hv (fun _ h => h.elim)))
     ·intro f' s' hT hX hB Q hk; obtain ⟨vd, qd, hvd⟩ : ∃ v, f' 44 = v ∧ V s' v (dd : Deed) := ⟨_, rfl, hX 6 (by kernel_rfl) (by show _ < 12; decide)⟩; exact L_buildSlice (xs := [(dd : Deed)]) Try.underlying59 tyz64 (Parts_cons rfl qd Parts_nil) (Vs.cons hvd Vs.nil) rfl (by decide) (by decide) (fun jq v js ks kz => L_nil (hk _ _ No (Tch.ext (Ext.refl s') js) (fun _ h => h.elim) kz (fun _ h => h.elim)))
     ·intro f' s' hT hX hB Q hk
      have ha : f' 43 = kx := hX 5 (by kernel_rfl) (by show _ < 12; decide)
      obtain ⟨vd, qd, hvd⟩ : ∃ v, f' 45 = v ∧ V s' v [(dd : Deed)] := ⟨_, rfl, hX 7 (by kernel_rfl) (by show _ < 12; decide)⟩
      have hA' : ArrB s' s0.w.heap.size 59 64 bA vs out := hX 11 (by kernel_rfl) (by show _ < 12; decide)
      refine L_append (xs := z) (B := s0.w.heap.size) Try.underlying59 tyz64 ha qd (hA'.bld jh.toNat kx z ky hze) (Nat.le_trans hE.size hT.size) hvd hc.1 hc.2 (by decide) (fun v jq kz => ?_)
      refine L_nil (hk _ _ _ kz.tch (fun k h => ⟨11, (List.mem_singleton.2 rfl : (11 : Nat) ∈ [11]), Or.inr ⟨jh.toNat, kx, ky, h⟩⟩) (hA'.grow ky hze kz) ?_)
      rintro k (rfl | ⟨i, u, hu, hk'⟩)
      ·exact Or.inl ⟨11, (List.mem_singleton.2 rfl : (11 : Nat) ∈ [11]), Or.inl rfl⟩
      ·rcases set_get hu with ⟨rfl, rfl⟩ | ⟨hi, hu⟩
       ·exact (kz.own k hk').imp (fun h => ⟨11, (List.mem_singleton.2 rfl : (11 : Nat) ∈ [11]), Or.inr ⟨_, kx, ky, h⟩⟩) (fun h => h)
       ·exact Or.inl ⟨11, (List.mem_singleton.2 rfl : (11 : Nat) ∈ [11]), Or.inr ⟨i, u, hu, hk'⟩⟩
     ·intro f' s' hT hX hB Q hk; have ha : f' 38 = Value.slice (some ⟨bA, 0, none⟩) a0.length a0.length := hX 0 (by kernel_rfl) (by show _ < 12; decide); have hb : f' 39 = vi jh := hX 1 (by kernel_rfl) (by show _ < 12; decide); exact L_indexA Try.underlying29 ty59.inf ha hb kw (by rw [← hlo]; omega) (by decide) (L_nil (hk _ _ No (Ext.refl s') (fun _ h => h.elim) rfl (fun _ h => h.elim)))
     ·intro f' s' hT hX hB Q hk; have ha : f' 47 = Value.pointer (some ⟨bA, jh.toNat * 1, none⟩) := hX 9 (by kernel_rfl) (by show _ < 12; decide); obtain ⟨v, qv, hH⟩ : ∃ v, f' 46 = v ∧ ArrH s' s0.w.heap.size 59 64 bA vs out jh.toNat v (z ++ [(dd : Deed)]) := ⟨_, rfl, hX 8 (by kernel_rfl) (by show _ < 12; decide)⟩; exact L_storeB ty59 (ha.trans (by rw [Nat.mul_one])) qv hH hjv (fun jq kz jv => L_nil (hk (.int .i64 0) jq _ kz (fun k h => ⟨8, (List.mem_singleton.2 rfl : (8 : Nat) ∈ [8]), Or.inl h⟩) (by show ArrB jq _ _ _ _ (vs.set jh.toNat (f' 46)) _; rw [qv]; exact jv) (fun k h => Or.inl ⟨8, (List.mem_singleton.2 rfl : (8 : Nat) ∈ [8]), h⟩)))
     intro f' s' hT hX _ hB
     have hA' : ArrB s' s0.w.heap.size 59 64 bA (vs.set jh.toNat (f' 46)) (out.set jh.toNat (z ++ [(dd : Deed)])) := hX 10 (by show _ < 12; decide) (by kernel_rfl)
     have hE' : Ext s0 s' := Tch.trans hE hT (fun k hk => Or.inr ((hA.lt (ent_is rfl rfl hk)).1))
     repeat (first | with_reducible refine W_seq ?_ | with_reducible refine then_n ?_ | with_reducible refine block_n ?_)
     obtain ⟨kz, hr⟩ := chk_some hr
     first | refine W_exit ?_ | skip
     repeat (first | with_reducible refine then_x ?_ | with_reducible refine block_here ?_ | with_reducible refine then_n ?_)
     exact W_region (ad ((hB 31 (by kernel_rfl)).trans k1) (rv (vi 1)) kz (mv (rv (vi (jz + 1))) (nn ⟨k0, Nat.lt_succ_self _, ⟨s', jz + 1, _, _, rfl, hE', hr, hA', by simp [hlo], jt.mono hT.le, hvy.mono hT.le, rfl, (hB 29 (by kernel_rfl)).trans k2, (hB 30 (by kernel_rfl)).trans k3, (hB 7 (by kernel_rfl)).trans k4, (hB 24 (by kernel_rfl)).trans jl, (hB 0 (by kernel_rfl)).trans jm, (hB 6 (by kernel_rfl)).trans jn, (hB 22 (by kernel_rfl)).trans jo, (hB 23 (by kernel_rfl)).trans jp⟩⟩)))
    ·have hr := ite_f ks hr
     refine W_skip ?_
     repeat (first | with_reducible refine W_seq ?_ | with_reducible refine then_n ?_ | with_reducible refine block_n ?_)
     refine W_region (asg (rv (vi (-1))) (L_nil ?_))
     repeat (first | with_reducible refine W_seq ?_ | with_reducible refine then_n ?_ | with_reducible refine block_n ?_)
     refine W_region (mv jm (ln Try.underlying29 (rv w0) (h0.mono kn.le) (mv (rv (vi 0)) (L_nil ?_))))
     repeat (first | with_reducible refine W_seq ?_ | with_reducible refine then_n ?_ | with_reducible refine block_n ?_)
     obtain ⟨kt, ku, kv⟩ := bind_some hr
     refine W_cut (fun f w => ∃ (s : St) (fr : Int), s.w = w ∧ Ext s0 s ∧ kt = some fr ∧ ArrB s s0.w.heap.size 59 64 bA vs out ∧ Var s k6 64 dd ∧ Ptr s jr jh ∧ V s vy y ∧ f 11 = vi fr ∧ f 10 = Value.pointer (some ⟨k6, 0, none⟩) ∧ f 31 = vi jz ∧ f 29 = vy ∧ f 30 = vi (y.length : Int) ∧ f 7 = jr ∧ f 24 = vi jh ∧ f 0 = w0 ∧ f 6 = Value.slice (some ⟨bA, 0, none⟩) a0.length a0.length ∧ f 22 = w0 ∧ f 23 = vi (a0.length : Int)) ?_ ?_
     rotate_left
     ·rintro kw kx ⟨s, fr, rfl, hE, ku, hA, hx, jt, hvy, ky, kz, k1, k2, k3, k4, jl, jm, jn, jo, jp⟩
      subst ku
      have hr := kv
      dsimp only at hr
      repeat (first | with_reducible refine W_seq ?_ | with_reducible refine then_n ?_ | with_reducible refine block_n ?_)
      refine W_region (mv ky (L_max (rv (vi 0)) (rv (vi fr)) (by decide) (L_fieldAddr_var fld64_1 kz (by decide) (L_store_field ty3 Deed.set_Peer (rv (Value.pointer (some ⟨k6, 1, none⟩))) (rv (vi (max 0 fr))) Vint hx (fun j4 g1 g3 => ?_)))))
      have g4 := Tch.trans hE g1 (fun k hk => Or.inr (by subst hk; exact hb10'))
      have g5 := hA.tch g1 hown
      have g8 := jt.mono g1.le
      have g9 := hvy.mono g1.le
      clear hE hA jt hvy hx
      refine L_nil ?_
      repeat (first | with_reducible refine W_seq ?_ | with_reducible refine then_n ?_ | with_reducible refine block_n ?_)
      obtain ⟨ga, gb, gc, gd⟩ := g3.freeze
      have hE := Tch.trans g4 gc (fun k hk => Or.inr (by subst hk; exact hb10'))
      have hA := g5.tch gc hown
      have jt := g8.mono gc.le
      have hvy := g9.mono gc.le
      rw [← gb]
      obtain ⟨z, hz, hr⟩ := bind_some hr
      obtain ⟨hc, hr⟩ := chk_some hr
      obtain ⟨gg, hjl, hze⟩ := idx_some hz
      have hjv : jh.toNat < vs.length := by rw [hA.len]; omega
      obtain ⟨gh, gi⟩ : ∃ gh, vs[jh.toNat]? = some gh := ⟨_, List.getElem?_eq_getElem hjv⟩
      refine W_drawP mixed 11 [PX.eq (Value.slice (some ⟨bA, 0, none⟩) a0.length a0.length), PX.eq (vi jh), PX.eq (Value.slice (some ⟨bA, 0, none⟩) a0.length a0.length), PX.eq (vi jh), PX.eq (Value.pointer (some ⟨bA, jh.toNat * 1, none⟩)), PX.eq gh, PX.data (Deed.with_Peer dd (max 0 fr) : Deed), PX.data [(Deed.with_Peer dd (max 0 fr) : Deed)], PX.arrh s0.w.heap.size 59 64 bA vs out jh.toNat hjv (z ++ [(Deed.with_Peer dd (max 0 fr) : Deed)]), PX.eq (Value.pointer (some ⟨bA, jh.toNat * 1, none⟩)), PX.arrc s0.w.heap.size 59 64 bA vs (out.set jh.toNat (z ++ [(Deed.with_Peer dd (max 0 fr) : Deed)])) jh.toNat, PX.arrb s0.w.heap.size 59 64 bA vs out] [66, 67, 68, 69, 70, 71, 72, 73, 74, 75, 74, 6] [[], [], [], [], [], [], [], [], [11], [], [8]] rfl (by kernel_rfl) (ent1 rfl hA) (dis1 rfl) (StepsX_cons ?_ (StepsX_cons ?_ (StepsX_cons ?_ (StepsX_cons ?_ (StepsX_cons ?_ (StepsX_cons ?_ (StepsX_cons ?_ (StepsX_cons ?_ (StepsX_cons ?_ (StepsX_cons ?_ (StepsX_cons ?_ StepsX_nil))))))))))) ?_
      ·intro f' s' hT hX hB Q hk; have ha : f' 6 = Value.slice (some ⟨bA, 0, none⟩) a0.length a0.length := (hB 6 (by kernel_rfl)).trans jn; exact mv ha (L_nil (hk _ _ No (Ext.refl s') (fun _ h => h.elim) rfl (fun _ h => h.elim)))
      ·intro f' s' hT hX hB Q hk; have ha : f' 7 = jr := (hB 7 (by kernel_rfl)).trans k4; exact li ty3 ha (jt.mono hT.le) (L_nil (hk _ _ No (Ext.refl s') (fun _ h => h.elim) rfl (fun _ h => h.elim)))
      ·intro f' s' hT hX hB Q hk; have ha : f' 6 = Value.slice (some ⟨bA, 0, none⟩) a0.length a0.length := (hB 6 (by kernel_rfl)).trans jn; exact mv ha (L_nil (hk _ _ No (Ext.refl s') (fun _ h => h.elim) rfl (fun _ h => h.elim)))
      ·intro f' s' hT hX hB Q hk; have ha : f' 7 = jr := (hB 7 (by kernel_rfl)).trans k4; exact li ty3 ha (jt.mono hT.le) (L_nil (hk _ _ No (Ext.refl s') (fun _ h => h.elim) rfl (fun _ h => h.elim)))
      ·intro f' s' hT hX hB Q hk; have ha : f' 68 = Value.slice (some ⟨bA, 0, none⟩) a0.length a0.length := hX 2 (by kernel_rfl) (by show _ < 12; decide); have hb : f' 69 = vi jh := hX 3 (by kernel_rfl) (by show _ < 12; decide); exact L_indexA Try.underlying29 ty59.inf ha hb gg (by rw [← hlo]; omega) (by decide) (L_nil (hk _ _ No (Ext.refl s') (fun _ h => h.elim) rfl (fun _ h => h.elim)))
      ·intro f' s' hT hX hB Q hk; have ha : f' 70 = Value.pointer (some ⟨bA, jh.toNat * 1, none⟩) := hX 4 (by kernel_rfl) (by show _ < 12; decide); have hA' : ArrB s' s0.w.heap.size 59 64 bA vs out := hX 11 (by kernel_rfl) (by show _ < 12; decide); exact L_loadB ty59 (ha.trans (by rw [Nat.mul_one])) hA' gi (by decide) (L_nil (hk _ _ No (Ext.refl s') (fun _ h => h.elim) rfl (fun _ h => h.elim)))
      ·intro f' s' hT hX hB Q hk; have ha : f' 10 = Value.pointer (some ⟨k6, 0, none⟩) := (hB 10 (by kernel_rfl)).trans kz; exact ld ty64 ha (gd.mono hT.le) (fun v hv => L_nil (hk _ _ No (Ext.refl s') (fun _ h => h.elim) hv (fun _ h => h.elim)))
      ·intro f' s' hT hX hB Q hk; obtain ⟨vd, qd, hvd⟩ : ∃ v, f' 72 = v ∧ V s' v (Deed.with_Peer dd (max 0 fr) : Deed) := ⟨_, rfl, hX 6 (by kernel_rfl) (by show _ < 12; decide)⟩; exact L_buildSlice (xs := [(Deed.with_Peer dd (max 0 fr) : Deed)]) Try.underlying59 tyz64 (Parts_cons rfl qd Parts_nil) (Vs.cons hvd Vs.nil) rfl (by decide) (by decide) (fun jq v js ks gj => L_nil (hk _ _ No (Tch.ext (Ext.refl s') js) (fun _ h => h.elim) gj (fun _ h => h.elim)))
      ·intro f' s' hT hX hB Q hk
       have ha : f' 71 = gh := hX 5 (by kernel_rfl) (by show _ < 12; decide)
       obtain ⟨vd, qd, hvd⟩ : ∃ v, f' 73 = v ∧ V s' v [(Deed.with_Peer dd (max 0 fr) : Deed)] := ⟨_, rfl, hX 7 (by kernel_rfl) (by show _ < 12; decide)⟩
       have hA' : ArrB s' s0.w.heap.size 59 64 bA vs out := hX 11 (by kernel_rfl) (by show _ < 12; decide)
       refine L_append (xs := z) (B := s0.w.heap.size) Try.underlying59 tyz64 ha qd (hA'.bld jh.toNat gh z gi hze) (Nat.le_trans hE.size hT.size) hvd hc.1 hc.2 (by decide) (fun v jq gj => ?_)
       refine L_nil (hk _ _ _ gj.tch (fun k h => ⟨11, (List.mem_singleton.2 rfl : (11 : Nat) ∈ [11]), Or.inr ⟨jh.toNat, gh, gi, h⟩⟩) (hA'.grow gi hze gj) ?_)
       rintro k (rfl | ⟨i, u, hu, hk'⟩)
       ·exact Or.inl ⟨11, (List.mem_singleton.2 rfl : (11 : Nat) ∈ [11]), Or.inl rfl⟩
       ·rcases set_get hu with ⟨rfl, rfl⟩ | ⟨hi, hu⟩
        ·exact (gj.own k hk').imp (fun h => ⟨11, (List.mem_singleton.2 rfl : (11 : Nat) ∈ [11]), Or.inr ⟨_, gh, gi, h⟩⟩) (fun h => h)
        ·exact Or.inl ⟨11, (List.mem_singleton.2 rfl : (11 : Nat) ∈ [11]), Or.inr ⟨i, u, hu, hk'⟩⟩
      ·intro f' s' hT hX hB Q hk; have ha : f' 66 = Value.slice (some ⟨bA, 0, none⟩) a0.length a0.length := hX 0 (by kernel_rfl) (by show _ < 12; decide); have hb : f' 67 = vi jh := hX 1 (by kernel_rfl) (by show _ < 12; decide); exact L_indexA Try.underlying29 ty59.inf ha hb gg (by rw [← hlo]; omega) (by decide) (L_nil (hk _ _ No (Ext.refl s') (fun _ h => h.elim) rfl (fun _ h => h.elim)))
      ·intro f' s' hT hX hB Q hk; have ha : f' 75 = Value.pointer (some ⟨bA, jh.toNat * 1, none⟩) := hX 9 (by kernel_rfl) (by show _ < 12; decide); obtain ⟨v, qv, hH⟩ : ∃ v, f' 74 = v ∧ ArrH s' s0.w.heap.size 59 64 bA vs out jh.toNat v (z ++ [(Deed.with_Peer dd (max 0 fr) : Deed)]) := ⟨_, rfl, hX 8 (by kernel_rfl) (by show _ < 12; decide)⟩; exact L_storeB ty59 (ha.trans (by rw [Nat.mul_one])) qv hH hjv (fun jq gj jv => L_nil (hk (.int .i64 0) jq _ gj (fun k h => ⟨8, (List.mem_singleton.2 rfl : (8 : Nat) ∈ [8]), Or.inl h⟩) (by show ArrB jq _ _ _ _ (vs.set jh.toNat (f' 74)) _; rw [qv]; exact jv) (fun k h => Or.inl ⟨8, (List.mem_singleton.2 rfl : (8 : Nat) ∈ [8]), h⟩)))
      intro f' s' hT hX _ hB
      have hA' : ArrB s' s0.w.heap.size 59 64 bA (vs.set jh.toNat (f' 74)) (out.set jh.toNat (z ++ [(Deed.with_Peer dd (max 0 fr) : Deed)])) := hX 10 (by show _ < 12; decide) (by kernel_rfl)
      have hE' : Ext s0 s' := Tch.trans hE hT (fun k hk => Or.inr ((hA.lt (ent_is rfl rfl hk)).1))
      obtain ⟨gj, hr⟩ := chk_some hr
      repeat (first | with_reducible refine W_seq ?_ | with_reducible refine then_n ?_ | with_reducible refine block_n ?_)
      exact W_region (ad ((hB 31 (by kernel_rfl)).trans k1) (rv (vi 1)) gj (mv (rv (vi (jz + 1))) (nn ⟨k0, Nat.lt_succ_self _, ⟨s', jz + 1, _, _, rfl, hE', hr, hA', by simp [hlo], jt.mono hT.le, hvy.mono hT.le, rfl, (hB 29 (by kernel_rfl)).trans k2, (hB 30 (by kernel_rfl)).trans k3, (hB 7 (by kernel_rfl)).trans k4, (hB 24 (by kernel_rfl)).trans jl, (hB 0 (by kernel_rfl)).trans jm, (hB 6 (by kernel_rfl)).trans jn, (hB 22 (by kernel_rfl)).trans jo, (hB 23 (by kernel_rfl)).trans jp⟩⟩)))
     refine W_block (W_loop (fun m f w => ∃ (s : St) (kw fr : Int), s.w = w ∧ Ext s0 s ∧ dead_Narrow_l3 N a0 jh dd m kw fr = some kt ∧ ArrB s s0.w.heap.size 59 64 bA vs out ∧ Var s k6 64 dd ∧ Ptr s jr jh ∧ V s vy y ∧ f 50 = vi kw ∧ f 48 = w0 ∧ f 49 = vi (a0.length : Int) ∧ f 11 = vi fr ∧ f 10 = Value.pointer (some ⟨k6, 0, none⟩) ∧ f 31 = vi jz ∧ f 29 = vy ∧ f 30 = vi (y.length : Int) ∧ f 7 = jr ∧ f 24 = vi jh ∧ f 0 = w0 ∧ f 6 = Value.slice (some ⟨bA, 0, none⟩) a0.length a0.length ∧ f 22 = w0 ∧ f 23 = vi (a0.length : Int)) N ⟨kl, 0, -1, rfl, kn, ku, ko, kp, kq, kr, rfl, rfl, rfl, rfl, rfl, k1, k2, k3, k4, jl, jm, jn, jo, jp⟩ ?_)
     clear hr ko kn kp kq kr k1 k2 k3 k4 jl jm jn jo jp
     rintro kx jj jk ⟨s, kw, fr, rfl, hE, hr, hA, hx, jt, hvy, ky, kz, g1, g3, g4, k1, k2, k3, k4, jl, jm, jn, jo, jp⟩
     cases kx with
     | zero => exact absurd hr (by simp [dead_Narrow_l3])
     | succ kx =>
      rw [dead_Narrow_l3.eq_2] at hr
      refine sr (ls ky g1 (L_nil ?_))
      repeat (first | with_reducible refine W_seq ?_ | with_reducible refine then_n ?_ | with_reducible refine block_n ?_)
      refine W_cond _ (rv (vb (decide (kw < (a0.length : Int))))) (fun hb => ?_) (fun hb => ?_)
      rotate_left
      ·have hr := ite_f hb hr; refine W_exit ?_; (repeat (with_reducible refine then_x ?_)); refine block_here ?_; exact then_n ⟨s, fr, rfl, hE, (Option.some.inj hr).symm, hA, hx, jt, hvy, g3, g4, k1, k2, k3, k4, jl, jm, jn, jo, jp⟩
      have hr := ite_t hb hr
      refine W_skip ?_
      repeat (first | with_reducible refine W_seq ?_ | with_reducible refine then_n ?_ | with_reducible refine block_n ?_)
      refine W_block ?_
      repeat (first | with_reducible refine W_seq ?_ | with_reducible refine then_n ?_ | with_reducible refine block_n ?_)
      refine W_region (mv ky ?_)
      obtain ⟨g5, g8, hr⟩ := bind_some hr
      refine ix Try.underlying29 ty59.inf kz (h0.mono hE.le) ky g8 (fun g9 ga => ld ty59 (rv g9) ga (fun j3 gb => asg (rv (vi kw)) (asg (rv j3) (L_nil ?_))))
      repeat (first | with_reducible refine W_seq ?_ | with_reducible refine then_n ?_ | with_reducible refine block_n ?_)
      refine W_region (mv (rv j3) (L_makeFunc (args2 k4 g4) (by decide) ?_))
      obtain ⟨bb, hbb, hr⟩ := bind_some hr
      obtain ⟨sz, ez, tz, fz⟩ := hx.freeze
      refine L_calls_fz cal38 (args2 (rv j3) (rv (Value.func (.func 39) #[] #[jr, Value.pointer (some ⟨k6, 0, none⟩)]))) ez tz (fun k hk => by have gc : k = k6 := hk; rw [gc]; exact hx.g) (slices_ContainsFunc_Llang_Deed_lang_Deed_ok N _ _ _ (gb.mono tz.le) _ (fun x => dead_Narrow_1 N x jh dd) (Fn1.mk2 cal39 fun s' vx x r hl hv hr => dead_Narrow_1_ok N s' vx x hv _ _ ((jt.mono tz.le).mono hl) _ _ (fz.mono hl) r hr) bb hbb) (by decide) ?_
      intro gd s4' kc gg j5 gh
      obtain rfl := gh.bool
      have ke := Tch.ext hE j5
      have kf := hA.ext j5
      have kd := hx.ext j5
      have kg := jt.mono j5.le
      have kh := hvy.mono j5.le
      refine L_not (rv (vb bb)) (by decide) (L_nil ?_)
      repeat (first | with_reducible refine W_seq ?_ | with_reducible refine then_n ?_ | with_reducible refine block_n ?_)
      refine W_cond _ (rv (vb (!bb))) (fun gi => ?_) (fun gi => ?_)
      ·have hr := ite_t gi hr; obtain ⟨hc, hr⟩ := chk_some hr; refine W_exit ?_; (repeat (first | with_reducible refine then_x ?_ | with_reducible refine block_here ?_ | with_reducible refine then_n ?_)); exact W_region (ad ky (rv (vi 1)) hc (mv (rv (vi (kw + 1))) (nn ⟨kx, Nat.lt_succ_self _, ⟨kc, kw + 1, fr, rfl, ke, hr, kf, kd, kg, kh, rfl, kz, g1, g3, g4, k1, k2, k3, k4, jl, jm, jn, jo, jp⟩⟩)))
      have hr := ite_f gi hr
      refine W_skip ?_
      repeat (first | with_reducible refine W_seq ?_ | with_reducible refine then_n ?_ | with_reducible refine block_n ?_)
      refine W_region (mv g3 (L_geq (rv (vi fr)) (rv (vi 0)) (by decide) (L_nil ?_)))
      repeat (first | with_reducible refine W_seq ?_ | with_reducible refine then_n ?_ | with_reducible refine block_n ?_)
      refine W_cond _ (rv (vb (decide (0 ≤ fr)))) (fun gj => ?_) (fun gj => ?_)
      ·have hr := ite_t gj hr; refine sr (asg (rv (Value.slice none 0 0)) (L_nil ?_)); (repeat (first | with_reducible refine W_seq ?_ | with_reducible refine then_n ?_ | with_reducible refine block_n ?_)); refine W_exit ?_; obtain rfl := Option.some.inj hr; dsimp only at kv; obtain rfl := Option.some.inj kv; dsimp only at jy; obtain rfl := Option.some.inj jy; (repeat (first | with_reducible refine then_x ?_ | with_reducible refine block_here ?_ | with_reducible refine block_x (by decide) ?_)); exact then_n ⟨kc, rfl, ke, Or.inl ⟨rfl, rfl⟩⟩
      have hr := ite_f gj hr
      obtain ⟨hc, hr⟩ := chk_some hr
      refine W_skip ?_
      repeat (first | with_reducible refine W_seq ?_ | with_reducible refine then_n ?_ | with_reducible refine block_n ?_)
      refine W_region (mv (rv (vi kw)) (asg (rv (vi kw)) (L_nil ?_)))
      repeat (first | with_reducible refine W_seq ?_ | with_reducible refine then_n ?_ | with_reducible refine block_n ?_)
      exact W_region (ad ky (rv (vi 1)) hc (mv (rv (vi (kw + 1))) (nn ⟨kx, Nat.lt_succ_self _, ⟨kc, kw + 1, kw, rfl, ke, hr, kf, kd, kg, kh, rfl, kz, g1, rfl, g4, k1, k2, k3, k4, jl, jm, jn, jo, jp⟩⟩)))
 ·rintro jh ji ⟨s, rfl, hE, hh⟩
  repeat (first | with_reducible refine W_seq ?_ | with_reducible refine then_n ?_ | with_reducible refine block_n ?_)
  refine W_region ?_
  rcases hh with ⟨ho, jj⟩ | ⟨vs, out, ho, hA, hlo, jj⟩
  ·subst ho; dsimp only at hq; refine mv jj (mv jj (L_neqNil Try.underlying29 (rv (Value.slice none 0 0)) (by decide) (asg (rv (Value.slice none 0 0)) (asg (rv (vb false)) (asg (rv (vi 0)) (L_nil ?_)))))); (repeat (first | with_reducible refine W_seq ?_ | with_reducible refine then_n ?_ | with_reducible refine block_n ?_)); refine W_ret ?_; (repeat (with_reducible refine then_r ?_)); obtain rfl := Option.some.inj hq; exact done3 (Or.inl rfl) Try.results15 rfl rfl rfl ⟨_, _, rfl, rfl, hE, _, _, _, rfl, Vnil, Vbool, Vint⟩
  ·subst ho; dsimp only at hq; obtain rfl := Option.some.inj hq; refine mv jj (mv jj (L_neqNil Try.underlying29 (rv (Value.slice (some ⟨bA, 0, none⟩) a0.length a0.length)) (by decide) (asg (rv (Value.slice (some ⟨bA, 0, none⟩) a0.length a0.length)) (asg (rv (vb true)) (asg (rv (vi 0)) (L_nil ?_)))))); (repeat (first | with_reducible refine W_seq ?_ | with_reducible refine then_n ?_ | with_reducible refine block_n ?_)); refine W_ret ?_; (repeat (with_reducible refine then_r ?_)); obtain ⟨jk, jl, jm, jn⟩ := hA.toV; rw [hlo] at jn; exact done3 (Or.inl rfl) Try.results15 rfl rfl rfl ⟨_, jk, rfl, jl, Tch.trans hE jm (fun k hk => Or.inr (by subst hk; exact hA.low)), _, _, _, rfl, jn, Vbool, Vint⟩

theorem dead_run_finish_ok (N : Nat) (s0 : St) (w0 : Value) (bat : Nat) (a0 : Run) (h0 : Shell Run.with_at_ 2 s0 w0 bat (a0.at_).length a0) (hbat : Arr s0 bat 3 (a0.at_).length a0.at_) (r : (List Int) × (List Int)) (hr : dead_run_finish N a0 = some r) :
    Calls Try.prog 49 #[w0] s0.w (RetM (fun k => k = bat) s0 fun v s => V s v r.1 ∧ Arr s bat 3 (a0.at_).length r.2) := by
 unfold dead_run_finish at hr
 have j0 := Tch.refl (fun k => k = bat) s0
 refine Calls_of (n := 25) (args := [w0]) Try.func49 rfl rfl (by simp) (sr (asg (rv (Value.slice none 0 0)) (nn (sr (asg (rv (Value.slice none 0 0)) (nn (W_seq (sr (mv (rv w0) ?_)))))))))
 obtain ⟨j1, j2, hr⟩ := bind_some hr
 obtain ⟨j3, j4, j5, j6⟩ := (hbat).freeze
 refine L_calls_fz cal33 (args1 (rv w0)) j4 j5 (fun k hk => by have j7 : k = bat := hk; rw [j7]; exact (hbat).g) (dead_run_next_ok N _ _ _ ((h0.mono j5.le).ptr j6) j1 j2) (by decide) (fun j8 j9 ja jb jc jd => ?_)
 have je := Tch.ext j0 jc
 obtain rfl := jd.int
 refine asg (rv (vi j1)) (nn ?_)
 obtain ⟨jf, jg, jh⟩ := bind_some hr
 refine W_cut (fun f w => ∃ (s : St) (ji : Value) (jj : List Int) (jk : List Int), s.w = w ∧ Tch (fun k => k = bat) s0 s ∧ Le ja s ∧ (jj, jk) = jf ∧ f 3 = ji ∧ Bld s s0.w.heap.size 3 ji jj ∧ Arr s bat 3 (a0.at_).length jk ∧ (∀ k, (own ji) k → ¬ (fun k => k = bat) k)) ?_ ?_
 ·refine W_block (W_loop (fun m f w => ∃ (s : St) (jl : Value) (jm : List Int) (jn : Int) (jo : List Int), s.w = w ∧ Tch (fun k => k = bat) s0 s ∧ Le ja s ∧ dead_run_finish_l1 N a0 m jm jn jo = some jf ∧ f 3 = jl ∧ Bld s s0.w.heap.size 3 jl jm ∧ f 4 = vi jn ∧ f 0 = w0 ∧ Arr s bat 3 (a0.at_).length jo ∧ (∀ k, (own jl) k → ¬ (fun k => k = bat) k)) N ⟨ja, (Value.slice none 0 0), ([]), j1, a0.at_, rfl, je, (Le.refl _), jg, rfl, Bld.nil, rfl, rfl, (hbat).ext jc, (fun k h => absurd h own_nil)⟩ ?_)
  rintro jp jq jr ⟨js, jl, jm, jn, jo, rfl, jt, ju, hr, jv, jw, jx, jy, jz, k0⟩
  cases jp with
  | zero => exact absurd hr (by simp [dead_run_finish_l1])
  | succ jp =>
   rw [dead_run_finish_l1.eq_2] at hr
   refine W_seq (sr (mv jx (L_geq (rv (vi jn)) (rv (vi 0)) (by decide) (nn ?_))))
   refine W_cond _ (rv (vb (decide (0 ≤ jn)))) (fun k1 => ?_) (fun k1 => ?_)
   ·have hr := ite_t k1 hr
    refine W_skip (then_n (W_seq (W_block (sr (mv jy (L_nilCheck_shell (rv w0) (h0.mono (jc.le.trans ju)) (by decide) (L_fieldAddr_shell fld72_2 (rv w0) (h0.mono (jc.le.trans ju)) (by decide) (fun k2 k3 => L_load_cell Try.underlying23 rfl (rv k2) k3 (by decide) (mv jx ?_)))))))))
    obtain ⟨k4, k5, hr⟩ := bind_some hr
    refine L_indexA (sz := 1) Try.underlying23 ty3.inf (rv (Value.slice (some ⟨bat, 0, none⟩) (a0.at_).length (a0.at_).length)) (rv (vi jn)) (idx_some k5).1 (by have := (idx_some k5).2.1; have := (jz).1; omega) (by decide) (L_loadA (xs := jo) ty3 (rv (Value.pointer (some ⟨bat, (jn).toNat * 1, none⟩))) (jz) k5 (by decide) (fun k6 k7 => ?_))
    obtain rfl := k7.int
    obtain ⟨k8, hr⟩ := chk_some hr
    refine ad (rv (vi k4)) (rv (vi 1)) k8 ?_
    obtain ⟨k9, ka, hr⟩ := bind_some hr
    refine L_indexA (sz := 1) Try.underlying23 ty3.inf (rv (Value.slice (some ⟨bat, 0, none⟩) (a0.at_).length (a0.at_).length)) (rv (vi jn)) (idx_some ka).1 (by have := (idx_some ka).2.1; have := (jz).1; omega) (by decide) (L_storeA (xs := jo) ty3 (rv (Value.pointer (some ⟨bat, (jn).toNat * 1, none⟩))) (rv (vi (k4 + 1))) Vint (jz) ka (fun kb kc kd => ?_))
    have ke := Tch.trans jt kc (fun k hk => Or.inl hk)
    refine nn (W_region (mv jv (mv jx (L_buildSlice (xs := ([jn] : List Int)) Try.underlying23 tyz3 (Parts_cons rfl (rv (vi jn)) Parts_nil) (Vs.cons Vint Vs.nil) rfl (by decide) (by decide) (fun kf kg kh ki kj => ?_)))))
    have kk := Tch.ext ke kh
    obtain ⟨kl, hr⟩ := chk_some hr
    refine L_append (xs := jm) (B := s0.w.heap.size) Try.underlying23 tyz3 (rv jl) (rv kg) (((jw).tch kc k0).ext kh) (kk.size) kj kl.1 kl.2 (by decide) (fun km kn ko => ?_)
    have kp := ko.tchM (((jw).tch kc k0).ext kh) kk (Nat.le_refl _)
    have kq : ∀ k, (fun k => k = bat) k → ¬ own km k := fun k kr ks => by rcases ko.own k ks with kt | kt; exact (fun k hk hm => k0 k hm hk) k kr kt; have ku := ((kd).ext kh).lt; subst kr; omega
    refine asg (rv km) (L_nil (block_n (then_n (W_region (mv jy ?_)))))
    obtain ⟨kv, kw, hr⟩ := bind_some hr
    obtain ⟨kx, ky, kz, g0⟩ := (((kd).ext kh).tch ko.tch ((fun k hk hm => k0 k hm hk) bat rfl)).freeze
    refine L_calls_fz cal33 (args1 (rv w0)) ky kz (fun k hk => by have j7 : k = bat := hk; rw [j7]; exact (((kd).ext kh).tch ko.tch ((fun k hk hm => k0 k hm hk) bat rfl)).g) (dead_run_next_ok N _ _ _ ((h0.mono (jc.le.trans (ju.trans (kc.le.trans (kh.le.trans (ko.tch.le.trans kz.le)))))).ptr g0) kv kw) (by decide) (fun g1 g2 g3 g4 g5 g6 => ?_)
    have g7 := Tch.ext kp g5
    obtain rfl := g6.int
    exact asg (rv (vi kv)) (nn ⟨jp, Nat.lt_succ_self _, ⟨g3, km, (jm ++ ([jn] : List Int)), kv, (jo.set (jn).toNat (k4 + 1)), rfl, g7, (ju.trans (kc.le.trans (kh.le.trans (ko.tch.le.trans g5.le)))), hr, rfl, (ko.bld).ext g5, rfl, jy, (((kd).ext kh).tch ko.tch ((fun k hk hm => k0 k hm hk) bat rfl)).ext g5, (fun k hk hm => kq k hm hk)⟩⟩)
   ·have hr := ite_f k1 hr; refine W_exit (then_x (then_x (block_here ?_))); exact then_n ⟨js, jl, jm, jo, rfl, jt, ju, Option.some.inj hr, jv, jw, jz, k0⟩
 ·rintro jl jm ⟨jn, ji, jj, jk, rfl, jo, jp, jg, jq, jr, js, jt⟩; subst jg; have hr := jh; (try dsimp only at hr); refine then_n (sr (mv jq (asg (rv ji) (nn (W_ret ?_))))); obtain rfl := Option.some.inj hr; exact done1 (Or.inl rfl) Try.results49 rfl ⟨_, _, rfl, rfl, jo, (jr).toV, js⟩

theorem dead_End_ok (N : Nat) (s0 : St) (w0 : Value) (a0 : List (List Deed)) (h0 : V s0 w0 a0) (a1 : Int) (r : (List Int) × Int) (hr : dead_End N a0 a1 = some r) :
    Calls Try.prog 30 #[w0, .int .i64 a1] s0.w (Ret s0 fun v s => ∃ a b, v = .tuple #[a, b] ∧ V s a r.1 ∧ V s b r.2) := by
 unfold dead_End at hr
 have j0 := Ext.refl s0
 refine Calls_of (n := 23) (args := [w0, .int .i64 a1]) Try.func30 rfl rfl (by simp) (sr (asg (rv (Value.slice none 0 0)) (asg (rv (vi 0)) (nn (sr (mv (rv w0) (mv (rv (vi a1)) ?_)))))))
 obtain ⟨j1, j2, hr⟩ := bind_some hr
 refine L_calls cal31 (args2 (rv w0) (rv (vi a1))) (dead_newRun_ok N _ _ _ h0 a1 j1 j2) (by decide) (fun j3 j4 j5 j6 => ?_)
 have j7 := Tch.ext j0 j5
 obtain ⟨j8, j9, rfl, ja, jb⟩ := j6
 obtain rfl := jb.int
 refine mv (rv (Value.tuple #[j8, vi (j1.2)])) (xt (rv (Value.tuple #[j8, vi (j1.2)])) (k := 0) rfl (xt (rv (Value.tuple #[j8, vi (j1.2)])) (k := 1) rfl (asg (rv j8) (asg (rv (vi (j1.2))) (nn (W_seq (sr (mv (rv (vi (j1.2))) (ne (rv (vi (j1.2))) (rv (vi 0)) (nn ?_))))))))))
 refine W_cond _ (rv (vb (!decide (j1.2 = 0)))) (fun jc => ?_) (fun jc => ?_)
 ·have hr := ite_t jc hr; refine sr (mv (rv (vi (j1.2))) (asg (rv (Value.slice none 0 0)) (asg (rv (vi (j1.2))) (nn (W_ret (then_r ?_)))))); obtain rfl := Option.some.inj hr; exact done2 (Or.inl rfl) Try.results30 rfl rfl ⟨_, _, rfl, rfl, j7, _, _, rfl, Vnil, Vint⟩
 ·have hr := ite_f jc hr; refine W_skip (then_n (sr (mv (rv j8) ?_))); obtain ⟨jd, je, hr⟩ := bind_some hr; obtain ⟨jf, jg, jh, ji⟩ := ja.open je; obtain ⟨jj, jk, hr⟩ := bind_some hr; refine L_calls_mut cal49 (args1 (rv j8)) (dead_run_finish_ok N _ _ jf (Run.with_at_ jd jd.at_) (jh.at (fun _ => rfl) (ji)) (ji).self jj jk) (by decide) ?_; rintro jl jm jn ⟨jo, jp⟩; have jq := Tch.trans j7 jn (fun k hk => Or.inr (by subst hk; exact (Nat.le_trans j0.size jg))); have jp := (ji).back jp; obtain ⟨jr, js, jt, ju⟩ := (jp).freeze; rw [← js]; have jv := Tch.trans jq jt (fun k hk => Or.inr (by subst hk; exact (Nat.le_trans j0.size jg))); refine nn (sr (mv (rv j8) (L_nilCheck_ptr (rv j8) ((jh.mono (jn.le.trans jt.le)).ptr ju) (by decide) (fa fld72_2 Run.of_at_ (rv j8) ((jh.mono (jn.le.trans jt.le)).ptr ju) (fun jw jx => ld ty23 (rv jw) jx (fun jy jz => asg (rv jy) (asg (rv (vi 0)) (nn (W_ret ?_))))))))); obtain rfl := Option.some.inj hr; exact done2 (Or.inl rfl) Try.results30 rfl rfl ⟨_, _, rfl, rfl, jv, _, _, rfl, jz, Vint⟩

theorem dead_comes_ok (N : Nat) (s0 : St) (w0 : Value) (a0 : List (List Deed)) (h0 : V s0 w0 a0) (a1 : Int) (r : Bool) (hr : dead_comes N a0 a1 = some r) :
    Calls Try.prog 47 #[w0, .int .i64 a1] s0.w (Ret s0 fun v s => V s v r) := by
 unfold dead_comes at hr
 have j0 := Ext.refl s0
 refine Calls_of (n := 30) (args := [w0, .int .i64 a1]) Try.func47 rfl rfl (by simp) (sr (asg (rv (vb false)) (nn (sr (mv (rv w0) (mv (rv (vi a1)) ?_))))))
 obtain ⟨j1, j2, hr⟩ := bind_some hr
 refine L_calls cal30 (args2 (rv w0) (rv (vi a1))) (dead_End_ok N _ _ _ h0 a1 j1 j2) (by decide) (fun j3 j4 j5 j6 => ?_)
 have j7 := Tch.ext j0 j5
 obtain ⟨j8, j9, rfl, ja, jb⟩ := j6
 obtain rfl := jb.int
 refine mv (rv (Value.tuple #[j8, vi (j1.2)])) (xt (rv (Value.tuple #[j8, vi (j1.2)])) (k := 0) rfl (xt (rv (Value.tuple #[j8, vi (j1.2)])) (k := 1) rfl (asg (rv j8) (asg (rv (vi (j1.2))) (nn (W_seq (sr (mv (rv j8) (ln Try.underlying23 (rv j8) ja (mv (rv (vi 0)) (nn ?_)))))))))))
 obtain ⟨jc, jd, je⟩ := bind_some hr
 refine W_cut (fun f w => ∃ (s : St), s.w = w ∧ Ext s0 s ∧ Le j4 s ∧ Sum.inl () = jc) ?_ ?_
 ·refine W_block (W_loop (fun m f w => ∃ (s : St) (jf : Int), s.w = w ∧ Ext s0 s ∧ Le j4 s ∧ dead_comes_l1 N a0 j1 m jf = some jc ∧ f 17 = vi jf ∧ f 0 = w0 ∧ f 15 = j8 ∧ f 16 = vi ((j1.1.length : Int))) N ⟨j4, 0, rfl, j7, (Le.refl _), jd, rfl, rfl, rfl, rfl⟩ ?_)
  rintro jg jh ji ⟨jj, jf, rfl, jk, jl, hr, jm, jn, jo, jp⟩
  cases jg with
  | zero => exact absurd hr (by simp [dead_comes_l1])
  | succ jg =>
   rw [dead_comes_l1.eq_2] at hr
   refine sr (ls jm jp (nn (W_seq ?_)))
   refine W_cond _ (rv (vb (decide (jf < (j1.1.length : Int))))) (fun jq => ?_) (fun jq => ?_)
   ·have hr := ite_t jq hr
    refine W_skip (then_n (W_seq (W_block (sr (mv jm ?_)))))
    obtain ⟨jr, js, hr⟩ := bind_some hr
    refine ix Try.underlying23 ty3.inf jo (ja.mono jl) jm js (fun jt ju => li ty3 (rv jt) ju (asg (rv (vi jf)) (asg (rv (vi jr)) (nn (sr (mv (rv (vi jr)) (mv jn (mv (rv (vi jf)) ?_))))))))
    obtain ⟨jv, jw, hr⟩ := bind_some hr
    refine ix Try.underlying29 ty59.inf (rv w0) (h0.mono (j5.le.trans jl)) (rv (vi jf)) jw (fun jx jy => ld ty59 (rv jx) jy (fun jz k0 => ln Try.underlying59 (rv jz) k0 (ls (rv (vi jr)) (rv (vi ((jv.length : Int)))) (nn ?_))))
    refine W_cond _ (rv (vb (decide (jr < (jv.length : Int))))) (fun k1 => ?_) (fun k1 => ?_)
    ·have hr := ite_t k1 hr; refine sr (asg (rv (vb false)) (nn (W_ret (block_r (then_r (then_r (block_r ?_))))))); obtain rfl := Option.some.inj hr; have hr := je; (try dsimp only at hr); refine then_r (then_r ?_); obtain rfl := Option.some.inj hr; exact done1 (Or.inl rfl) Try.results47 rfl ⟨_, _, rfl, rfl, jk, Vbool⟩
    ·have hr := ite_f k1 hr; refine W_skip (block_n (then_n (W_region ?_))); obtain ⟨k2, hr⟩ := chk_some hr; exact ad jm (rv (vi 1)) k2 (mv (rv (vi (jf + 1))) (nn ⟨jg, Nat.lt_succ_self _, ⟨jj, (jf + 1), rfl, jk, jl, hr, rfl, jn, jo, jp⟩⟩))
   ·have hr := ite_f jq hr; refine W_exit (then_x (then_x (block_here ?_))); exact then_n ⟨jj, rfl, jk, jl, Option.some.inj hr⟩
 ·rintro jf jg ⟨jh, rfl, ji, jj, jd⟩; subst jd; have hr := je; (try dsimp only at hr); refine then_n (sr (asg (rv (vb true)) (nn (W_ret ?_)))); obtain rfl := Option.some.inj hr; exact done1 (Or.inl rfl) Try.results47 rfl ⟨_, _, rfl, rfl, ji, Vbool⟩

theorem dead_Decide_ok (N : Nat) (s0 : St) (w0 : Value) (a0 : List (List Deed)) (h0 : V s0 w0 a0) (r : Verdict × Int) (hr : dead_Decide N a0 = some r) :
    Calls Try.prog 18 #[w0] s0.w (Ret s0 fun v s => ∃ a b, v = .tuple #[a, b] ∧ V s a r.1 ∧ V s b r.2) := by
 unfold dead_Decide at hr
 have j0 := Ext.refl s0
 refine Calls_of (n := 49) (args := [w0]) Try.func18 rfl rfl (by simp) (sr (L_alloc (α := Verdict) (x := ⟨0, 0⟩) zero40 Verdict.zero_rel (by decide) (fun j1 j2 j3 j4 j5 => ?_)))
 have j6 := Tch.ext j0 j3
 refine asg (rv (vi 0)) (nn (sr (mv (rv w0) ?_)))
 obtain ⟨j7, j8, hr⟩ := bind_some hr
 refine L_calls cal15 (args1 (rv w0)) (dead_Narrow_ok N _ _ _ (h0.mono j3.le) j7 j8) (by decide) (fun j9 ja jb jc => ?_)
 have jd := Tch.ext j6 jb
 obtain ⟨je, jf, jg, rfl, jh, ji, jj⟩ := jc
 obtain rfl := ji.bool
 obtain rfl := jj.int
 refine mv (rv (Value.tuple #[je, vb (j7.2.1), vi (j7.2.2)])) (xt (rv (Value.tuple #[je, vb (j7.2.1), vi (j7.2.2)])) (k := 0) rfl (xt (rv (Value.tuple #[je, vb (j7.2.1), vi (j7.2.2)])) (k := 1) rfl (xt (rv (Value.tuple #[je, vb (j7.2.1), vi (j7.2.2)])) (k := 2) rfl (asg (rv je) (asg (rv (vb (j7.2.1))) (asg (rv (vi (j7.2.2))) (nn ?_)))))))
 obtain ⟨jk, jl, jm⟩ := bind_some hr
 refine W_seq_cut (fun f w => ∃ (s : St) (jn : Verdict), s.w = w ∧ Ext s0 s ∧ Le ja s ∧ Sum.inl jn = jk ∧ f 2 = Value.pointer (some ⟨j2, 0, none⟩) ∧ f 4 = je ∧ Var s j2 40 jn) ?_ ?_
 ·have hr := jl
  refine W_block (sr (mv (rv (vi (j7.2.2))) (ne (rv (vi (j7.2.2))) (rv (vi 0)) (asg (rv (vb (!decide (j7.2.2 = 0)))) (nn ?_)))))
  refine W_cond _ (rv (vb (!decide (j7.2.2 = 0)))) (fun jo => ?_) (fun jo => ?_)
  ·have hr := ite_t jo hr; refine sr (L_bld40_ (s := ja)   (by decide) (fun jp jq => mv (rv (vi (j7.2.2))) (L_store ty40 (rv (Value.pointer (some ⟨j2, 0, none⟩))) (rv jp) jq ((j5).ext jb) (fun jr js jt => ?_)))); have ju := Tch.trans jd js (fun k hk => Or.inr (by subst hk; exact (Nat.le_trans j0.size j4))); refine asg (rv (vi (j7.2.2))) (nn (W_ret (block_r ?_))); obtain rfl := Option.some.inj hr; have hr := jm; (try dsimp only at hr); refine then_r ?_; obtain rfl := Option.some.inj hr; exact done_ct (Or.inl rfl) Try.results18 ty40 rfl (jt) rfl (fun v hv => ⟨_, _, rfl, rfl, ju, _, _, rfl, hv, Vint⟩)
  ·have hr := ite_f jo hr
   refine sr (mv (rv (vb (j7.2.1))) (L_not (rv (vb (j7.2.1))) (by decide) (asg (rv (vb (!j7.2.1))) (nn ?_))))
   refine W_cond _ (rv (vb (!j7.2.1))) (fun jp => ?_) (fun jp => ?_)
   ·have hr := ite_t jp hr; refine sr (L_bld40_0 (s := ja) (rv (vi 4)) (Vint : V _ _ (4 : Int)) (by decide) (fun jq jr => L_store ty40 (rv (Value.pointer (some ⟨j2, 0, none⟩))) (rv jq) jr ((j5).ext jb) (fun js jt ju => ?_))); have jv := Tch.trans jd jt (fun k hk => Or.inr (by subst hk; exact (Nat.le_trans j0.size j4))); refine asg (rv (vi 0)) (nn (W_ret (block_r ?_))); obtain rfl := Option.some.inj hr; have hr := jm; (try dsimp only at hr); refine then_r ?_; obtain rfl := Option.some.inj hr; exact done_ct (Or.inl rfl) Try.results18 ty40 rfl (ju) rfl (fun v hv => ⟨_, _, rfl, rfl, jv, _, _, rfl, hv, Vint⟩)
   ·have hr := ite_f jp hr
    refine sr (mv (rv je) ?_)
    obtain ⟨jq, jr, hr⟩ := bind_some hr
    refine L_calls cal47 (args2 (rv je) (rv (vi 0))) (dead_comes_ok N _ _ _ jh 0 jq jr) (by decide) (fun js jt ju jv => ?_)
    have jw := Tch.ext jd ju
    obtain rfl := jv.bool
    refine asg (rv (vb jq)) (nn ?_)
    refine W_cond _ (rv (vb jq)) (fun jx => ?_) (fun jx => ?_)
    ·have hr := ite_t jx hr; refine sr (L_bld40_0 (s := jt) (rv (vi 1)) (Vint : V _ _ (1 : Int)) (by decide) (fun jy jz => L_store ty40 (rv (Value.pointer (some ⟨j2, 0, none⟩))) (rv jy) jz (((j5).ext jb).ext ju) (fun k0 k1 k2 => ?_))); have k3 := Tch.trans jw k1 (fun k hk => Or.inr (by subst hk; exact (Nat.le_trans j0.size j4))); refine asg (rv (vi 0)) (nn (W_ret (block_r ?_))); obtain rfl := Option.some.inj hr; have hr := jm; (try dsimp only at hr); refine then_r ?_; obtain rfl := Option.some.inj hr; exact done_ct (Or.inl rfl) Try.results18 ty40 rfl (k2) rfl (fun v hv => ⟨_, _, rfl, rfl, k3, _, _, rfl, hv, Vint⟩)
    ·have hr := ite_f jx hr
     refine sr (mv (rv je) ?_)
     obtain ⟨jy, jz, hr⟩ := bind_some hr
     refine L_calls cal47 (args2 (rv je) (rv (vi 200))) (dead_comes_ok N _ _ _ (jh.mono ju.le) 200 jy jz) (by decide) (fun k0 k1 k2 k3 => ?_)
     have k4 := Tch.ext jw k2
     obtain rfl := k3.bool
     refine L_not (rv (vb jy)) (by decide) (asg (rv (vb (!jy))) (nn ?_))
     refine W_cond _ (rv (vb (!jy))) (fun k5 => ?_) (fun k5 => ?_)
     ·have hr := ite_t k5 hr; refine sr (L_bld40_0 (s := k1) (rv (vi 3)) (Vint : V _ _ (3 : Int)) (by decide) (fun k6 k7 => L_store ty40 (rv (Value.pointer (some ⟨j2, 0, none⟩))) (rv k6) k7 ((((j5).ext jb).ext ju).ext k2) (fun k8 k9 ka => ?_))); have kb := Tch.trans k4 k9 (fun k hk => Or.inr (by subst hk; exact (Nat.le_trans j0.size j4))); refine asg (rv (vi 0)) (nn (W_ret (block_r ?_))); obtain rfl := Option.some.inj hr; have hr := jm; (try dsimp only at hr); refine then_r ?_; obtain rfl := Option.some.inj hr; exact done_ct (Or.inl rfl) Try.results18 ty40 rfl (ka) rfl (fun v hv => ⟨_, _, rfl, rfl, kb, _, _, rfl, hv, Vint⟩)
     ·have hr := ite_f k5 hr; refine W_skip (block_n ?_); exact then_n ⟨k1, (⟨0, 0⟩ : Verdict), rfl, k4, (ju.le.trans k2.le), Option.some.inj hr, rfl, rfl, (((j5).ext jb).ext ju).ext k2⟩
 ·rintro jo jp ⟨jq, jn, rfl, jr, js, jl, jt, ju, jv⟩
  subst jl
  have hr := jm
  try dsimp only at hr
  refine sr (asg (rv (vi 0)) (asg (rv (vi 200)) (nn (W_seq ?_))))
  obtain ⟨jw, jx, jy⟩ := bind_some hr
  refine W_cut (fun f w => ∃ (s : St) (jz : Int), s.w = w ∧ Ext s0 s ∧ Le jq s ∧ jz = jw ∧ f 8 = vi jz ∧ f 2 = Value.pointer (some ⟨j2, 0, none⟩) ∧ Var s j2 40 jn) ?_ ?_
  ·refine W_block (W_loop (fun m f w => ∃ (s : St) (k0 : Int) (k1 : Int), s.w = w ∧ Ext s0 s ∧ Le jq s ∧ dead_Decide_l1 N j7 m k0 k1 = some jw ∧ f 7 = vi k0 ∧ f 8 = vi k1 ∧ f 2 = Value.pointer (some ⟨j2, 0, none⟩) ∧ f 4 = je ∧ Var s j2 40 jn) N ⟨jq, 0, 200, rfl, jr, (Le.refl _), jx, rfl, rfl, jt, ju, jv⟩ ?_)
   rintro k2 k3 k4 ⟨k5, k0, k1, rfl, k6, k7, hr, k8, k9, ka, kb, kc⟩
   cases k2 with
   | zero => exact absurd hr (by simp [dead_Decide_l1])
   | succ k2 =>
    rw [dead_Decide_l1.eq_2] at hr
    refine W_seq (sr (mv k9 (mv k8 ?_)))
    obtain ⟨kd, hr⟩ := chk_some hr
    refine L_sub (rv (vi k1)) (rv (vi k0)) kd (by decide) (L_gtr (rv (vi (k1 - k0))) (rv (vi 1)) (by decide) (nn ?_))
    refine W_cond _ (rv (vb (decide (1 < (k1 - k0))))) (fun ke => ?_) (fun ke => ?_)
    ·have hr := ite_t ke hr
     refine W_skip (then_n (W_block (sr (mv k8 (mv k9 ?_)))))
     obtain ⟨kf, hr⟩ := chk_some hr
     refine ad (rv (vi k0)) (rv (vi k1)) kf ?_
     obtain ⟨kg, hr⟩ := chk_some hr
     refine L_quo (rv (vi (k0 + k1))) (rv (vi 2)) kg.1 kg.2 (by decide) (asg (rv (vi (Int.tdiv (k0 + k1) 2))) (nn (sr (mv kb (mv (rv (vi (Int.tdiv (k0 + k1) 2))) ?_)))))
     obtain ⟨kh, ki, hr⟩ := bind_some hr
     refine L_calls cal47 (args2 (rv je) (rv (vi (Int.tdiv (k0 + k1) 2)))) (dead_comes_ok N _ _ _ (jh.mono (js.trans k7)) (Int.tdiv (k0 + k1) 2) kh ki) (by decide) (fun kj kk kl km => ?_)
     have kn := Tch.ext k6 kl
     obtain rfl := km.bool
     refine nn ?_
     refine W_cond _ (rv (vb kh)) (fun ko => ?_) (fun ko => ?_)
     ·have hr := ite_t ko hr; refine W_region (mv (rv (vi (Int.tdiv (k0 + k1) 2))) (asg (rv (vi (Int.tdiv (k0 + k1) 2))) (L_nil (block_n ?_)))); exact then_n ⟨k2, Nat.lt_succ_self _, ⟨kk, k0, (Int.tdiv (k0 + k1) 2), rfl, kn, (k7.trans kl.le), hr, k8, rfl, ka, kb, (kc).ext kl⟩⟩
     ·have hr := ite_f ko hr; refine W_region (mv (rv (vi (Int.tdiv (k0 + k1) 2))) (asg (rv (vi (Int.tdiv (k0 + k1) 2))) (L_nil (block_n ?_)))); exact then_n ⟨k2, Nat.lt_succ_self _, ⟨kk, (Int.tdiv (k0 + k1) 2), k1, rfl, kn, (k7.trans kl.le), hr, rfl, k9, ka, kb, (kc).ext kl⟩⟩
    ·have hr := ite_f ke hr; refine W_exit (then_x (then_x (block_here ?_))); exact then_n ⟨k5, k1, rfl, k6, k7, Option.some.inj hr, k9, ka, kc⟩
  ·rintro k0 k1 ⟨k2, jz, rfl, k3, k4, jx, k5, k6, k7⟩; subst jx; have hr := jy; (try dsimp only at hr); refine then_n (sr (mv k5 (L_bld40_0_1 (s := k2) (rv (vi 2)) (rv (vi jz)) (Vint : V _ _ (2 : Int)) (Vint : V _ _ (jz : Int)) (by decide) (fun k8 k9 => L_store ty40 k6 (rv k8) k9 (k7) (fun ka kb kc => ?_))))); have kd := Tch.trans k3 kb (fun k hk => Or.inr (by subst hk; exact (Nat.le_trans j0.size j4))); refine asg (rv (vi 0)) (nn (W_ret ?_)); obtain rfl := Option.some.inj hr; exact done_ct (Or.inl rfl) Try.results18 ty40 k6 (kc) rfl (fun v hv => ⟨_, _, rfl, rfl, kd, _, _, rfl, hv, Vint⟩)

theorem dead_Show_ok (N : Nat) (s0 : St) (w0 : Value) (a0 : List (List Deed)) (h0 : V s0 w0 a0) (a1 : Int) (r : (List Int) × Int) (hr : dead_Show N a0 a1 = some r) :
    Calls Try.prog 22 #[w0, .int .i64 a1] s0.w (Ret s0 fun v s => ∃ a b, v = .tuple #[a, b] ∧ V s a r.1 ∧ V s b r.2) := by
 unfold dead_Show at hr
 have j0 := Ext.refl s0
 refine Calls_of (n := 19) (args := [w0, .int .i64 a1]) Try.func22 rfl rfl (by simp) (sr (asg (rv (Value.slice none 0 0)) (asg (rv (vi 0)) (nn (sr (mv (rv w0) (mv (rv (vi a1)) ?_)))))))
 obtain ⟨j1, j2, hr⟩ := bind_some hr
 refine L_calls cal31 (args2 (rv w0) (rv (vi a1))) (dead_newRun_ok N _ _ _ h0 a1 j1 j2) (by decide) (fun j3 j4 j5 j6 => ?_)
 have j7 := Tch.ext j0 j5
 obtain ⟨j8, j9, rfl, ja, jb⟩ := j6
 obtain rfl := jb.int
 refine mv (rv (Value.tuple #[j8, vi (j1.2)])) (xt (rv (Value.tuple #[j8, vi (j1.2)])) (k := 0) rfl (xt (rv (Value.tuple #[j8, vi (j1.2)])) (k := 1) rfl (asg (rv j8) (asg (rv (vi (j1.2))) (nn (W_seq (sr (mv (rv (vi (j1.2))) (ne (rv (vi (j1.2))) (rv (vi 0)) (nn ?_))))))))))
 refine W_cond _ (rv (vb (!decide (j1.2 = 0)))) (fun jc => ?_) (fun jc => ?_)
 ·have hr := ite_t jc hr; refine sr (mv (rv (vi (j1.2))) (asg (rv (Value.slice none 0 0)) (asg (rv (vi (j1.2))) (nn (W_ret (then_r ?_)))))); obtain rfl := Option.some.inj hr; exact done2 (Or.inl rfl) Try.results22 rfl rfl ⟨_, _, rfl, rfl, j7, _, _, rfl, Vnil, Vint⟩
 ·have hr := ite_f jc hr; refine W_skip (then_n (sr (mv (rv j8) ?_))); obtain ⟨jd, je, hr⟩ := bind_some hr; obtain ⟨jf, jg, jh, ji⟩ := ja.open je; obtain ⟨jj, jk, hr⟩ := bind_some hr; refine L_calls_mut cal49 (args1 (rv j8)) (dead_run_finish_ok N _ _ jf (Run.with_at_ jd jd.at_) (jh.at (fun _ => rfl) (ji)) (ji).self jj jk) (by decide) ?_; rintro jl jm jn ⟨jo, jp⟩; have jq := Tch.trans j7 jn (fun k hk => Or.inr (by subst hk; exact (Nat.le_trans j0.size jg))); have jp := (ji).back jp; obtain ⟨jr, js, jt, ju⟩ := (jp).freeze; rw [← js]; have jv := Tch.trans jq jt (fun k hk => Or.inr (by subst hk; exact (Nat.le_trans j0.size jg))); refine asg (rv jl) (asg (rv (vi 0)) (nn (W_ret ?_))); obtain rfl := Option.some.inj hr; exact done2 (Or.inl rfl) Try.results22 rfl rfl ⟨_, _, rfl, rfl, jv, _, _, rfl, (jo.mono jt.le), Vint⟩

theorem dead_Blocks_ok (N : Nat) (s0 : St) (w0 : Value) (a0 : List (List Deed)) (h0 : V s0 w0 a0) (a1 : Int) (r : (List Block) × Int) (hr : dead_Blocks N a0 a1 = some r) :
    Calls Try.prog 24 #[w0, .int .i64 a1] s0.w (Ret s0 fun v s => ∃ a b, v = .tuple #[a, b] ∧ V s a r.1 ∧ V s b r.2) := by
 unfold dead_Blocks at hr
 have j0 := Ext.refl s0
 refine Calls_of (n := 81) (args := [w0, .int .i64 a1]) Try.func24 rfl rfl (by simp) (sr (asg (rv (Value.slice none 0 0)) (asg (rv (vi 0)) (nn (sr (mv (rv w0) (mv (rv (vi a1)) ?_)))))))
 obtain ⟨j1, j2, hr⟩ := bind_some hr
 refine L_calls cal31 (args2 (rv w0) (rv (vi a1))) (dead_newRun_ok N _ _ _ h0 a1 j1 j2) (by decide) (fun j3 j4 j5 j6 => ?_)
 have j7 := Tch.ext j0 j5
 obtain ⟨j8, j9, rfl, ja, jb⟩ := j6
 obtain rfl := jb.int
 refine mv (rv (Value.tuple #[j8, vi (j1.2)])) (xt (rv (Value.tuple #[j8, vi (j1.2)])) (k := 0) rfl (xt (rv (Value.tuple #[j8, vi (j1.2)])) (k := 1) rfl (asg (rv j8) (asg (rv (vi (j1.2))) (nn (W_seq (sr (mv (rv (vi (j1.2))) (ne (rv (vi (j1.2))) (rv (vi 0)) (nn ?_))))))))))
 refine W_cond _ (rv (vb (!decide (j1.2 = 0)))) (fun jc => ?_) (fun jc => ?_)
 ·have hr := ite_t jc hr; refine sr (mv (rv (vi (j1.2))) (asg (rv (Value.slice none 0 0)) (asg (rv (vi (j1.2))) (nn (W_ret (then_r ?_)))))); obtain rfl := Option.some.inj hr; exact done2 (Or.inl rfl) Try.results24 rfl rfl ⟨_, _, rfl, rfl, j7, _, _, rfl, Vnil, Vint⟩
 ·have hr := ite_f jc hr
  refine W_skip (then_n (sr (mv (rv j8) ?_)))
  obtain ⟨jd, je, hr⟩ := bind_some hr
  obtain ⟨jf, jg, jh, ji⟩ := ja.open je
  obtain ⟨jj, jk, hr⟩ := bind_some hr
  refine L_calls_mut cal49 (args1 (rv j8)) (dead_run_finish_ok N _ _ jf (Run.with_at_ jd jd.at_) (jh.at (fun _ => rfl) (ji)) (ji).self jj jk) (by decide) ?_
  rintro jl jm jn ⟨jo, jp⟩
  have jq := Tch.trans j7 jn (fun k hk => Or.inr (by subst hk; exact (Nat.le_trans j0.size jg)))
  have jp := (ji).back jp
  obtain ⟨jr, js, jt, ju⟩ := (jp).freeze
  rw [← js]
  have jv := Tch.trans jq jt (fun k hk => Or.inr (by subst hk; exact (Nat.le_trans j0.size jg)))
  refine nn (sr (asg (rv (Value.slice none 0 0)) (nn (W_seq (sr (mv (rv j8) (L_nilCheck_ptr (rv j8) ((jh.mono (jn.le.trans jt.le)).ptr ju) (by decide) (fa fld72_2 Run.of_at_ (rv j8) ((jh.mono (jn.le.trans jt.le)).ptr ju) (fun jw jx => ld ty23 (rv jw) jx (fun jy jz => ln Try.underlying23 (rv jy) jz (mv (rv (vi 0)) (nn ?_))))))))))))
  obtain ⟨k0, k1, k2⟩ := bind_some hr
  refine W_cut (fun f w => ∃ (s : St) (k3 : Value) (k4 : List Block), s.w = w ∧ Ext s0 s ∧ Le jr s ∧ k4 = k0 ∧ f 8 = k3 ∧ Bld s s0.w.heap.size 58 k3 k4) ?_ ?_
  ·refine W_block (W_loop (fun m f w => ∃ (s : St) (k5 : Value) (k6 : List Block) (k7 : Int), s.w = w ∧ Ext s0 s ∧ Le jr s ∧ dead_Blocks_l1 N a0 jd jj m k6 k7 = some k0 ∧ f 8 = k5 ∧ Bld s s0.w.heap.size 58 k5 k6 ∧ f 29 = vi k7 ∧ f 0 = w0 ∧ f 6 = j8 ∧ f 27 = jy ∧ f 28 = vi ((((Run.with_at_ jd jj.2).at_).length : Int))) N ⟨jr, (Value.slice none 0 0), ([]), 0, rfl, jv, (Le.refl _), k1, rfl, Bld.nil, rfl, rfl, rfl, rfl, rfl⟩ ?_)
   rintro k8 k9 ka ⟨kb, k5, k6, k7, rfl, kc, kd, hr, ke, kf, kg, kh, ki, kj, kk⟩
   cases k8 with
   | zero => exact absurd hr (by simp [dead_Blocks_l1])
   | succ k8 =>
    rw [dead_Blocks_l1.eq_2] at hr
    refine sr (ls kg kk (nn (W_seq ?_)))
    refine W_cond _ (rfl : _ = vb (decide (k7 < (((Run.with_at_ jd jj.2).at_).length : Int)))) (fun kl => ?_) (fun kl => ?_)
    ·have hr := ite_t kl hr
     refine W_skip (then_n (W_seq (W_block (sr (mv kg ?_)))))
     obtain ⟨km, kn, hr⟩ := bind_some hr
     refine ix Try.underlying23 ty3.inf kj (jz.mono kd) kg kn (fun ko kp => li ty3 (rv ko) kp (asg (rv (vi k7)) (asg (rv (vi km)) (nn (W_seq (sr (mv (rv (vi km)) (mv kh (mv (rv (vi k7)) ?_)))))))))
     obtain ⟨kq, kr, hr⟩ := bind_some hr
     refine ix Try.underlying29 ty59.inf (rv w0) (h0.mono (j5.le.trans (jn.le.trans (jt.le.trans kd)))) (rv (vi k7)) kr (fun ks kt => ld ty59 (rv ks) kt (fun ku kv => ln Try.underlying59 (rv ku) kv (el (rv (vi km)) (rv (vi ((kq.length : Int)))) (nn ?_))))
     refine W_cond _ (rv (vb (decide (km = (kq.length : Int))))) (fun kw => ?_) (fun kw => ?_)
     ·have hr := ite_t kw hr; refine W_exit (then_x (block_here (then_n (W_region ?_)))); obtain ⟨kx, hr⟩ := chk_some hr; exact ad kg (rv (vi 1)) kx (mv (rv (vi (k7 + 1))) (nn ⟨k8, Nat.lt_succ_self _, ⟨kb, k5, k6, (k7 + 1), rfl, kc, kd, hr, ke, kf, rfl, kh, ki, kj, kk⟩⟩))
     ·have hr := ite_f kw hr
      refine W_skip (then_n (sr (mv kh (mv (rv (vi k7)) ?_))))
      obtain ⟨kx, ky, hr⟩ := bind_some hr
      refine ix Try.underlying29 ty59.inf (rv w0) (h0.mono (j5.le.trans (jn.le.trans (jt.le.trans kd)))) (rv (vi k7)) ky (fun kz g0 => ld ty59 (rv kz) g0 (fun g1 g2 => mv (rv (vi km)) ?_))
      obtain ⟨g3, g4, hr⟩ := bind_some hr
      refine ix Try.underlying59 ty64.inf (rv g1) g2 (rv (vi km)) g4 (fun g5 g6 => ld ty64 (rv g5) g6 (fun g7 g8 => L_alloc (α := Deed) (x := ⟨0, 0, 0, 0, false⟩) zero64 Deed.zero_rel (by decide) (fun g9 ga gb gc gd => ?_)))
      have gg := Tch.ext kc gb
      have gh : ∀ k, (own k5) k → ¬ (fun k => k = ga) k := fun k gi gj => by have gk := (fun k hk => ((kf).lt hk).2) k gi; have gl := gc; subst gj; omega
      refine L_store ty64 (rv (Value.pointer (some ⟨ga, 0, none⟩))) (rv g7) (g8.mono gb.le) (gd) (fun gm gn go => ?_)
      have gp := Tch.trans gg gn (fun k hk => Or.inr (by subst hk; exact (Nat.le_trans kc.size gc)))
      refine nn (W_seq (sr (L_fieldAddr_var fld64_0 (rv (Value.pointer (some ⟨ga, 0, none⟩))) (by decide) (L_load_field ty3 Deed.of_Kind (rv (Value.pointer (some ⟨ga, 0, none⟩))) (go) (by decide) (fun gq gr => ?_)))))
      obtain rfl := gr.int
      refine el (rv (vi (g3.Kind))) (rv (vi 5)) (nn ?_)
      refine W_cond _ (rv (vb (decide (g3.Kind = 5)))) (fun gs => ?_) (fun gs => ?_)
      ·have hr := ite_t gs hr
       obtain ⟨gu, gv, hr⟩ := bind_some hr
       obtain ⟨gw, gx, hr⟩ := bind_some hr
       obtain ⟨gy, gz, hr⟩ := bind_some hr
       refine W_drawP mixed 12 [PX.data (a0 : List (List Deed)), PX.eq (vi k7), PX.ptr (gu : List Deed), PX.data (gu : List Deed), PX.ptr ((Run.with_at_ jd jj.2) : Run), PX.eq (vi k7), PX.eq (Value.pointer (some ⟨ga, 3, none⟩)), PX.eq (vi (g3.Req)), PX.eq (vi gw), PX.ptr (gy : Deed), PX.data (gy : Deed), PX.var s0.w.heap.size 64 (gy : Deed), PX.var s0.w.heap.size 64 (g3 : Deed)] [51, 52, 53, 54, 55, 56, 57, 58, 59, 60, 61, 11, 11] [[], [], [], [], [], [], [], [], [], [], [], [12]] rfl (by kernel_rfl) (ent1 rfl ⟨ga, rfl, (Nat.le_trans kc.size gc), go⟩) (dis1 rfl) (StepsX_cons ?_ (StepsX_cons ?_ (StepsX_cons ?_ (StepsX_cons ?_ (StepsX_cons ?_ (StepsX_cons ?_ (StepsX_cons ?_ (StepsX_cons ?_ (StepsX_cons ?_ (StepsX_cons ?_ (StepsX_cons ?_ (StepsX_cons ?_ StepsX_nil)))))))))))) ?_
       ·intro u0 u1 u2 u3 u4 Q u5; have u6 : u0 0 = w0 := (u4 0 (by kernel_rfl)).trans kh; exact mv u6 (L_nil (u5 _ _ No (Ext.refl u1) (fun _ h => h.elim) (h0.mono (j5.le.trans (jn.le.trans (jt.le.trans (kd.trans (gb.le.trans (gn.le.trans u2.le))))))) (fun _ h => h.elim)))
       ·intro u0 u1 u2 u3 u4 Q u5; have u6 : u0 9 = vi (k7) := (u4 9 (by kernel_rfl)).trans rfl; exact mv u6 (L_nil (u5 _ _ No (Ext.refl u1) (fun _ h => h.elim) rfl (fun _ h => h.elim)))
       ·intro u0 u1 u2 u3 u4 Q u5; have u6 : V _ (u0 51) (a0 : List (List Deed)) := u3 0 (by kernel_rfl) (by show _ < 13; decide); obtain ⟨u7, u9, ua⟩ : ∃ v, _ = v ∧ V _ v _ := ⟨_, rfl, u6⟩; have ub : u0 52 = vi (k7) := u3 1 (by kernel_rfl) (by show _ < 13; decide); exact ix Try.underlying29 ty59.inf u9 ua ub gv (fun uc ud => L_nil (u5 _ _ No (Ext.refl u1) (fun _ h => h.elim) ud (fun _ h => h.elim)))
       ·intro u0 u1 u2 u3 u4 Q u5; have u6 : Ptr _ (u0 53) (gu : List Deed) := u3 2 (by kernel_rfl) (by show _ < 13; decide); obtain ⟨u7, u9, ua⟩ : ∃ v, _ = v ∧ Ptr _ v _ := ⟨_, rfl, u6⟩; exact ld ty59 u9 ua (fun ub uc => L_nil (u5 _ _ No (Ext.refl u1) (fun _ h => h.elim) uc (fun _ h => h.elim)))
       ·intro u0 u1 u2 u3 u4 Q u5; have u6 : u0 6 = j8 := (u4 6 (by kernel_rfl)).trans ki; exact mv u6 (L_nil (u5 _ _ No (Ext.refl u1) (fun _ h => h.elim) (((jh.mono (jn.le.trans jt.le)).ptr ju).mono (kd.trans (gb.le.trans (gn.le.trans u2.le)))) (fun _ h => h.elim)))
       ·intro u0 u1 u2 u3 u4 Q u5; have u6 : u0 9 = vi (k7) := (u4 9 (by kernel_rfl)).trans rfl; exact mv u6 (L_nil (u5 _ _ No (Ext.refl u1) (fun _ h => h.elim) rfl (fun _ h => h.elim)))
       ·intro u0 u1 u2 u3 u4 Q u5
        obtain ⟨u6, u7, u9, ua⟩ : ∃ b, u0 11 = Value.pointer (some ⟨b, 0, none⟩) ∧ s0.w.heap.size ≤ b ∧ Var u1 b 64 (g3 : Deed) := u3 12 (by kernel_rfl) (by show _ < 13; decide)
        have ub : u0 11 = Value.pointer (some ⟨ga, 0, none⟩) := (u4 11 (by kernel_rfl)).trans rfl
        have uc : u6 = ga := by have gk := u7.symm.trans ub; cases gk; rfl
        rw [uc] at u9 ua
        exact L_fieldAddr_var fld64_3 ub (by decide) (L_nil (u5 _ _ No (Ext.refl u1) (fun _ h => h.elim) rfl (fun _ h => h.elim)))
       ·intro u0 u1 u2 u3 u4 Q u5
        obtain ⟨u6, u7, u9, ua⟩ : ∃ b, u0 11 = Value.pointer (some ⟨b, 0, none⟩) ∧ s0.w.heap.size ≤ b ∧ Var u1 b 64 (g3 : Deed) := u3 12 (by kernel_rfl) (by show _ < 13; decide)
        have ub : u0 11 = Value.pointer (some ⟨ga, 0, none⟩) := (u4 11 (by kernel_rfl)).trans rfl
        have uc : u6 = ga := by have gk := u7.symm.trans ub; cases gk; rfl
        rw [uc] at u9 ua
        have ud : u0 57 = Value.pointer (some ⟨ga, 3, none⟩) := u3 6 (by kernel_rfl) (by show _ < 13; decide)
        refine L_load_field ty3 Deed.of_Req ud (ua) (by decide) (fun ue uf => ?_)
        obtain rfl := uf.int
        exact L_nil (u5 _ _ No (Ext.refl u1) (fun _ h => h.elim) rfl (fun _ h => h.elim))
       ·intro u0 u1 u2 u3 u4 Q u5; have u6 : Ptr _ (u0 55) ((Run.with_at_ jd jj.2) : Run) := u3 4 (by kernel_rfl) (by show _ < 13; decide); obtain ⟨u7, u9, ua⟩ : ∃ v, _ = v ∧ Ptr _ v _ := ⟨_, rfl, u6⟩; have ub : u0 56 = vi (k7) := u3 5 (by kernel_rfl) (by show _ < 13; decide); have uc : u0 58 = vi (g3.Req) := u3 7 (by kernel_rfl) (by show _ < 13; decide); refine L_calls cal50 (args3 u9 ub uc) (dead_run_request_ok N _ _ _ ua k7 g3.Req gw gx) (by decide) (fun ud ue uf ug => ?_); have uh := Tch.ext (Ext.refl u1) uf; obtain rfl := ug.int; exact L_nil (u5 _ _ No uh (fun _ h => h.elim) rfl (fun _ h => h.elim))
       ·intro u0 u1 u2 u3 u4 Q u5; have u6 : V _ (u0 54) (gu : List Deed) := u3 3 (by kernel_rfl) (by show _ < 13; decide); obtain ⟨u7, u9, ua⟩ : ∃ v, _ = v ∧ V _ v _ := ⟨_, rfl, u6⟩; have ub : u0 59 = vi (gw) := u3 8 (by kernel_rfl) (by show _ < 13; decide); exact ix Try.underlying59 ty64.inf u9 ua ub gz (fun uc ud => L_nil (u5 _ _ No (Ext.refl u1) (fun _ h => h.elim) ud (fun _ h => h.elim)))
       ·intro u0 u1 u2 u3 u4 Q u5; have u6 : Ptr _ (u0 60) (gy : Deed) := u3 9 (by kernel_rfl) (by show _ < 13; decide); obtain ⟨u7, u9, ua⟩ : ∃ v, _ = v ∧ Ptr _ v _ := ⟨_, rfl, u6⟩; exact ld ty64 u9 ua (fun ub uc => L_nil (u5 _ _ No (Ext.refl u1) (fun _ h => h.elim) uc (fun _ h => h.elim)))
       ·intro u0 u1 u2 u3 u4 Q u5
        obtain ⟨u6, u7, u9, ua⟩ : ∃ b, u0 11 = Value.pointer (some ⟨b, 0, none⟩) ∧ s0.w.heap.size ≤ b ∧ Var u1 b 64 (g3 : Deed) := u3 12 (by kernel_rfl) (by show _ < 13; decide)
        have ub : u0 11 = Value.pointer (some ⟨ga, 0, none⟩) := (u4 11 (by kernel_rfl)).trans rfl
        have uc : u6 = ga := by have gk := u7.symm.trans ub; cases gk; rfl
        rw [uc] at u9 ua
        have ud : V _ (u0 61) (gy : Deed) := u3 10 (by kernel_rfl) (by show _ < 13; decide)
        obtain ⟨ue, uf, ug⟩ : ∃ v, _ = v ∧ V _ v _ := ⟨_, rfl, ud⟩
        exact L_store ty64 ub uf ug (ua) (fun uh ui uj => L_nil (u5 undef _ _ ui (fun k h => ⟨12, (List.mem_singleton.2 rfl : (12 : Nat) ∈ [12]), (by show ownP (u0 11) k; rw [ub]; exact congrArg (fun z => Value.pointer (some ⟨z, 0, none⟩)) h.symm)⟩) ⟨_, ub, u9, uj⟩ (fun k h => Or.inl ⟨12, (List.mem_singleton.2 rfl : (12 : Nat) ∈ [12]), h⟩)))
       ·intro u0 u1 u2 u3 u4 u5
        have u6 := Tch.trans gp u2 (fun k h => Or.inr (by have gj := ent_is (k := 12) rfl rfl h; have gk := Eq.mp (congrArg (fun v => ownP v k) (rv (Value.pointer (some ⟨ga, 0, none⟩)))) gj; cases gk; exact (Nat.le_trans kc.size gc)))
        obtain ⟨u7, u9, ua, ub⟩ : ∃ b, u0 11 = Value.pointer (some ⟨b, 0, none⟩) ∧ s0.w.heap.size ≤ b ∧ Var u1 b 64 (gy : Deed) := u3 11 (by show _ < 13; decide) (by kernel_rfl)
        have uc : u0 11 = Value.pointer (some ⟨ga, 0, none⟩) := (u5 11 (by kernel_rfl)).trans rfl
        have ud : u7 = ga := by have gk := u9.symm.trans uc; cases gk; rfl
        rw [ud] at ua ub
        have ue : u0 0 = w0 := (u5 0 (by kernel_rfl)).trans kh
        have uf : u0 6 = j8 := (u5 6 (by kernel_rfl)).trans ki
        have ug : u0 8 = k5 := (u5 8 (by kernel_rfl)).trans ke
        have uh : u0 9 = vi (k7) := (u5 9 (by kernel_rfl)).trans rfl
        have ui : u0 10 = vi (km) := (u5 10 (by kernel_rfl)).trans rfl
        have uj : u0 27 = jy := (u5 27 (by kernel_rfl)).trans kj
        have uk : u0 28 = vi ((((Run.with_at_ jd jj.2).at_).length : Int)) := (u5 28 (by kernel_rfl)).trans kk
        have ul : u0 29 = vi (k7) := (u5 29 (by kernel_rfl)).trans kg
        refine then_n (sr (mv uh (mv ui (L_fieldAddr_var fld64_1 uc (by decide) (L_load_field ty3 Deed.of_Peer (rv (Value.pointer (some ⟨ga, 1, none⟩))) (ub) (by decide) (fun um un => ?_))))))
        obtain rfl := un.int
        refine L_buildSlice (xs := ([gy.Peer] : List Int)) Try.underlying23 tyz3 (Parts_cons rfl (rv (vi (gy.Peer))) Parts_nil) (Vs.cons Vint Vs.nil) rfl (by decide) (by decide) (fun uo up uq ur us => ?_)
        have ut := Tch.ext u6 uq
        refine L_bld58_0_1_2 (s := uo) (rv (vi k7)) (rv (vi km)) (rv up) (Vint : V _ _ (k7 : Int)) (Vint : V _ _ (km : Int)) (us : V _ _ (([gy.Peer] : List Int) : List Int)) (by decide) (fun uu uv => L_alloc (α := Block) (x := ⟨0, 0, []⟩) zero58 Block.zero_rel (by decide) (fun uw ux uy uz t0 => ?_))
        have t1 := Tch.ext ut uy
        have t2 : ∀ k, (own k5) k → ¬ (fun k => k = ux) k := fun k gi gj => by have gk := (fun k hk => ((((((kf).ext gb).tch gn (fun k hk => gh k hk)).tch u2 (fun k hx => ent_one (k := 12) rfl rfl (fun gj => by have gk := Eq.mp (congrArg (fun v => ownP v k) (rv (Value.pointer (some ⟨ga, 0, none⟩)))) gj; cases gk; exact (fun k hk => gh k hk) _ hx rfl))).ext uq).lt hk).2) k gi; have gl := uz; subst gj; omega
        have t3 : ∀ k, (fun k => k = ga) k → ¬ (fun k => k = ux) k := fun k gi gj => by have gk := (fun k (hk : k = ga) => lt_at hk ((ub).ext uq).lt) k gi; have gl := uz; subst gj; omega
        refine L_store ty58 (rv (Value.pointer (some ⟨ux, 0, none⟩))) (rv uu) (uv.mono uy.le) (t0) (fun t4 t5 t6 => ?_)
        have t7 := Tch.trans t1 t5 (fun k hk => Or.inr (by subst hk; exact (Nat.le_trans ut.size uz)))
        refine nn (W_seq (sr (L_fieldAddr_var fld64_0 uc (by decide) (L_load_field ty3 Deed.of_Kind (rv (Value.pointer (some ⟨ga, 0, none⟩))) ((((ub).ext uq).ext uy).tch t5 ((fun k hk => t3 k hk) ga rfl)) (by decide) (fun t8 t9 => ?_)))))
        obtain rfl := t9.int
        refine el (rv (vi (gy.Kind))) (rv (vi 6)) (nn ?_)
        refine W_cond _ (rv (vb (decide (gy.Kind = 6)))) (fun ta => ?_) (fun ta => ?_)
        ·have hr := ite_t ta hr; refine W_region (mv uf (mv uh ?_)); obtain ⟨tb, tc, hr⟩ := bind_some hr; refine L_calls cal51 (args2 (rv j8) (rv (vi k7))) (dead_run_late_ok N _ _ _ (((jh.mono (jn.le.trans jt.le)).ptr ju).mono (kd.trans (gb.le.trans (gn.le.trans (u2.le.trans (uq.le.trans (uy.le.trans t5.le))))))) k7 tb tc) (by decide) (fun td te tg th => ?_); have ti := Tch.ext t7 tg; refine L_fieldAddr_var fld58_2 (rv (Value.pointer (some ⟨ux, 0, none⟩))) (by decide) (L_store_field ty23 Block.set_For (rv (Value.pointer (some ⟨ux, 2, none⟩))) (rv td) th ((t6).ext tg) (fun tj tk tl => ?_)); have tm := Tch.trans ti tk (fun k hk => Or.inr (by subst hk; exact (Nat.le_trans ut.size uz))); refine nn (W_region (mv ug (L_load_var ty58 (rv (Value.pointer (some ⟨ux, 0, none⟩))) (tl) (by decide) (fun tn tp => L_buildSlice (xs := ([(Block.with_For (⟨k7, km, ([gy.Peer] : List Int)⟩ : Block) tb)] : List Block)) Try.underlying53 tyz58 (Parts_cons rfl (rv tn) Parts_nil) (Vs.cons tp Vs.nil) rfl (by decide) (by decide) (fun tq tr ts tt tu => ?_))))); have tv := Tch.ext tm ts; obtain ⟨tw, hr⟩ := chk_some hr; refine L_append (xs := k6) (B := s0.w.heap.size) Try.underlying53 tyz58 (rv k5) (rv tr) ((((((((((kf).ext gb).tch gn (fun k hk => gh k hk)).tch u2 (fun k hx => ent_one (k := 12) rfl rfl (fun gj => by have gk := Eq.mp (congrArg (fun v => ownP v k) (rv (Value.pointer (some ⟨ga, 0, none⟩)))) gj; cases gk; exact (fun k hk => gh k hk) _ hx rfl))).ext uq).ext uy).tch t5 (fun k hk => t2 k hk)).ext tg).tch tk (fun k hk => t2 k hk)).ext ts) (tv.size) tu tw.1 tw.2 (by decide) (fun tx ty tz => ?_); have c0 := tz.tchM ((((((((((kf).ext gb).tch gn (fun k hk => gh k hk)).tch u2 (fun k hx => ent_one (k := 12) rfl rfl (fun gj => by have gk := Eq.mp (congrArg (fun v => ownP v k) (rv (Value.pointer (some ⟨ga, 0, none⟩)))) gj; cases gk; exact (fun k hk => gh k hk) _ hx rfl))).ext uq).ext uy).tch t5 (fun k hk => t2 k hk)).ext tg).tch tk (fun k hk => t2 k hk)).ext ts) tv (Nat.le_refl _); refine asg (rv tx) (L_nil (block_n (then_n (W_region ?_)))); obtain ⟨c1, hr⟩ := chk_some hr; exact ad ul (rv (vi 1)) c1 (mv (rv (vi (k7 + 1))) (nn ⟨k8, Nat.lt_succ_self _, ⟨ty, tx, (k6 ++ ([(Block.with_For (⟨k7, km, ([gy.Peer] : List Int)⟩ : Block) tb)] : List Block)), (k7 + 1), rfl, c0, (kd.trans (gb.le.trans (gn.le.trans (u2.le.trans (uq.le.trans (uy.le.trans (t5.le.trans (tg.le.trans (tk.le.trans (ts.le.trans tz.tch.le)))))))))), hr, rfl, tz.bld, rfl, ue, uf, uj, uk⟩⟩))
        ·have hr := ite_f ta hr; refine W_skip (then_n (W_region (mv ug (L_load_var ty58 (rv (Value.pointer (some ⟨ux, 0, none⟩))) (t6) (by decide) (fun tb tc => L_buildSlice (xs := ([(⟨k7, km, ([gy.Peer] : List Int)⟩ : Block)] : List Block)) Try.underlying53 tyz58 (Parts_cons rfl (rv tb) Parts_nil) (Vs.cons tc Vs.nil) rfl (by decide) (by decide) (fun td te tg th ti => ?_)))))); have tj := Tch.ext t7 tg; obtain ⟨tk, hr⟩ := chk_some hr; refine L_append (xs := k6) (B := s0.w.heap.size) Try.underlying53 tyz58 (rv k5) (rv te) ((((((((kf).ext gb).tch gn (fun k hk => gh k hk)).tch u2 (fun k hx => ent_one (k := 12) rfl rfl (fun gj => by have gk := Eq.mp (congrArg (fun v => ownP v k) (rv (Value.pointer (some ⟨ga, 0, none⟩)))) gj; cases gk; exact (fun k hk => gh k hk) _ hx rfl))).ext uq).ext uy).tch t5 (fun k hk => t2 k hk)).ext tg) (tj.size) ti tk.1 tk.2 (by decide) (fun tl tm tn => ?_); have tp := tn.tchM ((((((((kf).ext gb).tch gn (fun k hk => gh k hk)).tch u2 (fun k hx => ent_one (k := 12) rfl rfl (fun gj => by have gk := Eq.mp (congrArg (fun v => ownP v k) (rv (Value.pointer (some ⟨ga, 0, none⟩)))) gj; cases gk; exact (fun k hk => gh k hk) _ hx rfl))).ext uq).ext uy).tch t5 (fun k hk => t2 k hk)).ext tg) tj (Nat.le_refl _); refine asg (rv tl) (L_nil (block_n (then_n (W_region ?_)))); obtain ⟨tq, hr⟩ := chk_some hr; exact ad ul (rv (vi 1)) tq (mv (rv (vi (k7 + 1))) (nn ⟨k8, Nat.lt_succ_self _, ⟨tm, tl, (k6 ++ ([(⟨k7, km, ([gy.Peer] : List Int)⟩ : Block)] : List Block)), (k7 + 1), rfl, tp, (kd.trans (gb.le.trans (gn.le.trans (u2.le.trans (uq.le.trans (uy.le.trans (t5.le.trans (tg.le.trans tn.tch.le)))))))), hr, rfl, tn.bld, rfl, ue, uf, uj, uk⟩⟩))
      ·have hr := ite_f gs hr
       refine W_skip (then_n (sr (mv (rv (vi k7)) (mv (rv (vi km)) (L_fieldAddr_var fld64_1 (rv (Value.pointer (some ⟨ga, 0, none⟩))) (by decide) (L_load_field ty3 Deed.of_Peer (rv (Value.pointer (some ⟨ga, 1, none⟩))) (go) (by decide) (fun gu gv => ?_)))))))
       obtain rfl := gv.int
       refine L_buildSlice (xs := ([g3.Peer] : List Int)) Try.underlying23 tyz3 (Parts_cons rfl (rv (vi (g3.Peer))) Parts_nil) (Vs.cons Vint Vs.nil) rfl (by decide) (by decide) (fun gw gx gy gz u0 => ?_)
       have u1 := Tch.ext gp gy
       refine L_bld58_0_1_2 (s := gw) (rv (vi k7)) (rv (vi km)) (rv gx) (Vint : V _ _ (k7 : Int)) (Vint : V _ _ (km : Int)) (u0 : V _ _ (([g3.Peer] : List Int) : List Int)) (by decide) (fun u2 u3 => L_alloc (α := Block) (x := ⟨0, 0, []⟩) zero58 Block.zero_rel (by decide) (fun u4 u5 u6 u7 u9 => ?_))
       have ua := Tch.ext u1 u6
       have ub : ∀ k, (own k5) k → ¬ (fun k => k = u5) k := fun k gi gj => by have gk := (fun k hk => (((((kf).ext gb).tch gn (fun k hk => gh k hk)).ext gy).lt hk).2) k gi; have gl := u7; subst gj; omega
       have uc : ∀ k, (fun k => k = ga) k → ¬ (fun k => k = u5) k := fun k gi gj => by have gk := (fun k (hk : k = ga) => lt_at hk ((go).ext gy).lt) k gi; have gl := u7; subst gj; omega
       refine L_store ty58 (rv (Value.pointer (some ⟨u5, 0, none⟩))) (rv u2) (u3.mono u6.le) (u9) (fun ud ue uf => ?_)
       have ug := Tch.trans ua ue (fun k hk => Or.inr (by subst hk; exact (Nat.le_trans u1.size u7)))
       refine nn (W_seq (sr (L_fieldAddr_var fld64_0 (rv (Value.pointer (some ⟨ga, 0, none⟩))) (by decide) (L_load_field ty3 Deed.of_Kind (rv (Value.pointer (some ⟨ga, 0, none⟩))) ((((go).ext gy).ext u6).tch ue ((fun k hk => uc k hk) ga rfl)) (by decide) (fun uh ui => ?_)))))
       obtain rfl := ui.int
       refine el (rv (vi (g3.Kind))) (rv (vi 6)) (nn ?_)
       refine W_cond _ (rv (vb (decide (g3.Kind = 6)))) (fun uj => ?_) (fun uj => ?_)
       ·have hr := ite_t uj hr; refine W_region (mv ki (mv (rv (vi k7)) ?_)); obtain ⟨uk, ul, hr⟩ := bind_some hr; refine L_calls cal51 (args2 (rv j8) (rv (vi k7))) (dead_run_late_ok N _ _ _ (((jh.mono (jn.le.trans jt.le)).ptr ju).mono (kd.trans (gb.le.trans (gn.le.trans (gy.le.trans (u6.le.trans ue.le)))))) k7 uk ul) (by decide) (fun um un uo up => ?_); have uq := Tch.ext ug uo; refine L_fieldAddr_var fld58_2 (rv (Value.pointer (some ⟨u5, 0, none⟩))) (by decide) (L_store_field ty23 Block.set_For (rv (Value.pointer (some ⟨u5, 2, none⟩))) (rv um) up ((uf).ext uo) (fun ur us ut => ?_)); have uu := Tch.trans uq us (fun k hk => Or.inr (by subst hk; exact (Nat.le_trans u1.size u7))); refine nn (W_region (mv ke (L_load_var ty58 (rv (Value.pointer (some ⟨u5, 0, none⟩))) (ut) (by decide) (fun uv uw => L_buildSlice (xs := ([(Block.with_For (⟨k7, km, ([g3.Peer] : List Int)⟩ : Block) uk)] : List Block)) Try.underlying53 tyz58 (Parts_cons rfl (rv uv) Parts_nil) (Vs.cons uw Vs.nil) rfl (by decide) (by decide) (fun ux uy uz t0 t1 => ?_))))); have t2 := Tch.ext uu uz; obtain ⟨t3, hr⟩ := chk_some hr; refine L_append (xs := k6) (B := s0.w.heap.size) Try.underlying53 tyz58 (rv k5) (rv uy) (((((((((kf).ext gb).tch gn (fun k hk => gh k hk)).ext gy).ext u6).tch ue (fun k hk => ub k hk)).ext uo).tch us (fun k hk => ub k hk)).ext uz) (t2.size) t1 t3.1 t3.2 (by decide) (fun t4 t5 t6 => ?_); have t7 := t6.tchM (((((((((kf).ext gb).tch gn (fun k hk => gh k hk)).ext gy).ext u6).tch ue (fun k hk => ub k hk)).ext uo).tch us (fun k hk => ub k hk)).ext uz) t2 (Nat.le_refl _); refine asg (rv t4) (L_nil (block_n (then_n (W_region ?_)))); obtain ⟨t8, hr⟩ := chk_some hr; exact ad kg (rv (vi 1)) t8 (mv (rv (vi (k7 + 1))) (nn ⟨k8, Nat.lt_succ_self _, ⟨t5, t4, (k6 ++ ([(Block.with_For (⟨k7, km, ([g3.Peer] : List Int)⟩ : Block) uk)] : List Block)), (k7 + 1), rfl, t7, (kd.trans (gb.le.trans (gn.le.trans (gy.le.trans (u6.le.trans (ue.le.trans (uo.le.trans (us.le.trans (uz.le.trans t6.tch.le))))))))), hr, rfl, t6.bld, rfl, kh, ki, kj, kk⟩⟩))
       ·have hr := ite_f uj hr; refine W_skip (then_n (W_region (mv ke (L_load_var ty58 (rv (Value.pointer (some ⟨u5, 0, none⟩))) (uf) (by decide) (fun uk ul => L_buildSlice (xs := ([(⟨k7, km, ([g3.Peer] : List Int)⟩ : Block)] : List Block)) Try.underlying53 tyz58 (Parts_cons rfl (rv uk) Parts_nil) (Vs.cons ul Vs.nil) rfl (by decide) (by decide) (fun um un uo up uq => ?_)))))); have ur := Tch.ext ug uo; obtain ⟨us, hr⟩ := chk_some hr; refine L_append (xs := k6) (B := s0.w.heap.size) Try.underlying53 tyz58 (rv k5) (rv un) (((((((kf).ext gb).tch gn (fun k hk => gh k hk)).ext gy).ext u6).tch ue (fun k hk => ub k hk)).ext uo) (ur.size) uq us.1 us.2 (by decide) (fun ut uu uv => ?_); have uw := uv.tchM (((((((kf).ext gb).tch gn (fun k hk => gh k hk)).ext gy).ext u6).tch ue (fun k hk => ub k hk)).ext uo) ur (Nat.le_refl _); refine asg (rv ut) (L_nil (block_n (then_n (W_region ?_)))); obtain ⟨ux, hr⟩ := chk_some hr; exact ad kg (rv (vi 1)) ux (mv (rv (vi (k7 + 1))) (nn ⟨k8, Nat.lt_succ_self _, ⟨uu, ut, (k6 ++ ([(⟨k7, km, ([g3.Peer] : List Int)⟩ : Block)] : List Block)), (k7 + 1), rfl, uw, (kd.trans (gb.le.trans (gn.le.trans (gy.le.trans (u6.le.trans (ue.le.trans (uo.le.trans uv.tch.le))))))), hr, rfl, uv.bld, rfl, kh, ki, kj, kk⟩⟩))
    ·have hr := ite_f kl hr; refine W_exit (then_x (then_x (block_here ?_))); exact then_n ⟨kb, k5, k6, rfl, kc, kd, Option.some.inj hr, ke, kf⟩
  ·rintro k5 k6 ⟨k7, k3, k4, rfl, k8, k9, k1, ka, kb⟩; subst k1; have hr := k2; (try dsimp only at hr); refine then_n (sr (mv ka (asg (rv k3) (asg (rv (vi 0)) (nn (W_ret ?_)))))); obtain rfl := Option.some.inj hr; exact done2 (Or.inl rfl) Try.results24 rfl rfl ⟨_, _, rfl, rfl, k8, _, _, rfl, (kb).toV, Vint⟩

theorem slices_IndexFunc_Ldead_Block_dead_Block_ok (N : Nat) (s0 : St) (w0 : Value) (a0 : List Block) (h0 : V s0 w0 a0) (w1 : Value) (a1 : Block → Option Bool) (h1 : Fn1 Try.prog s0 w1 a1) (r : Int) (hr : slices_IndexFunc_Ldead_Block_dead_Block N a0 a1 = some r) :
    Calls Try.prog 77 #[w0, w1] s0.w (Ret s0 fun v s => V s v r) := by
 unfold slices_IndexFunc_Ldead_Block_dead_Block at hr
 have j0 := Ext.refl s0
 refine Calls_of (n := 19) (args := [w0, w1]) Try.func77 rfl rfl (by simp) (sr (asg (rv (vi 0)) (nn (W_seq (sr (mv (rv w0) (ln Try.underlying53 (rv w0) h0 (mv (rv (vi 0)) (nn ?_)))))))))
 obtain ⟨j1, j2, j3⟩ := bind_some hr
 refine W_cut (fun f w => ∃ (s : St), s.w = w ∧ Ext s0 s ∧ Le s0 s ∧ Sum.inl () = j1) ?_ ?_
 ·refine W_block (W_loop (fun m f w => ∃ (s : St) (j4 : Int), s.w = w ∧ Ext s0 s ∧ Le s0 s ∧ slices_IndexFunc_Ldead_Block_dead_Block_l1 N a0 a1 m j4 = some j1 ∧ f 8 = vi j4 ∧ f 0 = w0 ∧ f 1 = w1 ∧ f 7 = vi ((a0.length : Int))) N ⟨s0, 0, rfl, j0, (Le.refl _), j2, rfl, rfl, rfl, rfl⟩ ?_)
  rintro j5 j6 j7 ⟨j8, j4, rfl, j9, ja, hr, jb, jc, jd, je⟩
  cases j5 with
  | zero => exact absurd hr (by simp [slices_IndexFunc_Ldead_Block_dead_Block_l1])
  | succ j5 =>
   rw [slices_IndexFunc_Ldead_Block_dead_Block_l1.eq_2] at hr
   refine sr (ls jb je (nn (W_seq ?_)))
   refine W_cond _ (rv (vb (decide (j4 < (a0.length : Int))))) (fun jf => ?_) (fun jf => ?_)
   ·have hr := ite_t jf hr
    refine W_skip (then_n (W_seq (W_block (sr (mv jb (asg (rv (vi j4)) (nn (sr (mv jd (mv jc (mv (rv (vi j4)) ?_)))))))))))
    obtain ⟨jg, jh, hr⟩ := bind_some hr
    refine ix Try.underlying53 ty58.inf (rv w0) (h0.mono ja) (rv (vi j4)) jh (fun ji jj => ld ty58 (rv ji) jj (fun jk jl => ?_))
    obtain ⟨jm, jn, hr⟩ := bind_some hr
    refine L_call1 (rv w1) (h1.mono ja) (rv jk) jl jn (by decide) (fun jo jp jq jr => ?_)
    have js := Tch.ext j9 jq
    obtain rfl := jr.bool
    refine nn ?_
    refine W_cond _ (rv (vb jm)) (fun jt => ?_) (fun jt => ?_)
    ·have hr := ite_t jt hr; refine sr (mv (rv (vi j4)) (asg (rv (vi j4)) (nn (W_ret (block_r (then_r (then_r (block_r ?_)))))))); obtain rfl := Option.some.inj hr; have hr := j3; (try dsimp only at hr); refine then_r (then_r ?_); obtain rfl := Option.some.inj hr; exact done1 (Or.inl rfl) Try.results77 rfl ⟨_, _, rfl, rfl, js, Vint⟩
    ·have hr := ite_f jt hr; refine W_skip (block_n (then_n (W_region ?_))); obtain ⟨ju, hr⟩ := chk_some hr; exact ad jb (rv (vi 1)) ju (mv (rv (vi (j4 + 1))) (nn ⟨j5, Nat.lt_succ_self _, ⟨jp, (j4 + 1), rfl, js, (ja.trans jq.le), hr, rfl, jc, jd, je⟩⟩))
   ·have hr := ite_f jf hr; refine W_exit (then_x (then_x (block_here ?_))); exact then_n ⟨j8, rfl, j9, ja, Option.some.inj hr⟩
 ·rintro j4 j5 ⟨j6, rfl, j7, j8, j2⟩; subst j2; have hr := j3; (try dsimp only at hr); refine then_n (sr (asg (rv (vi (-1))) (nn (W_ret ?_)))); obtain rfl := Option.some.inj hr; exact done1 (Or.inl rfl) Try.results77 rfl ⟨_, _, rfl, rfl, j7, Vint⟩

theorem slices_ContainsFunc_Ldead_Block_dead_Block_ok (N : Nat) (s0 : St) (w0 : Value) (a0 : List Block) (h0 : V s0 w0 a0) (w1 : Value) (a1 : Block → Option Bool) (h1 : Fn1 Try.prog s0 w1 a1) (r : Bool) (hr : slices_ContainsFunc_Ldead_Block_dead_Block N a0 a1 = some r) :
    Calls Try.prog 52 #[w0, w1] s0.w (Ret s0 fun v s => V s v r) := by
 unfold slices_ContainsFunc_Ldead_Block_dead_Block at hr
 have j0 := Ext.refl s0
 refine Calls_of (n := 9) (args := [w0, w1]) Try.func52 rfl rfl (by simp) (sr (asg (rv (vb false)) (nn (sr (mv (rv w0) (mv (rv w1) ?_))))))
 obtain ⟨j1, j2, hr⟩ := bind_some hr
 refine L_calls cal77 (args2 (rv w0) (rv w1)) (slices_IndexFunc_Ldead_Block_dead_Block_ok N _ _ _ h0 _ a1 h1 j1 j2) (by decide) (fun j3 j4 j5 j6 => ?_)
 have j7 := Tch.ext j0 j5
 obtain rfl := j6.int
 refine L_geq (rv (vi j1)) (rv (vi 0)) (by decide) (asg (rv (vb (decide (0 ≤ j1)))) (nn (W_ret ?_)))
 obtain rfl := Option.some.inj hr
 exact done1 (Or.inl rfl) Try.results52 rfl ⟨_, _, rfl, rfl, j7, Vbool⟩

theorem dead_Cycle_1_ok (N : Nat) (s0 : St) (w0 : Value) (a0 : Block) (h0 : V s0 w0 a0) (w1 : Value) (a1 : Int) (h1 : Ptr s0 w1 a1) (r : Bool) (hr : dead_Cycle_1 N a0 a1 = some r) :
    Calls Try.prog 53 #[w0, w1] s0.w (Ret s0 fun v s => V s v r) := by
 unfold dead_Cycle_1 at hr
 have j0 := Ext.refl s0
 refine Calls_of (n := 8) (args := [w0, w1]) Try.func53 rfl rfl (by simp) (sr (L_box (rv w0) h0 (by decide) (fun j1 j2 j3 j4 => ?_)))
 have j5 := Tch.ext j0 j3
 refine asg (rv (vb false)) (nn (sr (fa fld58_0 Block.of_Process (rv j2) j4 (fun j6 j7 => li ty3 (rv j6) j7 (li ty3 (rv w1) (h1.mono j3.le) (el (rv (vi (a0.Proc))) (rv (vi a1)) (asg (rv (vb (decide (a0.Proc = a1)))) (nn (W_ret ?_)))))))))
 obtain rfl := Option.some.inj hr
 exact done1 (Or.inl rfl) Try.results53 rfl ⟨_, _, rfl, rfl, j5, Vbool⟩

theorem slices_Index_Lint_int_ok (N : Nat) (s0 : St) (w0 : Value) (a0 : List Int) (h0 : V s0 w0 a0) (a1 : Int) (r : Int) (hr : slices_Index_Lint_int N a0 a1 = some r) :
    Calls Try.prog 55 #[w0, .int .i64 a1] s0.w (Ret s0 fun v s => V s v r) := by
 unfold slices_Index_Lint_int at hr
 have j0 := Ext.refl s0
 refine Calls_of (n := 19) (args := [w0, .int .i64 a1]) Try.func55 rfl rfl (by simp) (sr (asg (rv (vi 0)) (nn (W_seq (sr (mv (rv w0) (ln Try.underlying23 (rv w0) h0 (mv (rv (vi 0)) (nn ?_)))))))))
 obtain ⟨j1, j2, j3⟩ := bind_some hr
 refine W_cut (fun f w => ∃ (s : St), s.w = w ∧ Ext s0 s ∧ Le s0 s ∧ Sum.inl () = j1) ?_ ?_
 ·refine W_block (W_loop (fun m f w => ∃ (s : St) (j4 : Int), s.w = w ∧ Ext s0 s ∧ Le s0 s ∧ slices_Index_Lint_int_l1 N a0 a1 m j4 = some j1 ∧ f 8 = vi j4 ∧ f 0 = w0 ∧ f 1 = vi (a1) ∧ f 7 = vi ((a0.length : Int))) N ⟨s0, 0, rfl, j0, (Le.refl _), j2, rfl, rfl, rfl, rfl⟩ ?_)
  rintro j5 j6 j7 ⟨j8, j4, rfl, j9, ja, hr, jb, jc, jd, je⟩
  cases j5 with
  | zero => exact absurd hr (by simp [slices_Index_Lint_int_l1])
  | succ j5 =>
   rw [slices_Index_Lint_int_l1.eq_2] at hr
   refine sr (ls jb je (nn (W_seq ?_)))
   refine W_cond _ (rv (vb (decide (j4 < (a0.length : Int))))) (fun jf => ?_) (fun jf => ?_)
   ·have hr := ite_t jf hr
    refine W_skip (then_n (W_seq (W_block (sr (mv jb (asg (rv (vi j4)) (nn (sr (mv jd (mv jc (mv (rv (vi j4)) ?_)))))))))))
    obtain ⟨jg, jh, hr⟩ := bind_some hr
    refine ix Try.underlying23 ty3.inf (rv w0) (h0.mono ja) (rv (vi j4)) jh (fun ji jj => li ty3 (rv ji) jj (el (rv (vi a1)) (rv (vi jg)) (nn ?_)))
    refine W_cond _ (rv (vb (decide (a1 = jg)))) (fun jk => ?_) (fun jk => ?_)
    ·have hr := ite_t jk hr; refine sr (mv (rv (vi j4)) (asg (rv (vi j4)) (nn (W_ret (block_r (then_r (then_r (block_r ?_)))))))); obtain rfl := Option.some.inj hr; have hr := j3; (try dsimp only at hr); refine then_r (then_r ?_); obtain rfl := Option.some.inj hr; exact done1 (Or.inl rfl) Try.results55 rfl ⟨_, _, rfl, rfl, j9, Vint⟩
    ·have hr := ite_f jk hr; refine W_skip (block_n (then_n (W_region ?_))); obtain ⟨jl, hr⟩ := chk_some hr; exact ad jb (rv (vi 1)) jl (mv (rv (vi (j4 + 1))) (nn ⟨j5, Nat.lt_succ_self _, ⟨j8, (j4 + 1), rfl, j9, ja, hr, rfl, jc, jd, je⟩⟩))
   ·have hr := ite_f jf hr; refine W_exit (then_x (then_x (block_here ?_))); exact then_n ⟨j8, rfl, j9, ja, Option.some.inj hr⟩
 ·rintro j4 j5 ⟨j6, rfl, j7, j8, j2⟩; subst j2; have hr := j3; (try dsimp only at hr); refine then_n (sr (asg (rv (vi (-1))) (nn (W_ret ?_)))); obtain rfl := Option.some.inj hr; exact done1 (Or.inl rfl) Try.results55 rfl ⟨_, _, rfl, rfl, j7, Vint⟩

theorem slices_Contains_Lint_int_ok (N : Nat) (s0 : St) (w0 : Value) (a0 : List Int) (h0 : V s0 w0 a0) (a1 : Int) (r : Bool) (hr : slices_Contains_Lint_int N a0 a1 = some r) :
    Calls Try.prog 54 #[w0, .int .i64 a1] s0.w (Ret s0 fun v s => V s v r) := by
 unfold slices_Contains_Lint_int at hr
 have j0 := Ext.refl s0
 refine Calls_of (n := 9) (args := [w0, .int .i64 a1]) Try.func54 rfl rfl (by simp) (sr (asg (rv (vb false)) (nn (sr (mv (rv w0) (mv (rv (vi a1)) ?_))))))
 obtain ⟨j1, j2, hr⟩ := bind_some hr
 refine L_calls cal55 (args2 (rv w0) (rv (vi a1))) (slices_Index_Lint_int_ok N _ _ _ h0 a1 j1 j2) (by decide) (fun j3 j4 j5 j6 => ?_)
 have j7 := Tch.ext j0 j5
 obtain rfl := j6.int
 refine L_geq (rv (vi j1)) (rv (vi 0)) (by decide) (asg (rv (vb (decide (0 ≤ j1)))) (nn (W_ret ?_)))
 obtain rfl := Option.some.inj hr
 exact done1 (Or.inl rfl) Try.results54 rfl ⟨_, _, rfl, rfl, j7, Vbool⟩

theorem slices_Min_Lint_int_ok (N : Nat) (s0 : St) (w0 : Value) (a0 : List Int) (h0 : V s0 w0 a0) (r : Int) (hr : slices_Min_Lint_int N a0 = some r) :
    Calls Try.prog 56 #[w0] s0.w (Ret s0 fun v s => V s v r) := by
 unfold slices_Min_Lint_int at hr
 have j0 := Ext.refl s0
 refine Calls_of (n := 25) (args := [w0]) Try.func56 rfl rfl (by simp) (sr (asg (rv (vi 0)) (nn (W_seq (sr (mv (rv w0) (ln Try.underlying23 (rv w0) h0 (ls (rv (vi ((a0.length : Int)))) (rv (vi 1)) (nn ?_)))))))))
 refine W_cond _ (rv (vb (decide ((a0.length : Int) < 1)))) (fun j1 => ?_) (fun j1 => ?_)
 ·have hr := ite_t j1 hr
  refine W_region ?_
  cases hr
 ·have hr := ite_f j1 hr
  refine W_skip (then_n (sr (mv (rv w0) ?_)))
  obtain ⟨j2, j3, hr⟩ := bind_some hr
  refine ix Try.underlying23 ty3.inf (rv w0) h0 (rv (vi 0)) j3 (fun j4 j5 => li ty3 (rv j4) j5 (asg (rv (vi j2)) (nn (W_seq (sr (asg (rv (vi 1)) (nn ?_)))))))
  obtain ⟨j6, j7, j8⟩ := bind_some hr
  refine W_cut (fun f w => ∃ (s : St) (j9 : Int), s.w = w ∧ Ext s0 s ∧ Le s0 s ∧ j9 = j6 ∧ f 3 = vi j9) ?_ ?_
  ·refine W_block (W_loop (fun m f w => ∃ (s : St) (ja : Int) (jb : Int), s.w = w ∧ Ext s0 s ∧ Le s0 s ∧ slices_Min_Lint_int_l1 N a0 m ja jb = some j6 ∧ f 3 = vi ja ∧ f 4 = vi jb ∧ f 0 = w0) N ⟨s0, j2, 1, rfl, j0, (Le.refl _), j7, rfl, rfl, rfl⟩ ?_)
   rintro jc jd je ⟨jf, ja, jb, rfl, jg, jh, hr, ji, jj, jk⟩
   cases jc with
   | zero => exact absurd hr (by simp [slices_Min_Lint_int_l1])
   | succ jc =>
    rw [slices_Min_Lint_int_l1.eq_2] at hr
    refine W_seq (sr (mv jj (mv jk (ln Try.underlying23 (rv w0) (h0.mono jh) (ls (rv (vi jb)) (rv (vi ((a0.length : Int)))) (nn ?_))))))
    refine W_cond _ (rv (vb (decide (jb < (a0.length : Int))))) (fun jl => ?_) (fun jl => ?_)
    ·have hr := ite_t jl hr; refine W_skip (then_n (W_seq (W_block (W_region (mv ji (mv jk (mv jj ?_))))))); obtain ⟨jm, jn, hr⟩ := bind_some hr; refine ix Try.underlying23 ty3.inf (rv w0) (h0.mono jh) (rv (vi jb)) jn (fun jo jp => li ty3 (rv jo) jp (L_min (rv (vi ja)) (rv (vi jm)) (by decide) (asg (rv (vi (min ja jm))) (L_nil (block_n (then_n (W_region (mv jj ?_)))))))); obtain ⟨jq, hr⟩ := chk_some hr; exact ad (rv (vi jb)) (rv (vi 1)) jq (asg (rv (vi (jb + 1))) (nn ⟨jc, Nat.lt_succ_self _, ⟨jf, (min ja jm), (jb + 1), rfl, jg, jh, hr, rfl, rfl, jk⟩⟩))
    ·have hr := ite_f jl hr; refine W_exit (then_x (then_x (block_here ?_))); exact then_n ⟨jf, ja, rfl, jg, jh, Option.some.inj hr, ji⟩
  ·rintro ja jb ⟨jc, j9, rfl, jd, je, j7, jf⟩; subst j7; have hr := j8; (try dsimp only at hr); refine then_n (sr (mv jf (asg (rv (vi j9)) (nn (W_ret ?_))))); obtain rfl := Option.some.inj hr; exact done1 (Or.inl rfl) Try.results56 rfl ⟨_, _, rfl, rfl, jd, Vint⟩

theorem slices_Grow_Lint_int_ok (N : Nat) (s0 : St) (a1 : Int) (r : (List Int)) (hr : slices_Grow_Lint_int N a1 = some r) :
    Calls Try.prog 78 #[.slice none 0 0, .int .i64 a1] s0.w (Ret s0 fun v s => Bld s s0.w.heap.size 3 v r) := by
 unfold slices_Grow_Lint_int at hr
 have j0 := Ext.refl s0
 refine Calls_of (n := 27) (args := [.slice none 0 0, .int .i64 a1]) Try.func78 rfl rfl (by simp) (sr (asg (rv (Value.slice none 0 0)) (nn (W_seq (sr (mv (rv (vi a1)) (ls (rv (vi a1)) (rv (vi 0)) (nn ?_))))))))
 refine W_cond _ (rv (vb (decide (a1 < 0)))) (fun j1 => ?_) (fun j1 => ?_)
 ·have hr := ite_t j1 hr
  refine W_region ?_
  cases hr
 ·have hr := ite_f j1 hr
  refine W_skip (then_n (W_seq (sr (mv (rv (vi a1)) (mv (rv (Value.slice none 0 0)) (L_capNil Try.underlying23 (rv (Value.slice none 0 0)) (by decide) (mv (rv (Value.slice none 0 0)) (L_lenA Try.underlying23 (rv (Value.slice none 0 0)) (by decide) ?_))))))))
  obtain ⟨j2, hr⟩ := chk_some hr
  refine L_sub (rv (vi 0)) (rv (vi (((0 : Nat) : Int)))) j2 (by decide) ?_
  obtain ⟨j3, hr⟩ := chk_some hr
  refine L_sub (rv (vi a1)) (rv (vi (0 - ((0 : Nat) : Int)))) j3 (by decide) (asg (rv (vi (a1 - (0 - ((0 : Nat) : Int))))) (nn (sr (mv (rv (vi (a1 - (0 - ((0 : Nat) : Int))))) (L_gtr (rv (vi (a1 - (0 - ((0 : Nat) : Int))))) (rv (vi 0)) (by decide) (nn ?_))))))
  refine W_cond _ (rfl : _ = vb (decide (0 < (a1 - (0 - ((0 : Nat) : Int)))))) (fun j4 => ?_) (fun j4 => ?_)
  ·have hr := ite_t j4 hr; refine W_region (mv (rv (Value.slice none 0 0)) (mv (rv (Value.slice none 0 0)) (L_capNil Try.underlying23 (rv (Value.slice none 0 0)) (by decide) ?_))); obtain ⟨j5, hr⟩ := chk_some hr; refine L_sliceNil Try.underlying23 ty3.inf (rv (Value.slice none 0 0)) (rv (vi 0)) j5 (by decide) (mv (rv (vi (a1 - (0 - ((0 : Nat) : Int))))) ?_); obtain ⟨j6, hr⟩ := chk_some hr; refine L_growNil (α := Int) Try.underlying23 Try.underlying3 tyz3 (rv (Value.slice none 0 0)) (rv (vi (a1 - (0 - ((0 : Nat) : Int))))) j6.1 j6.2.1 j6.2.2 (by decide) (fun j7 j8 j9 ja jb => ?_); have jc := Tch.ext j0 ja; refine mv (rv (Value.slice none 0 0)) (L_lenA Try.underlying23 (rv (Value.slice none 0 0)) (by decide) ?_); obtain ⟨jd, hr⟩ := chk_some hr; refine L_slice0 Try.underlying23 ty3.inf (rfl : _ = (Value.slice (some ⟨j8, 0, none⟩) (a1 - (0 - ((0 : Nat) : Int))).toNat j9)) (rv (vi (((0 : Nat) : Int)))) jd (by decide) (asg (rv ((Value.slice (some ⟨j8, 0, none⟩) 0 j9))) (nn (sr (mv (rv ((Value.slice (some ⟨j8, 0, none⟩) 0 j9))) (asg (rv ((Value.slice (some ⟨j8, 0, none⟩) 0 j9))) (nn (W_ret ?_))))))); obtain rfl := Option.some.inj hr; exact done1 (Or.inl rfl) Try.results78 rfl ⟨_, _, rfl, rfl, jc, (jb.base j0.size)⟩
  ·have hr := ite_f j4 hr; refine W_skip (then_n (sr (mv (rv (Value.slice none 0 0)) (asg (rv (Value.slice none 0 0)) (nn (W_ret ?_)))))); obtain rfl := Option.some.inj hr; exact done1 (Or.inl rfl) Try.results78 rfl ⟨_, _, rfl, rfl, j0, Bld.nil⟩

theorem slices_Concat_Lint_int_ok (N : Nat) (s0 : St) (w0 : Value) (a0 : List (List Int)) (h0 : V s0 w0 a0) (r : (List Int)) (hr : slices_Concat_Lint_int N a0 = some r) :
    Calls Try.prog 57 #[w0] s0.w (Ret s0 fun v s => V s v r) := by
 unfold slices_Concat_Lint_int at hr
 have j0 := Ext.refl s0
 refine Calls_of (n := 36) (args := [w0]) Try.func57 rfl rfl (by simp) (sr (asg (rv (Value.slice none 0 0)) (nn (sr (asg (rv (vi 0)) (nn (W_seq (sr (mv (rv w0) (ln Try.underlying108 (rv w0) h0 (mv (rv (vi 0)) (nn ?_))))))))))))
 obtain ⟨j1, j2, j3⟩ := bind_some hr
 refine W_cut (fun f w => ∃ (s : St) (j4 : Int), s.w = w ∧ Ext s0 s ∧ Le s0 s ∧ j4 = j1 ∧ f 3 = vi j4 ∧ f 0 = w0) ?_ ?_
 ·refine W_block (W_loop (fun m f w => ∃ (s : St) (j5 : Int) (j6 : Int), s.w = w ∧ Ext s0 s ∧ Le s0 s ∧ slices_Concat_Lint_int_l1 N a0 m j5 j6 = some j1 ∧ f 3 = vi j5 ∧ f 11 = vi j6 ∧ f 0 = w0 ∧ f 9 = w0 ∧ f 10 = vi ((a0.length : Int))) N ⟨s0, 0, 0, rfl, j0, (Le.refl _), j2, rfl, rfl, rfl, rfl, rfl⟩ ?_)
  rintro j7 j8 j9 ⟨ja, j5, j6, rfl, jb, jc, hr, jd, je, jf, jg, jh⟩
  cases j7 with
  | zero => exact absurd hr (by simp [slices_Concat_Lint_int_l1])
  | succ j7 =>
   rw [slices_Concat_Lint_int_l1.eq_2] at hr
   refine sr (ls je jh (nn (W_seq ?_)))
   refine W_cond _ (rv (vb (decide (j6 < (a0.length : Int))))) (fun ji => ?_) (fun ji => ?_)
   ·have hr := ite_t ji hr
    refine W_skip (then_n (W_seq (W_block (sr ?_))))
    obtain ⟨jj, jk, hr⟩ := bind_some hr
    refine ix Try.underlying108 ty23.inf jg (h0.mono jc) je jk (fun jl jm => ld ty23 (rv jl) jm (fun jn jo => asg (rv jn) (nn (sr (mv jd (mv (rv jn) (ln Try.underlying23 (rv jn) jo ?_)))))))
    obtain ⟨jp, hr⟩ := chk_some hr
    refine ad (rv (vi j5)) (rv (vi ((jj.length : Int)))) jp (asg (rv (vi (j5 + (jj.length : Int)))) (nn (sr (mv (rv (vi (j5 + (jj.length : Int)))) (ls (rv (vi (j5 + (jj.length : Int)))) (rv (vi 0)) (nn ?_))))))
    refine W_cond _ (rv (vb (decide ((j5 + (jj.length : Int)) < 0)))) (fun jq => ?_) (fun jq => ?_)
    ·have hr := ite_t jq hr
     refine W_region ?_
     cases hr
    ·have hr := ite_f jq hr; refine W_skip (block_n (then_n (W_region ?_))); obtain ⟨jr, hr⟩ := chk_some hr; exact ad je (rv (vi 1)) jr (mv (rv (vi (j6 + 1))) (nn ⟨j7, Nat.lt_succ_self _, ⟨ja, (j5 + (jj.length : Int)), (j6 + 1), rfl, jb, jc, hr, rfl, rfl, jf, jg, jh⟩⟩))
   ·have hr := ite_f ji hr; refine W_exit (then_x (then_x (block_here ?_))); exact then_n ⟨ja, j5, rfl, jb, jc, Option.some.inj hr, jd, jf⟩
 ·rintro j5 j6 ⟨j7, j4, rfl, j8, j9, j2, ja, jb⟩
  subst j2
  have hr := j3
  try dsimp only at hr
  refine then_n (sr (mv ja ?_))
  obtain ⟨jc, jd, hr⟩ := bind_some hr
  refine L_calls cal78 (args2 (rv (Value.slice none 0 0)) (rv (vi j4))) (slices_Grow_Lint_int_ok N _ j4 jc jd) (by decide) (fun je jf jg jh => ?_)
  have ji := Tch.ext j8 jg
  refine asg (rv je) (nn (W_seq (sr (mv jb (ln Try.underlying108 (rv w0) (h0.mono (j9.trans jg.le)) (mv (rv (vi 0)) (nn ?_)))))))
  obtain ⟨jj, jk, jl⟩ := bind_some hr
  refine W_cut (fun f w => ∃ (s : St) (jm : Value) (jn : List Int), s.w = w ∧ Ext s0 s ∧ Le jf s ∧ jn = jj ∧ f 6 = jm ∧ Bld s s0.w.heap.size 3 jm jn) ?_ ?_
  ·refine W_block (W_loop (fun m f w => ∃ (s : St) (jo : Value) (jp : List Int) (jq : Int), s.w = w ∧ Ext s0 s ∧ Le jf s ∧ slices_Concat_Lint_int_l2 N a0 m jp jq = some jj ∧ f 6 = jo ∧ Bld s s0.w.heap.size 3 jo jp ∧ f 27 = vi jq ∧ f 25 = w0 ∧ f 26 = vi ((a0.length : Int))) N ⟨jf, je, jc, 0, rfl, ji, (Le.refl _), jk, rfl, (jh.base j8.size), rfl, rfl, rfl⟩ ?_)
   rintro jr js jt ⟨ju, jo, jp, jq, rfl, jv, jw, hr, jx, jy, jz, k0, k1⟩
   cases jr with
   | zero => exact absurd hr (by simp [slices_Concat_Lint_int_l2])
   | succ jr =>
    rw [slices_Concat_Lint_int_l2.eq_2] at hr
    refine sr (ls jz k1 (nn (W_seq ?_)))
    refine W_cond _ (rv (vb (decide (jq < (a0.length : Int))))) (fun k2 => ?_) (fun k2 => ?_)
    ·have hr := ite_t k2 hr; refine W_skip (then_n (W_seq (W_block (sr ?_)))); obtain ⟨k3, k4, hr⟩ := bind_some hr; refine ix Try.underlying108 ty23.inf k0 (h0.mono (j9.trans (jg.le.trans jw))) jz k4 (fun k5 k6 => ld ty23 (rv k5) k6 (fun k7 k8 => asg (rv k7) (nn (W_region (mv jx (mv (rv k7) ?_)))))); obtain ⟨k9, hr⟩ := chk_some hr; refine L_append (xs := jp) (B := s0.w.heap.size) Try.underlying23 tyz3 (rv jo) (rv k7) (jy) (jv.size) k8 k9.1 k9.2 (by decide) (fun ka kb kc => ?_); have kd := kc.tchM (jy) jv (Nat.le_refl _); refine asg (rv ka) (L_nil (block_n (then_n (W_region ?_)))); obtain ⟨ke, hr⟩ := chk_some hr; exact ad jz (rv (vi 1)) ke (mv (rv (vi (jq + 1))) (nn ⟨jr, Nat.lt_succ_self _, ⟨kb, ka, (jp ++ k3), (jq + 1), rfl, kd, (jw.trans kc.tch.le), hr, rfl, kc.bld, rfl, k0, k1⟩⟩))
    ·have hr := ite_f k2 hr; refine W_exit (then_x (then_x (block_here ?_))); exact then_n ⟨ju, jo, jp, rfl, jv, jw, Option.some.inj hr, jx, jy⟩
  ·rintro jo jp ⟨jq, jm, jn, rfl, jr, js, jk, jt, ju⟩; subst jk; have hr := jl; (try dsimp only at hr); refine then_n (sr (mv jt (asg (rv jm) (nn (W_ret ?_))))); obtain rfl := Option.some.inj hr; exact done1 (Or.inl rfl) Try.results57 rfl ⟨_, _, rfl, rfl, jr, (ju).toV⟩

theorem dead_Cycle_ok (N : Nat) (s0 : St) (w0 : Value) (a0 : List (List Deed)) (h0 : V s0 w0 a0) (a1 : Int) (r : (List Int) × Int) (hr : dead_Cycle N a0 a1 = some r) :
    Calls Try.prog 25 #[w0, .int .i64 a1] s0.w (Ret s0 fun v s => ∃ a b, v = .tuple #[a, b] ∧ V s a r.1 ∧ V s b r.2) := by
 unfold dead_Cycle at hr
 have j0 := Ext.refl s0
 refine Calls_of (n := 95) (args := [w0, .int .i64 a1]) Try.func25 rfl rfl (by simp) (sr (asg (rv (Value.slice none 0 0)) (asg (rv (vi 0)) (nn (sr (mv (rv w0) (mv (rv (vi a1)) ?_)))))))
 obtain ⟨j1, j2, hr⟩ := bind_some hr
 refine L_calls cal24 (args2 (rv w0) (rv (vi a1))) (dead_Blocks_ok N _ _ _ h0 a1 j1 j2) (by decide) (fun j3 j4 j5 j6 => ?_)
 have j7 := Tch.ext j0 j5
 obtain ⟨j8, j9, rfl, ja, jb⟩ := j6
 obtain rfl := jb.int
 refine mv (rv (Value.tuple #[j8, vi (j1.2)])) (xt (rv (Value.tuple #[j8, vi (j1.2)])) (k := 0) rfl (xt (rv (Value.tuple #[j8, vi (j1.2)])) (k := 1) rfl (asg (rv j8) (asg (rv (vi (j1.2))) (nn (W_seq (sr (mv (rv (vi (j1.2))) (ne (rv (vi (j1.2))) (rv (vi 0)) (nn ?_))))))))))
 refine W_cond _ (rv (vb (!decide (j1.2 = 0)))) (fun jc => ?_) (fun jc => ?_)
 ·have hr := ite_t jc hr; refine sr (mv (rv (vi (j1.2))) (asg (rv (Value.slice none 0 0)) (asg (rv (vi (j1.2))) (nn (W_ret (then_r ?_)))))); obtain rfl := Option.some.inj hr; exact done2 (Or.inl rfl) Try.results25 rfl rfl ⟨_, _, rfl, rfl, j7, _, _, rfl, Vnil, Vint⟩
 ·have hr := ite_f jc hr
  refine W_skip (then_n (sr (L_makeMap (β := Int) (by decide) (fun jd je jf jg jh => ?_))))
  have ji := Tch.ext j7 jf
  refine asg (rv (Value.map (some je))) (nn (W_seq (sr (mv (rv j8) (ln Try.underlying53 (rv j8) (ja.mono jf.le) (mv (rv (vi 0)) (nn ?_)))))))
  obtain ⟨jj, jk, jl⟩ := bind_some hr
  refine W_cut (fun f w => ∃ (s : St) (jm : List (Int × Int)), s.w = w ∧ Ext s0 s ∧ Le jd s ∧ jm = jj ∧ f 6 = j8 ∧ f 8 = Value.map (some je) ∧ MapX s je jm) ?_ ?_
  ·refine W_block (W_loop (fun m f w => ∃ (s : St) (jn : Int) (jo : List (Int × Int)), s.w = w ∧ Ext s0 s ∧ Le jd s ∧ dead_Cycle_l1 N j1 m jn jo = some jj ∧ f 31 = vi jn ∧ f 6 = j8 ∧ f 8 = Value.map (some je) ∧ f 29 = j8 ∧ f 30 = vi ((j1.1.length : Int)) ∧ MapX s je jo) N ⟨jd, 0, ([] : List (Int × Int)), rfl, ji, (Le.refl _), jk, rfl, rfl, rfl, rfl, rfl, jh⟩ ?_)
   rintro jp jq jr ⟨js, jn, jo, rfl, jt, ju, hr, jv, jw, jx, jy, jz, k0⟩
   cases jp with
   | zero => exact absurd hr (by simp [dead_Cycle_l1])
   | succ jp =>
    rw [dead_Cycle_l1.eq_2] at hr
    refine sr (ls jv jz (nn (W_seq ?_)))
    refine W_cond _ (rv (vb (decide (jn < (j1.1.length : Int))))) (fun k1 => ?_) (fun k1 => ?_)
    ·have hr := ite_t k1 hr
     refine W_skip (then_n (W_seq (W_block (sr ?_))))
     obtain ⟨k2, k3, hr⟩ := bind_some hr
     refine ix Try.underlying53 ty58.inf jy (ja.mono (jf.le.trans ju)) jv k3 (fun k4 k5 => ld ty58 (rv k4) k5 (fun k6 k7 => L_alloc (α := Block) (x := ⟨0, 0, []⟩) zero58 Block.zero_rel (by decide) (fun k8 k9 ka kb kc => ?_)))
     have kd := Tch.ext jt ka
     have ke : ∀ k, (fun k => k = je) k → ¬ (fun k => k = k9) k := fun k kf kg => by have kh := (fun k (hk : k = je) => lt_at hk (k0).lt) k kf; have ki := kb; subst kg; omega
     refine L_store_ro ty58 (rv (Value.pointer (some ⟨k9, 0, none⟩))) (rv k6) (k7.mono ka.le) (kc) (fun kj kk kl => ?_)
     have km := Tch.trans kd kk (fun k hk => Or.inr (by subst hk; exact (Nat.le_trans jt.size kb)))
     refine nn (sr (fa fld58_2 Block.of_For (rv (Value.pointer (some ⟨k9, 0, none⟩))) kl (fun kn ko => ld ty23 (rv kn) ko (fun kp kq => ln Try.underlying23 (rv kp) kq (mv (rv (vi 0)) (nn ?_))))))
     obtain ⟨kr, ks, kt⟩ := bind_some hr
     refine W_cut (fun f w => ∃ (s : St) (ku : List (Int × Int)), s.w = w ∧ Ext s0 s ∧ Le kj s ∧ ku = kr ∧ f 6 = j8 ∧ f 8 = Value.map (some je) ∧ f 29 = j8 ∧ f 30 = vi ((j1.1.length : Int)) ∧ f 31 = vi (jn) ∧ MapX s je ku) ?_ ?_
     ·refine W_block (W_loop (fun m f w => ∃ (s : St) (kv : Int) (kw : List (Int × Int)), s.w = w ∧ Ext s0 s ∧ Le kj s ∧ dead_Cycle_l2 N j1 k2 m kv kw = some kr ∧ f 38 = vi kv ∧ f 6 = j8 ∧ f 8 = Value.map (some je) ∧ f 10 = Value.pointer (some ⟨k9, 0, none⟩) ∧ f 29 = j8 ∧ f 30 = vi ((j1.1.length : Int)) ∧ f 31 = vi (jn) ∧ f 36 = kp ∧ f 37 = vi ((k2.For.length : Int)) ∧ MapX s je kw) N ⟨kj, 0, jo, rfl, km, (Le.refl _), ks, rfl, jw, jx, rfl, jy, jz, jv, rfl, rfl, ((k0).ext ka).tch kk ((fun k hk => ke k hk) je rfl)⟩ ?_)
      rintro kx ky kz ⟨g0, kv, kw, rfl, g1, g2, hr, g3, g4, g5, g6, g7, g8, g9, ga, gb, gc⟩
      cases kx with
      | zero => exact absurd hr (by simp [dead_Cycle_l2])
      | succ kx =>
       rw [dead_Cycle_l2.eq_2] at hr
       refine sr (ls g3 gb (nn (W_seq ?_)))
       refine W_cond _ (rv (vb (decide (kv < (k2.For.length : Int))))) (fun gd => ?_) (fun gd => ?_)
       ·have hr := ite_t gd hr
        refine W_skip (then_n (W_seq (W_block (sr ?_))))
        obtain ⟨gg, gh, hr⟩ := bind_some hr
        refine ix Try.underlying23 ty3.inf ga (kq.mono g2) g3 gh (fun gi gj => li ty3 (rv gi) gj (L_alloc (α := Int) (x := 0) zero3 (fun _ => rfl) (by decide) (fun gk gl gm gn go => ?_)))
        have gp := Tch.ext g1 gm
        have gq : ∀ k, (fun k => k = je) k → ¬ (fun k => k = gl) k := fun k kf kg => by have kh := (fun k (hk : k = je) => lt_at hk (gc).lt) k kf; have ki := gn; subst kg; omega
        refine L_store_ro ty3 (rv (Value.pointer (some ⟨gl, 0, none⟩))) (rv (vi gg)) Vint (go) (fun gr gs gu => ?_)
        have gv := Tch.trans gp gs (fun k hk => Or.inr (by subst hk; exact (Nat.le_trans g1.size gn)))
        refine nn (sr (mv g4 (L_makeFunc (args1 (rv (Value.pointer (some ⟨gl, 0, none⟩)))) (by decide) ?_)))
        obtain ⟨gw, gx, hr⟩ := bind_some hr
        refine L_calls cal52 (args2 (rv j8) (rv (Value.func (.func 53) #[] #[Value.pointer (some ⟨gl, 0, none⟩)]))) (slices_ContainsFunc_Ldead_Block_dead_Block_ok N _ _ _ (ja.mono (jf.le.trans (ju.trans (ka.le.trans (kk.le.trans (g2.trans (gm.le.trans gs.le))))))) _ (fun x => dead_Cycle_1 N x gg) (Fn1.mk1 cal53 fun t vx x r hl hv hr => dead_Cycle_1_ok N t vx x hv _ _ ((gu).mono hl) r hr) gw gx) (by decide) (fun gy gz u0 u1 => ?_)
        have u2 := Tch.ext gv u0
        obtain rfl := u1.bool
        refine nn ?_
        refine W_cond _ (rv (vb gw)) (fun u3 => ?_) (fun u3 => ?_)
        ·have hr := ite_t u3 hr; refine sr (mv g5 (fa fld58_0 Block.of_Process g6 (kl.mono (g2.trans (gm.le.trans (gs.le.trans u0.le)))) (fun u4 u5 => li ty3 (rv u4) u5 (li ty3 (rv (Value.pointer (some ⟨gl, 0, none⟩))) (gu.mono u0.le) (L_mapUpdate (m := kw) Try.underlying92 Try.underlying3 (rv (Value.map (some je))) (rv (vi (k2.Proc))) (rv (vi gg)) ((((gc).ext gm).tch gs ((fun k hk => gq k hk) je rfl)).ext u0) (Vint : V _ _ (gg : Int)) (fun u6 u7 u9 => ?_)))))); have ua := Tch.trans u2 u7 (fun k hk => Or.inr (by subst hk; exact (Nat.le_trans j7.size jg))); refine nn (W_exit (block_x (by decide) (then_x (then_x (block_here ?_))))); exact then_n ⟨u6, (mset kw k2.Proc gg), rfl, ua, (g2.trans (gm.le.trans (gs.le.trans (u0.le.trans u7.le)))), Option.some.inj hr, g4, g5, g7, g8, g9, u9⟩
        ·have hr := ite_f u3 hr; refine W_skip (block_n (then_n (W_region ?_))); obtain ⟨u4, hr⟩ := chk_some hr; exact ad g3 (rv (vi 1)) u4 (mv (rv (vi (kv + 1))) (nn ⟨kx, Nat.lt_succ_self _, ⟨gz, (kv + 1), kw, rfl, u2, (g2.trans (gm.le.trans (gs.le.trans u0.le))), hr, rfl, g4, g5, g6, g7, g8, g9, ga, gb, (((gc).ext gm).tch gs ((fun k hk => gq k hk) je rfl)).ext u0⟩⟩))
       ·have hr := ite_f gd hr; refine W_exit (then_x (then_x (block_here ?_))); exact then_n ⟨g0, kw, rfl, g1, g2, Option.some.inj hr, g4, g5, g7, g8, g9, gc⟩
     ·rintro kv kw ⟨kx, ku, rfl, ky, kz, ks, g0, g1, g2, g3, g4, g5⟩; subst ks; have hr := kt; (try dsimp only at hr); refine block_n (then_n (W_region ?_)); obtain ⟨g6, hr⟩ := chk_some hr; exact ad g4 (rv (vi 1)) g6 (mv (rv (vi (jn + 1))) (nn ⟨jp, Nat.lt_succ_self _, ⟨kx, (jn + 1), ku, rfl, ky, (ju.trans (ka.le.trans (kk.le.trans kz))), hr, rfl, g0, g1, g2, g3, g5⟩⟩))
    ·have hr := ite_f k1 hr; refine W_exit (then_x (then_x (block_here ?_))); exact then_n ⟨js, jo, rfl, jt, ju, Option.some.inj hr, jw, jx, k0⟩
  ·rintro jn jo ⟨jp, jm, rfl, jq, jr, jk, js, jt, ju⟩
   subst jk
   have hr := jl
   try dsimp only at hr
   refine then_n (W_seq (sr (mv js (ln Try.underlying53 (rv j8) (ja.mono (jf.le.trans jr)) (mv (rv (vi 0)) (nn ?_))))))
   obtain ⟨jv, jw, jx⟩ := bind_some hr
   refine W_cut (fun f w => ∃ (s : St), s.w = w ∧ Ext s0 s ∧ Le jp s ∧ Sum.inl () = jv) ?_ ?_
   ·refine W_block (W_loop (fun m f w => ∃ (s : St) (jy : Int), s.w = w ∧ Ext s0 s ∧ Le jp s ∧ dead_Cycle_l3 N j1 jm m jy = some jv ∧ f 53 = vi jy ∧ f 8 = Value.map (some je) ∧ f 51 = j8 ∧ f 52 = vi ((j1.1.length : Int)) ∧ MapX s je jm) N ⟨jp, 0, rfl, jq, (Le.refl _), jw, rfl, jt, rfl, rfl, ju⟩ ?_)
    rintro jz k0 k1 ⟨k2, jy, rfl, k3, k4, hr, k5, k6, k7, k8, k9⟩
    cases jz with
    | zero => exact absurd hr (by simp [dead_Cycle_l3])
    | succ jz =>
     rw [dead_Cycle_l3.eq_2] at hr
     refine sr (ls k5 k8 (nn (W_seq ?_)))
     refine W_cond _ (rv (vb (decide (jy < (j1.1.length : Int))))) (fun ka => ?_) (fun ka => ?_)
     ·have hr := ite_t ka hr
      refine W_skip (then_n (W_seq (W_block (sr ?_))))
      obtain ⟨kb, kc, hr⟩ := bind_some hr
      refine ix Try.underlying53 ty58.inf k7 (ja.mono (jf.le.trans (jr.trans k4))) k5 kc (fun kd ke => ld ty58 (rv kd) ke (fun kf kg => L_alloc (α := Block) (x := ⟨0, 0, []⟩) zero58 Block.zero_rel (by decide) (fun kh ki kj kk kl => ?_)))
      have km := Tch.ext k3 kj
      have kn : ∀ k, (fun k => k = je) k → ¬ (fun k => k = ki) k := fun k ko kp => by have kq := (fun k (hk : k = je) => lt_at hk (k9).lt) k ko; have kr := kk; subst kp; omega
      refine L_store_ro ty58 (rv (Value.pointer (some ⟨ki, 0, none⟩))) (rv kf) (kg.mono kj.le) (kl) (fun ks kt ku => ?_)
      have kv := Tch.trans km kt (fun k hk => Or.inr (by subst hk; exact (Nat.le_trans k3.size kk)))
      refine nn (sr (asg (rv (Value.slice none 0 0)) (nn (sr (fa fld58_0 Block.of_Process (rv (Value.pointer (some ⟨ki, 0, none⟩))) ku (fun kw kx => li ty3 (rv kw) kx (asg (rv (vi (kb.Proc))) (asg (rv (vb true)) (nn (W_seq ?_))))))))))
      obtain ⟨ky, kz, g0⟩ := bind_some hr
      refine W_cut (fun f w => ∃ (s : St) (g1 : Value) (g2 : List Int) (g3 : Int) (g4 : Bool), s.w = w ∧ Ext s0 s ∧ Le ks s ∧ (g2, g3, g4) = ky ∧ f 15 = g1 ∧ Bld s s0.w.heap.size 3 g1 g2 ∧ f 16 = vi g3 ∧ f 17 = vb g4 ∧ f 8 = Value.map (some je) ∧ f 51 = j8 ∧ f 52 = vi ((j1.1.length : Int)) ∧ f 53 = vi (jy) ∧ MapX s je jm ∧ (∀ k, (own g1) k → ¬ (fun k => k = je) k)) ?_ ?_
      ·refine W_block (W_loop (fun m f w => ∃ (s : St) (g5 : Value) (g6 : List Int) (g7 : Int) (g8 : Bool), s.w = w ∧ Ext s0 s ∧ Le ks s ∧ dead_Cycle_l4 N jm m g6 g7 g8 = some ky ∧ f 15 = g5 ∧ Bld s s0.w.heap.size 3 g5 g6 ∧ f 16 = vi g7 ∧ f 17 = vb g8 ∧ f 8 = Value.map (some je) ∧ f 51 = j8 ∧ f 52 = vi ((j1.1.length : Int)) ∧ f 53 = vi (jy) ∧ MapX s je jm ∧ (∀ k, (own g5) k → ¬ (fun k => k = je) k)) N ⟨ks, (Value.slice none 0 0), ([]), kb.Proc, true, rfl, kv, (Le.refl _), kz, rfl, Bld.nil, rfl, rfl, k6, k7, k8, k5, ((k9).ext kj).tch kt ((fun k hk => kn k hk) je rfl), (fun k h => absurd h own_nil)⟩ ?_)
       rintro g9 ga gb ⟨gc, g5, g6, g7, g8, rfl, gd, gg, hr, gh, gi, gj, gk, gl, gm, gn, go, gp, gq⟩
       cases g9 with
       | zero => exact absurd hr (by simp [dead_Cycle_l4])
       | succ g9 =>
        rw [dead_Cycle_l4.eq_2] at hr
        refine W_seq ?_
        obtain ⟨gr, gs, gu⟩ := bind_some hr
        refine W_seq_cut (fun f w => ∃ (s : St) (gv : Bool), s.w = w ∧ Ext s0 s ∧ Le gc s ∧ gv = gr ∧ f 65 = vb gv ∧ f 8 = Value.map (some je) ∧ f 15 = g5 ∧ f 16 = vi (g7) ∧ f 17 = vb (g8) ∧ f 51 = j8 ∧ f 52 = vi ((j1.1.length : Int)) ∧ f 53 = vi (jy) ∧ MapX s je jm ∧ Bld s s0.w.heap.size 3 g5 g6) ?_ ?_
        ·have hr := gs
         refine W_region (mv gk (mv (rv (vb g8)) ?_))
         rcases tf (g8) with gw | gw
         ·have hr := ite_t gw hr; refine gt 60 (rv (vb g8)) gw (mv gh (gt 60 (rv (vb g8)) gw (mv gj (gt 60 (rv (vb g8)) gw ?_)))); obtain ⟨gx, gy, hr⟩ := bind_some hr; refine L_calls cal54 (args2 (rv g5) (rv (vi g7))) (slices_Contains_Lint_int_ok N _ _ _ (gi).toV g7 gx gy) (by decide) (fun gz u0 u1 u2 => ?_); have u3 := Tch.ext gd u1; obtain rfl := u2.bool; exact gt 60 (rv (vb g8)) gw (L_not (rv (vb gx)) (by decide) (pt (rv (vb g8)) gw (rv (vb (!gx))) (nn ⟨u0, (!gx), rfl, u3, u1.le, Option.some.inj hr, rfl, gl, gh, gj, gk, gm, gn, go, (gp).ext u1, (gi).ext u1⟩)))
         ·have hr := ite_f gw hr; exact gf 60 (rv (vb g8)) gw (gf 60 (rv (vb g8)) gw (gf 60 (rv (vb g8)) gw (gf 60 (rv (vb g8)) gw (pf (rv (vb g8)) gw (rv (vb false)) (nn ⟨gc, false, rfl, gd, (Le.refl _), Option.some.inj hr, rfl, gl, gh, gj, gk, gm, gn, go, gp, gi⟩)))))
        ·rintro gw gx ⟨gy, gv, rfl, gz, u0, gs, u1, u2, u3, u4, u5, u6, u7, u9, ua, ub⟩
         subst gs
         have hr := gu
         try dsimp only at hr
         refine W_cond _ u1 (fun uc => ?_) (fun uc => ?_)
         ·have hr := ite_t uc hr
          refine W_skip (then_n (W_block (sr (mv u3 (mv u4 (L_buildSlice (xs := ([g7] : List Int)) Try.underlying23 tyz3 (Parts_cons rfl (rv (vi g7)) Parts_nil) (Vs.cons Vint Vs.nil) rfl (by decide) (by decide) (fun ud ue uf ug uh => ?_)))))))
          have ui := Tch.ext gz uf
          obtain ⟨uj, hr⟩ := chk_some hr
          refine L_append (xs := g6) (B := s0.w.heap.size) Try.underlying23 tyz3 (rv g5) (rv ue) ((ub).ext uf) (ui.size) uh uj.1 uj.2 (by decide) (fun uk ul um => ?_)
          have un := um.tchM ((ub).ext uf) ui (Nat.le_refl _)
          have uo : ∀ k, (fun k => k = je) k → ¬ own uk k := fun k ko kp => by rcases um.own k kp with kq | kq; exact (fun k hk hm => gq k hm hk) k ko kq; have kr := ((ua).ext uf).lt; subst ko; omega
          refine asg (rv uk) (nn (W_region (mv u2 (mv u4 (L_lookupX_ok (m := jm) (z0 := (0 : Int)) Try.underlying92 Try.underlying3 zero3 Vint (rv (Value.map (some je))) (rv (vi g7)) (((ua).ext uf).tch um.tch ((fun k hk hm => gq k hm hk) je rfl)) (by decide) (fun up uq => ?_))))))
          obtain rfl := uq.int
          refine mv (rv (Value.tuple #[vi ((mget jm g7).getD (0 : Int)), vb ((mget jm g7).isSome)])) (xt (rv (Value.tuple #[vi ((mget jm g7).getD (0 : Int)), vb ((mget jm g7).isSome)])) (k := 0) rfl (xt (rv (Value.tuple #[vi ((mget jm g7).getD (0 : Int)), vb ((mget jm g7).isSome)])) (k := 1) rfl (asg (rv (vi ((mget jm g7).getD (0 : Int)))) (asg (rv (vb ((mget jm g7).isSome))) (L_nil (block_n ?_))))))
          exact then_n ⟨g9, Nat.lt_succ_self _, ⟨ul, uk, (g6 ++ ([g7] : List Int)), ((mget jm g7).getD (0 : Int)), ((mget jm g7).isSome), rfl, un, (gg.trans (u0.trans (uf.le.trans um.tch.le))), hr, rfl, um.bld, rfl, rfl, u2, u6, u7, u9, ((ua).ext uf).tch um.tch ((fun k hk hm => gq k hm hk) je rfl), (fun k hk hm => uo k hm hk)⟩⟩
         ·have hr := ite_f uc hr; refine W_exit (then_x (then_x (block_here ?_))); exact then_n ⟨gy, g5, g6, g7, g8, rfl, gz, (gg.trans u0), Option.some.inj hr, u3, ub, u4, u5, u2, u6, u7, u9, ua, gq⟩
      ·rintro g5 g6 ⟨g7, g1, g2, g3, g4, rfl, g8, g9, kz, ga, gb, gc, gd, gg, gh, gi, gj, gk, gl⟩
       subst kz
       have hr := g0
       try dsimp only at hr
       refine then_n (sr (mv gd (nn ?_)))
       refine W_cond _ (rv (vb g4)) (fun gm => ?_) (fun gm => ?_)
       ·have hr := ite_t gm hr
        refine sr (mv ga (mv ga (mv gc ?_)))
        obtain ⟨gn, go, hr⟩ := bind_some hr
        refine L_calls cal55 (args2 (rv g1) (rv (vi g3))) (slices_Index_Lint_int_ok N _ _ _ (gb).toV g3 gn go) (by decide) (fun gp gq gr gs => ?_)
        have gu := Tch.ext g8 gr
        obtain rfl := gs.int
        obtain ⟨gv, gw, hr⟩ := bind_some hr
        refine L_slice_l Try.underlying23 ty3.inf (rv g1) ((gb).ext gr).toV (rv (vi gn)) gw (by decide) (fun gx gy => asg (rv gx) (nn (sr (mv (rv gx) (mv (rv gx) ?_)))))
        obtain ⟨gz, u0, hr⟩ := bind_some hr
        refine L_calls cal56 (args1 (rv gx)) (slices_Min_Lint_int_ok N _ _ _ gy gz u0) (by decide) (fun u1 u2 u3 u4 => ?_)
        have u5 := Tch.ext gu u3
        obtain rfl := u4.int
        obtain ⟨u6, u7, hr⟩ := bind_some hr
        refine L_calls cal55 (args2 (rv gx) (rv (vi gz))) (slices_Index_Lint_int_ok N _ _ _ (gy.mono u3.le) gz u6 u7) (by decide) (fun u9 ua ub uc => ?_)
        have ud := Tch.ext u5 ub
        obtain rfl := uc.int
        refine asg (rv (vi u6)) (nn (W_seq ?_))
        obtain ⟨ue, uf, hr⟩ := bind_some hr
        obtain ⟨ug, uh, hr⟩ := bind_some hr
        obtain ⟨ui, uj, hr⟩ := bind_some hr
        refine W_draws mixed (by kernel_rfl) [PV.data (gv : List Int), PV.eq (vi u6), PV.data (ue : List Int), PV.data (gv : List Int), PV.eq (vi u6), PV.data (ug : List Int), PV.data (([ue, ug] : List (List Int)) : List (List Int)), PV.data (ui : List Int), PV.data (ui : List Int), PV.eq (vi 0)] (Steps_cons ?_ (Steps_cons ?_ (Steps_cons ?_ (Steps_cons ?_ (Steps_cons ?_ (Steps_cons ?_ (Steps_cons ?_ (Steps_cons ?_ (Steps_cons ?_ (Steps_cons ?_ Steps_nil)))))))))) ?_
        ·intro uk ul um un uo Q up; have uq : uk 15 = gx := (uo 15 (by kernel_rfl)).trans rfl; exact mv uq (fin up (gy.mono (u3.le.trans (ub.le.trans um.le))))
        ·intro uk ul um un uo Q up; have uq : uk 18 = vi (u6) := (uo 18 (by kernel_rfl)).trans rfl; exact mv uq (fin up rfl)
        ·intro uk ul um un uo Q up; have uq : V _ (uk 86) (gv : List Int) := un 0 86 (by kernel_rfl) (by kernel_rfl); obtain ⟨ur, us, ut⟩ : ∃ v, _ = v ∧ V _ v _ := ⟨_, rfl, uq⟩; have uu : uk 87 = vi (u6) := un 1 87 (by kernel_rfl) (by kernel_rfl); exact L_slice_l Try.underlying23 ty3.inf us ut uu uf (by decide) (fun uv uw => fin up uw)
        ·intro uk ul um un uo Q up; have uq : uk 15 = gx := (uo 15 (by kernel_rfl)).trans rfl; exact mv uq (fin up (gy.mono (u3.le.trans (ub.le.trans um.le))))
        ·intro uk ul um un uo Q up; have uq : uk 18 = vi (u6) := (uo 18 (by kernel_rfl)).trans rfl; exact mv uq (fin up rfl)
        ·intro uk ul um un uo Q up; have uq : V _ (uk 89) (gv : List Int) := un 3 89 (by kernel_rfl) (by kernel_rfl); obtain ⟨ur, us, ut⟩ : ∃ v, _ = v ∧ V _ v _ := ⟨_, rfl, uq⟩; have uu : uk 90 = vi (u6) := un 4 90 (by kernel_rfl) (by kernel_rfl); exact L_slice_h Try.underlying23 ty3.inf us ut uu uh (by decide) (fun uv uw => fin up uw)
        ·intro uk ul um un uo Q up; have uq : V _ (uk 88) (ue : List Int) := un 2 88 (by kernel_rfl) (by kernel_rfl); obtain ⟨ur, us, ut⟩ : ∃ v, _ = v ∧ V _ v _ := ⟨_, rfl, uq⟩; have uu : V _ (uk 91) (ug : List Int) := un 5 91 (by kernel_rfl) (by kernel_rfl); obtain ⟨uv, uw, ux⟩ : ∃ v, _ = v ∧ V _ v _ := ⟨_, rfl, uu⟩; refine L_buildSlice (xs := ([ue, ug] : List (List Int))) Try.underlying108 tyz23 (Parts_cons rfl us (Parts_cons rfl uw Parts_nil)) (Vs.cons ut (Vs.cons ux Vs.nil)) rfl (by decide) (by decide) (fun uy uz t0 t1 t2 => ?_); have t3 := Tch.ext (Ext.refl ul) t0; exact L_nil (up _ _ t3 t2)
        ·intro uk ul um un uo Q up; have uq : V _ (uk 92) (([ue, ug] : List (List Int)) : List (List Int)) := un 6 92 (by kernel_rfl) (by kernel_rfl); obtain ⟨ur, us, ut⟩ : ∃ v, _ = v ∧ V _ v _ := ⟨_, rfl, uq⟩; refine L_calls cal57 (args1 us) (slices_Concat_Lint_int_ok N _ _ _ ut ui uj) (by decide) (fun uu uv uw ux => ?_); have uy := Tch.ext (Ext.refl ul) uw; exact L_nil (up _ _ uy ux)
        ·intro uk ul um un uo Q up; have uq : V _ (uk 93) (ui : List Int) := un 7 93 (by kernel_rfl) (by kernel_rfl); obtain ⟨ur, us, ut⟩ : ∃ v, _ = v ∧ V _ v _ := ⟨_, rfl, uq⟩; exact asg us (fin up ut)
        ·intro uk ul um un uo Q up; exact asg (rv (vi 0)) (fin up rfl)
        ·intro uk ul um un uo; have up := Tch.ext ud um; have uq : V _ (uk 4) (ui : List Int) := un 8 4 (by kernel_rfl); obtain ⟨ur, us, ut⟩ : ∃ v, _ = v ∧ V _ v _ := ⟨_, rfl, uq⟩; have uu : uk 5 = vi (0) := un 9 5 (by kernel_rfl); refine then_n (W_ret (block_r (then_r (then_r (block_r ?_))))); obtain rfl := Option.some.inj hr; have hr := jx; (try dsimp only at hr); refine then_r (then_r ?_); obtain rfl := Option.some.inj hr; exact done2 (Or.inl rfl) Try.results25 us uu ⟨_, _, rfl, rfl, up, _, _, rfl, ut, Vint⟩
       ·have hr := ite_f gm hr; refine W_skip (block_n (then_n (W_region ?_))); obtain ⟨gn, hr⟩ := chk_some hr; exact ad gj (rv (vi 1)) gn (mv (rv (vi (jy + 1))) (nn ⟨jz, Nat.lt_succ_self _, ⟨g7, (jy + 1), rfl, g8, (k4.trans (kj.le.trans (kt.le.trans g9))), hr, rfl, gg, gh, gi, gk⟩⟩))
     ·have hr := ite_f ka hr; refine W_exit (then_x (then_x (block_here ?_))); exact then_n ⟨k2, rfl, k3, k4, Option.some.inj hr⟩
   ·rintro jy jz ⟨k0, rfl, k1, k2, jw⟩; subst jw; have hr := jx; (try dsimp only at hr); refine then_n (sr (asg (rv (Value.slice none 0 0)) (asg (rv (vi 0)) (nn (W_ret ?_))))); obtain rfl := Option.some.inj hr; exact done2 (Or.inl rfl) Try.results25 rfl rfl ⟨_, _, rfl, rfl, k1, _, _, rfl, Vnil, Vint⟩

theorem law08_send_ok (N : Nat) (s0 : St) (a0 : Int) (a1 : Int) (r : Deed) (hr : law08_send N a0 a1 = some r) :
    Calls Try.prog 28 #[.int .i64 a0, .int .i64 a1] s0.w (Ret s0 fun v s => V s v r) := by
 unfold law08_send at hr
 have j0 := Ext.refl s0
 refine Calls_of (n := 8) (args := [.int .i64 a0, .int .i64 a1]) Try.func28 rfl rfl (by simp) (sr (L_alloc (α := Deed) (x := ⟨0, 0, 0, 0, false⟩) zero64 Deed.zero_rel (by decide) (fun j1 j2 j3 j4 j5 => ?_)))
 have j6 := Tch.ext j0 j3
 refine nn (sr (mv (rv (vi a0)) (mv (rv (vi a1)) (L_bld64_0_1_2 (s := j1) (rv (vi 1)) (rv (vi a0)) (rv (vi a1)) (Vint : V _ _ (1 : Int)) (Vint : V _ _ (a0 : Int)) (Vint : V _ _ (a1 : Int)) (by decide) (fun j7 j8 => L_store ty64 (rv (Value.pointer (some ⟨j2, 0, none⟩))) (rv j7) j8 (j5) (fun j9 ja jb => ?_))))))
 have jc := Tch.trans j6 ja (fun k hk => Or.inr (by subst hk; exact (Nat.le_trans j0.size j4)))
 refine nn (W_ret ?_)
 obtain rfl := Option.some.inj hr
 exact done_c (Or.inl rfl) Try.results28 ty64 rfl (jb) (fun v hv => ⟨_, _, rfl, rfl, jc, hv⟩)

theorem law08_recv_ok (N : Nat) (s0 : St) (a0 : Int) (a1 : Int) (r : Deed) (hr : law08_recv N a0 a1 = some r) :
    Calls Try.prog 29 #[.int .i64 a0, .int .i64 a1] s0.w (Ret s0 fun v s => V s v r) := by
 unfold law08_recv at hr
 have j0 := Ext.refl s0
 refine Calls_of (n := 8) (args := [.int .i64 a0, .int .i64 a1]) Try.func29 rfl rfl (by simp) (sr (L_alloc (α := Deed) (x := ⟨0, 0, 0, 0, false⟩) zero64 Deed.zero_rel (by decide) (fun j1 j2 j3 j4 j5 => ?_)))
 have j6 := Tch.ext j0 j3
 refine nn (sr (mv (rv (vi a0)) (mv (rv (vi a1)) (L_bld64_0_1_2 (s := j1) (rv (vi 2)) (rv (vi a0)) (rv (vi a1)) (Vint : V _ _ (2 : Int)) (Vint : V _ _ (a0 : Int)) (Vint : V _ _ (a1 : Int)) (by decide) (fun j7 j8 => L_store ty64 (rv (Value.pointer (some ⟨j2, 0, none⟩))) (rv j7) j8 (j5) (fun j9 ja jb => ?_))))))
 have jc := Tch.trans j6 ja (fun k hk => Or.inr (by subst hk; exact (Nat.le_trans j0.size j4)))
 refine nn (W_ret ?_)
 obtain rfl := Option.some.inj hr
 exact done_c (Or.inl rfl) Try.results29 ty64 rfl (jb) (fun v hv => ⟨_, _, rfl, rfl, jc, hv⟩)

set_option maxHeartbeats 1028000 in
theorem law08_works_ok (N : Nat) (s0 : St) (r : Bool) (hr : law08_works N  = some r) :
    Calls Try.prog 10 #[] s0.w (Ret s0 fun v s => V s v r) := by
 unfold law08_works at hr
 have j0 := Ext.refl s0
 refine Calls_of (n := 205) (args := []) Try.func10 rfl rfl (by simp) (sr (asg (rv (vb false)) (nn (sr ?_))))
 obtain ⟨j1, j2, hr⟩ := bind_some hr
 refine L_calls cal28 (args2 (rv (vi 1)) (rv (vi 0))) (law08_send_ok N _ 1 0 j1 j2) (by decide) (fun j3 j4 j5 j6 => ?_)
 have j7 := Tch.ext j0 j5
 obtain ⟨j8, j9, hr⟩ := bind_some hr
 refine L_calls cal29 (args2 (rv (vi 1)) (rv (vi 0))) (law08_recv_ok N _ 1 0 j8 j9) (by decide) (fun ja jb jc jd => ?_)
 have je := Tch.ext j7 jc
 refine L_buildSlice (xs := ([j1, j8] : List Deed)) Try.underlying59 tyz64 (Parts_cons rfl (rv j3) (Parts_cons rfl (rv ja) Parts_nil)) (Vs.cons (j6.mono jc.le) (Vs.cons jd Vs.nil)) rfl (by decide) (by decide) (fun jf jg jh ji jj => ?_)
 have jk := Tch.ext je jh
 obtain ⟨jl, jm, hr⟩ := bind_some hr
 refine L_calls cal28 (args2 (rv (vi 0)) (rv (vi 0))) (law08_send_ok N _ 0 0 jl jm) (by decide) (fun jn jo jp jq => ?_)
 have jr := Tch.ext jk jp
 obtain ⟨js, jt, hr⟩ := bind_some hr
 refine L_calls cal29 (args2 (rv (vi 0)) (rv (vi 0))) (law08_recv_ok N _ 0 0 js jt) (by decide) (fun ju jv jw jx => ?_)
 have jy := Tch.ext jr jw
 refine L_buildSlice (xs := ([jl, js] : List Deed)) Try.underlying59 tyz64 (Parts_cons rfl (rv jn) (Parts_cons rfl (rv ju) Parts_nil)) (Vs.cons (jq.mono jw.le) (Vs.cons jx Vs.nil)) rfl (by decide) (by decide) (fun jz k0 k1 k2 k3 => ?_)
 have k4 := Tch.ext jy k1
 refine L_buildSlice (xs := ([([j1, j8] : List Deed), ([jl, js] : List Deed)] : List (List Deed))) Try.underlying29 tyz59 (Parts_cons rfl (rv jg) (Parts_cons rfl (rv k0) Parts_nil)) (Vs.cons (jj.mono (jp.le.trans (jw.le.trans k1.le))) (Vs.cons k3 Vs.nil)) rfl (by decide) (by decide) (fun k5 k6 k7 k8 k9 => ?_)
 have ka := Tch.ext k4 k7
 refine asg (rv k6) (nn (sr (mv (rv k6) ?_)))
 obtain ⟨kb, kc, hr⟩ := bind_some hr
 refine L_calls cal18 (args1 (rv k6)) (dead_Decide_ok N _ _ _ k9 kb kc) (by decide) (fun kd ke kf kg => ?_)
 have kh := Tch.ext ka kf
 obtain ⟨ki, kj, rfl, kk, kl⟩ := kg
 obtain rfl := kl.int
 refine mv (rv (Value.tuple #[ki, vi (kb.2)])) (xt (rv (Value.tuple #[ki, vi (kb.2)])) (k := 0) rfl (xt (rv (Value.tuple #[ki, vi (kb.2)])) (k := 1) rfl (L_alloc (α := Verdict) (x := ⟨0, 0⟩) zero40 Verdict.zero_rel (by decide) (fun km kn ko kp kq => ?_))))
 have kr := Tch.ext kh ko
 refine L_store ty40 (rv (Value.pointer (some ⟨kn, 0, none⟩))) (rv ki) (kk.mono ko.le) (kq) (fun ks kt ku => ?_)
 have kv := Tch.trans kr kt (fun k hk => Or.inr (by subst hk; exact (Nat.le_trans kh.size kp)))
 refine asg (rv (vi (kb.2))) (nn (sr (mv (rv k6) ?_)))
 obtain ⟨kw, kx, hr⟩ := bind_some hr
 refine L_calls cal25 (args2 (rv k6) (rv (vi 0))) (dead_Cycle_ok N _ _ _ (k9.mono (kf.le.trans (ko.le.trans kt.le))) 0 kw kx) (by decide) (fun ky kz g0 g1 => ?_)
 have g2 := Tch.ext kv g0
 obtain ⟨g3, g4, rfl, g5, g6⟩ := g1
 obtain rfl := g6.int
 refine mv (rv (Value.tuple #[g3, vi (kw.2)])) (xt (rv (Value.tuple #[g3, vi (kw.2)])) (k := 0) rfl (xt (rv (Value.tuple #[g3, vi (kw.2)])) (k := 1) rfl (asg (rv g3) (asg (rv (vi (kw.2))) (nn (sr (mv (rv k6) ?_)))))))
 obtain ⟨g7, g8, hr⟩ := bind_some hr
 refine L_calls cal30 (args2 (rv k6) (rv (vi 0))) (dead_End_ok N _ _ _ (k9.mono (kf.le.trans (ko.le.trans (kt.le.trans g0.le)))) 0 g7 g8) (by decide) (fun g9 ga gb gc => ?_)
 have gd := Tch.ext g2 gb
 obtain ⟨gg, gh, rfl, gi, gj⟩ := gc
 obtain rfl := gj.int
 refine mv (rv (Value.tuple #[gg, vi (g7.2)])) (xt (rv (Value.tuple #[gg, vi (g7.2)])) (k := 0) rfl (xt (rv (Value.tuple #[gg, vi (g7.2)])) (k := 1) rfl (asg (rv gg) (asg (rv (vi (g7.2))) (nn (W_seq ?_))))))
 obtain ⟨gk, gl, gm⟩ := bind_some hr
 refine W_seq_cut (fun f w => ∃ (s : St) (gn : Bool), s.w = w ∧ Ext s0 s ∧ Le ga s ∧ gn = gk ∧ f 65 = vb gn ∧ f 2 = Value.pointer (some ⟨kn, 0, none⟩) ∧ Var s kn 40 kb.1) ?_ ?_
 ·have hr := gl
  refine W_region (L_load_var ty40 (rv (Value.pointer (some ⟨kn, 0, none⟩))) (((ku).ext g0).ext gb) (by decide) (fun go gp => L_bld40_0_1 (s := ga) (rv (vi 2)) (rv (vi 1)) (Vint : V _ _ (2 : Int)) (Vint : V _ _ (1 : Int)) (by decide) (fun gq gr => L_sne40 (rv go) gp (rv gq) gr (by decide) (mv (rv (vb (!decide (kb.1 = (⟨2, 1⟩ : Verdict))))) ?_))))
  rcases tf (!decide (kb.1 = (⟨2, 1⟩ : Verdict))) with gs | gs
  ·have hr := ite_t gs hr; refine gf 42 (rv (vb (!decide (kb.1 = (⟨2, 1⟩ : Verdict))))) gs (gf 42 (rv (vb (!decide (kb.1 = (⟨2, 1⟩ : Verdict))))) gs (pt (rv (vb (!decide (kb.1 = (⟨2, 1⟩ : Verdict))))) gs (rv (vb true)) (mv (rv (vb true)) (gf 46 (rv (vb true)) rfl (gf 46 (rv (vb true)) rfl (pt (rv (vb true)) rfl (rv (vb true)) (mv (rv (vb true)) (gf 50 (rv (vb true)) rfl (gf 50 (rv (vb true)) rfl (pt (rv (vb true)) rfl (rv (vb true)) (mv (rv (vb true)) (gf 54 (rv (vb true)) rfl (gf 54 (rv (vb true)) rfl ?_))))))))))))); exact gf 54 (rv (vb true)) rfl (gf 54 (rv (vb true)) rfl (pt (rv (vb true)) rfl (rv (vb true)) (mv (rv (vb true)) (gf 60 (rv (vb true)) rfl (gf 60 (rv (vb true)) rfl (gf 60 (rv (vb true)) rfl (gf 60 (rv (vb true)) rfl (pt (rv (vb true)) rfl (rv (vb true)) (nn ⟨ga, true, rfl, gd, (Le.refl _), Option.some.inj hr, rfl, rfl, ((ku).ext g0).ext gb⟩)))))))))
  ·have hr := ite_f gs hr
   refine gt 42 (rv (vb (!decide (kb.1 = (⟨2, 1⟩ : Verdict))))) gs (mv (rv (vi (kb.2))) (gt 42 (rv (vb (!decide (kb.1 = (⟨2, 1⟩ : Verdict))))) gs (ne (rv (vi (kb.2))) (rv (vi 0)) (pf (rv (vb (!decide (kb.1 = (⟨2, 1⟩ : Verdict))))) gs (rv (vb (!decide (kb.2 = 0)))) (mv (rv (vb (!decide (kb.2 = 0)))) ?_)))))
   rcases tf (!decide (kb.2 = 0)) with gu | gu
   ·have hr := ite_t gu hr; refine gf 46 (rv (vb (!decide (kb.2 = 0)))) gu (gf 46 (rv (vb (!decide (kb.2 = 0)))) gu (pt (rv (vb (!decide (kb.2 = 0)))) gu (rv (vb true)) (mv (rv (vb true)) (gf 50 (rv (vb true)) rfl (gf 50 (rv (vb true)) rfl (pt (rv (vb true)) rfl (rv (vb true)) (mv (rv (vb true)) (gf 54 (rv (vb true)) rfl (gf 54 (rv (vb true)) rfl (gf 54 (rv (vb true)) rfl (gf 54 (rv (vb true)) rfl (pt (rv (vb true)) rfl (rv (vb true)) (mv (rv (vb true)) ?_))))))))))))); exact gf 60 (rv (vb true)) rfl (gf 60 (rv (vb true)) rfl (gf 60 (rv (vb true)) rfl (gf 60 (rv (vb true)) rfl (pt (rv (vb true)) rfl (rv (vb true)) (nn ⟨ga, true, rfl, gd, (Le.refl _), Option.some.inj hr, rfl, rfl, ((ku).ext g0).ext gb⟩)))))
   ·have hr := ite_f gu hr
    refine gt 46 (rv (vb (!decide (kb.2 = 0)))) gu (mv (rv (vi (kw.2))) (gt 46 (rv (vb (!decide (kb.2 = 0)))) gu (ne (rv (vi (kw.2))) (rv (vi 0)) (pf (rv (vb (!decide (kb.2 = 0)))) gu (rv (vb (!decide (kw.2 = 0)))) (mv (rv (vb (!decide (kw.2 = 0)))) ?_)))))
    rcases tf (!decide (kw.2 = 0)) with gv | gv
    ·have hr := ite_t gv hr; refine gf 50 (rv (vb (!decide (kw.2 = 0)))) gv (gf 50 (rv (vb (!decide (kw.2 = 0)))) gv (pt (rv (vb (!decide (kw.2 = 0)))) gv (rv (vb true)) (mv (rv (vb true)) (gf 54 (rv (vb true)) rfl (gf 54 (rv (vb true)) rfl (gf 54 (rv (vb true)) rfl (gf 54 (rv (vb true)) rfl (pt (rv (vb true)) rfl (rv (vb true)) (mv (rv (vb true)) (gf 60 (rv (vb true)) rfl (gf 60 (rv (vb true)) rfl (gf 60 (rv (vb true)) rfl (gf 60 (rv (vb true)) rfl ?_))))))))))))); exact pt (rv (vb true)) rfl (rv (vb true)) (nn ⟨ga, true, rfl, gd, (Le.refl _), Option.some.inj hr, rfl, rfl, ((ku).ext g0).ext gb⟩)
    ·have hr := ite_f gv hr
     refine gt 50 (rv (vb (!decide (kw.2 = 0)))) gv (mv (rv (vi (g7.2))) (gt 50 (rv (vb (!decide (kw.2 = 0)))) gv (ne (rv (vi (g7.2))) (rv (vi 0)) (pf (rv (vb (!decide (kw.2 = 0)))) gv (rv (vb (!decide (g7.2 = 0)))) (mv (rv (vb (!decide (g7.2 = 0)))) ?_)))))
     rcases tf (!decide (g7.2 = 0)) with gw | gw
     ·have hr := ite_t gw hr; exact gf 54 (rv (vb (!decide (g7.2 = 0)))) gw (gf 54 (rv (vb (!decide (g7.2 = 0)))) gw (gf 54 (rv (vb (!decide (g7.2 = 0)))) gw (gf 54 (rv (vb (!decide (g7.2 = 0)))) gw (pt (rv (vb (!decide (g7.2 = 0)))) gw (rv (vb true)) (mv (rv (vb true)) (gf 60 (rv (vb true)) rfl (gf 60 (rv (vb true)) rfl (gf 60 (rv (vb true)) rfl (gf 60 (rv (vb true)) rfl (pt (rv (vb true)) rfl (rv (vb true)) (nn ⟨ga, true, rfl, gd, (Le.refl _), Option.some.inj hr, rfl, rfl, ((ku).ext g0).ext gb⟩)))))))))))
     ·have hr := ite_f gw hr
      refine gt 54 (rv (vb (!decide (g7.2 = 0)))) gw (mv (rv g3) (gt 54 (rv (vb (!decide (g7.2 = 0)))) gw (L_buildSlice (xs := ([0, 1] : List Int)) Try.underlying23 tyz3 (Parts_cons rfl (rv (vi 0)) (Parts_cons rfl (rv (vi 1)) Parts_nil)) (Vs.cons Vint (Vs.cons Vint Vs.nil)) rfl (by decide) (by decide) (fun gx gy gz u0 u1 => ?_))))
      have u2 := Tch.ext gd gz
      refine gt 54 (rv (vb (!decide (g7.2 = 0)))) gw ?_
      obtain ⟨u3, u4, hr⟩ := bind_some hr
      refine L_calls cal14 (args2 (rv g3) (rv gy)) (ref01_SameInts_ok N _ _ _ (g5.mono (gb.le.trans gz.le)) _ _ u1 u3 u4) (by decide) (fun u5 u6 u7 u9 => ?_)
      have ua := Tch.ext u2 u7
      obtain rfl := u9.bool
      refine gt 54 (rv (vb (!decide (g7.2 = 0)))) gw (L_not (rv (vb u3)) (by decide) (pf (rv (vb (!decide (g7.2 = 0)))) gw (rv (vb (!u3))) (mv (rv (vb (!u3))) ?_)))
      rcases tf (!u3) with ub | ub
      ·have hr := ite_t ub hr; exact gf 60 (rv (vb (!u3))) ub (gf 60 (rv (vb (!u3))) ub (gf 60 (rv (vb (!u3))) ub (gf 60 (rv (vb (!u3))) ub (pt (rv (vb (!u3))) ub (rv (vb true)) (nn ⟨u6, true, rfl, ua, (gz.le.trans u7.le), Option.some.inj hr, rfl, rfl, ((((ku).ext g0).ext gb).ext gz).ext u7⟩)))))
      ·have hr := ite_f ub hr; refine gt 60 (rv (vb (!u3))) ub (mv (rv gg) (gt 60 (rv (vb (!u3))) ub (L_buildSlice (xs := ([0, 0] : List Int)) Try.underlying23 tyz3 (Parts_cons rfl (rv (vi 0)) (Parts_cons rfl (rv (vi 0)) Parts_nil)) (Vs.cons Vint (Vs.cons Vint Vs.nil)) rfl (by decide) (by decide) (fun uc ud ue uf ug => ?_)))); have uh := Tch.ext ua ue; refine gt 60 (rv (vb (!u3))) ub ?_; obtain ⟨ui, uj, hr⟩ := bind_some hr; refine L_calls cal14 (args2 (rv gg) (rv ud)) (ref01_SameInts_ok N _ _ _ (gi.mono (gz.le.trans (u7.le.trans ue.le))) _ _ ug ui uj) (by decide) (fun uk ul um un => ?_); have uo := Tch.ext uh um; obtain rfl := un.bool; exact gt 60 (rv (vb (!u3))) ub (L_not (rv (vb ui)) (by decide) (pf (rv (vb (!u3))) ub (rv (vb (!ui))) (nn ⟨ul, (!ui), rfl, uo, (gz.le.trans (u7.le.trans (ue.le.trans um.le))), Option.some.inj hr, rfl, rfl, ((((((ku).ext g0).ext gb).ext gz).ext u7).ext ue).ext um⟩)))
 ·rintro go gp ⟨gq, gn, rfl, gr, gs, gl, gu, gv, gw⟩
  subst gl
  have hr := gm
  try dsimp only at hr
  refine W_cond _ gu (fun gx => ?_) (fun gx => ?_)
  ·have hr := ite_t gx hr; refine sr (asg (rv (vb false)) (nn (W_ret (then_r ?_)))); obtain rfl := Option.some.inj hr; exact done1 (Or.inl rfl) Try.results10 rfl ⟨_, _, rfl, rfl, gr, Vbool⟩
  ·have hr := ite_f gx hr
   refine W_skip (then_n (sr (L_bld64_0_1 (s := gq) (rv (vi 3)) (rv (vi 1)) (Vint : V _ _ (3 : Int)) (Vint : V _ _ (1 : Int)) (by decide) (fun gy gz => L_alloc (α := Deed) (x := ⟨0, 0, 0, 0, false⟩) zero64 Deed.zero_rel (by decide) (fun u0 u1 u2 u3 u4 => ?_)))))
   have u5 := Tch.ext gr u2
   have u6 : ∀ k, (fun k => k = kn) k → ¬ (fun k => k = u1) k := fun k u7 u9 => by have ua := (fun k (hk : k = kn) => lt_at hk (gw).lt) k u7; have ub := u3; subst u9; omega
   refine L_store_ro ty64 (rv (Value.pointer (some ⟨u1, 0, none⟩))) (rv gy) (gz.mono u2.le) (u4) (fun uc ud ue => ?_)
   have uf := Tch.trans u5 ud (fun k hk => Or.inr (by subst hk; exact (Nat.le_trans gr.size u3)))
   refine nn (sr (L_bld64_0 (s := uc) (rv (vi 3)) (Vint : V _ _ (3 : Int)) (by decide) (fun ug uh => L_alloc (α := Deed) (x := ⟨0, 0, 0, 0, false⟩) zero64 Deed.zero_rel (by decide) (fun ui uj uk ul um => ?_))))
   have un := Tch.ext uf uk
   have uo : ∀ k, (fun k => k = kn) k → ¬ (fun k => k = uj) k := fun k u7 u9 => by have ua := (fun k (hk : k = kn) => lt_at hk (((gw).ext u2).tch ud ((fun k hk => u6 k hk) kn rfl)).lt) k u7; have ub := ul; subst u9; omega
   refine L_store_ro ty64 (rv (Value.pointer (some ⟨uj, 0, none⟩))) (rv ug) (uh.mono uk.le) (um) (fun up uq ur => ?_)
   have us := Tch.trans un uq (fun k hk => Or.inr (by subst hk; exact (Nat.le_trans uf.size ul)))
   refine nn (sr (L_bld64_0 (s := up) (rv (vi 5)) (Vint : V _ _ (5 : Int)) (by decide) (fun ut uu => L_alloc (α := Deed) (x := ⟨0, 0, 0, 0, false⟩) zero64 Deed.zero_rel (by decide) (fun uv uw ux uy uz => ?_))))
   have t0 := Tch.ext us ux
   have t1 : ∀ k, (fun k => k = kn) k → ¬ (fun k => k = uw) k := fun k u7 u9 => by have ua := (fun k (hk : k = kn) => lt_at hk (((((gw).ext u2).tch ud ((fun k hk => u6 k hk) kn rfl)).ext uk).tch uq ((fun k hk => uo k hk) kn rfl)).lt) k u7; have ub := uy; subst u9; omega
   refine L_store_ro ty64 (rv (Value.pointer (some ⟨uw, 0, none⟩))) (rv ut) (uu.mono ux.le) (uz) (fun t2 t3 t4 => ?_)
   have t5 := Tch.trans t0 t3 (fun k hk => Or.inr (by subst hk; exact (Nat.le_trans us.size uy)))
   refine nn (W_seq ?_)
   obtain ⟨t6, t7, hr⟩ := bind_some hr
   obtain ⟨t8, t9, hr⟩ := bind_some hr
   refine W_draws mixed (by kernel_rfl) [PV.data ((⟨3, 1, 0, 0, false⟩ : Deed) : Deed), PV.data (t6 : Deed), PV.data ((⟨5, 0, 0, 0, false⟩ : Deed) : Deed), PV.data (([(⟨3, 1, 0, 0, false⟩ : Deed), t6, (⟨5, 0, 0, 0, false⟩ : Deed)] : List Deed) : List Deed), PV.data ((⟨3, 0, 0, 0, false⟩ : Deed) : Deed), PV.data (t8 : Deed), PV.data ((⟨5, 0, 0, 0, false⟩ : Deed) : Deed), PV.data (([(⟨3, 0, 0, 0, false⟩ : Deed), t8, (⟨5, 0, 0, 0, false⟩ : Deed)] : List Deed) : List Deed), PV.data (([([(⟨3, 1, 0, 0, false⟩ : Deed), t6, (⟨5, 0, 0, 0, false⟩ : Deed)] : List Deed), ([(⟨3, 0, 0, 0, false⟩ : Deed), t8, (⟨5, 0, 0, 0, false⟩ : Deed)] : List Deed)] : List (List Deed)) : List (List Deed)), PV.data (([([(⟨3, 1, 0, 0, false⟩ : Deed), t6, (⟨5, 0, 0, 0, false⟩ : Deed)] : List Deed), ([(⟨3, 0, 0, 0, false⟩ : Deed), t8, (⟨5, 0, 0, 0, false⟩ : Deed)] : List Deed)] : List (List Deed)) : List (List Deed))] (Steps_cons ?_ (Steps_cons ?_ (Steps_cons ?_ (Steps_cons ?_ (Steps_cons ?_ (Steps_cons ?_ (Steps_cons ?_ (Steps_cons ?_ (Steps_cons ?_ (Steps_cons ?_ Steps_nil)))))))))) ?_
   ·intro ta tb tc td te Q tg; have th : ta 8 = Value.pointer (some ⟨u1, 0, none⟩) := (te 8 (by kernel_rfl)).trans rfl; exact ld ty64 th (ue.mono (uk.le.trans (uq.le.trans (ux.le.trans (t3.le.trans tc.le))))) (fun ti tj => fin tg tj)
   ·intro ta tb tc td te Q tg; refine L_calls cal29 (args2 (rv (vi 1)) (rv (vi 0))) (law08_recv_ok N _ 1 0 t6 t7) (by decide) (fun th ti tj tk => ?_); have tl := Tch.ext (Ext.refl tb) tj; exact L_nil (tg _ _ tl tk)
   ·intro ta tb tc td te Q tg; have th : ta 10 = Value.pointer (some ⟨uw, 0, none⟩) := (te 10 (by kernel_rfl)).trans rfl; exact ld ty64 th (t4.mono tc.le) (fun ti tj => fin tg tj)
   ·intro ta tb tc td te Q tg; have th : V _ (ta 69) ((⟨3, 1, 0, 0, false⟩ : Deed) : Deed) := td 0 69 (by kernel_rfl) (by kernel_rfl); obtain ⟨ti, tj, tk⟩ : ∃ v, _ = v ∧ V _ v _ := ⟨_, rfl, th⟩; have tl : V _ (ta 70) (t6 : Deed) := td 1 70 (by kernel_rfl) (by kernel_rfl); obtain ⟨tm, tn, tp⟩ : ∃ v, _ = v ∧ V _ v _ := ⟨_, rfl, tl⟩; have tq : V _ (ta 71) ((⟨5, 0, 0, 0, false⟩ : Deed) : Deed) := td 2 71 (by kernel_rfl) (by kernel_rfl); obtain ⟨tr, ts, tt⟩ : ∃ v, _ = v ∧ V _ v _ := ⟨_, rfl, tq⟩; refine L_buildSlice (xs := ([(⟨3, 1, 0, 0, false⟩ : Deed), t6, (⟨5, 0, 0, 0, false⟩ : Deed)] : List Deed)) Try.underlying59 tyz64 (Parts_cons rfl tj (Parts_cons rfl tn (Parts_cons rfl ts Parts_nil))) (Vs.cons tk (Vs.cons tp (Vs.cons tt Vs.nil))) rfl (by decide) (by decide) (fun tu tv tw tx ty => ?_); have tz := Tch.ext (Ext.refl tb) tw; exact L_nil (tg _ _ tz ty)
   ·intro ta tb tc td te Q tg; have th : ta 9 = Value.pointer (some ⟨uj, 0, none⟩) := (te 9 (by kernel_rfl)).trans rfl; exact ld ty64 th (ur.mono (ux.le.trans (t3.le.trans tc.le))) (fun ti tj => fin tg tj)
   ·intro ta tb tc td te Q tg; refine L_calls cal29 (args2 (rv (vi 0)) (rv (vi 0))) (law08_recv_ok N _ 0 0 t8 t9) (by decide) (fun th ti tj tk => ?_); have tl := Tch.ext (Ext.refl tb) tj; exact L_nil (tg _ _ tl tk)
   ·intro ta tb tc td te Q tg; have th : ta 10 = Value.pointer (some ⟨uw, 0, none⟩) := (te 10 (by kernel_rfl)).trans rfl; exact ld ty64 th (t4.mono tc.le) (fun ti tj => fin tg tj)
   ·intro ta tb tc td te Q tg; have th : V _ (ta 73) ((⟨3, 0, 0, 0, false⟩ : Deed) : Deed) := td 4 73 (by kernel_rfl) (by kernel_rfl); obtain ⟨ti, tj, tk⟩ : ∃ v, _ = v ∧ V _ v _ := ⟨_, rfl, th⟩; have tl : V _ (ta 74) (t8 : Deed) := td 5 74 (by kernel_rfl) (by kernel_rfl); obtain ⟨tm, tn, tp⟩ : ∃ v, _ = v ∧ V _ v _ := ⟨_, rfl, tl⟩; have tq : V _ (ta 75) ((⟨5, 0, 0, 0, false⟩ : Deed) : Deed) := td 6 75 (by kernel_rfl) (by kernel_rfl); obtain ⟨tr, ts, tt⟩ : ∃ v, _ = v ∧ V _ v _ := ⟨_, rfl, tq⟩; refine L_buildSlice (xs := ([(⟨3, 0, 0, 0, false⟩ : Deed), t8, (⟨5, 0, 0, 0, false⟩ : Deed)] : List Deed)) Try.underlying59 tyz64 (Parts_cons rfl tj (Parts_cons rfl tn (Parts_cons rfl ts Parts_nil))) (Vs.cons tk (Vs.cons tp (Vs.cons tt Vs.nil))) rfl (by decide) (by decide) (fun tu tv tw tx ty => ?_); have tz := Tch.ext (Ext.refl tb) tw; exact L_nil (tg _ _ tz ty)
   ·intro ta tb tc td te Q tg; have th : V _ (ta 72) (([(⟨3, 1, 0, 0, false⟩ : Deed), t6, (⟨5, 0, 0, 0, false⟩ : Deed)] : List Deed) : List Deed) := td 3 72 (by kernel_rfl) (by kernel_rfl); obtain ⟨ti, tj, tk⟩ : ∃ v, _ = v ∧ V _ v _ := ⟨_, rfl, th⟩; have tl : V _ (ta 76) (([(⟨3, 0, 0, 0, false⟩ : Deed), t8, (⟨5, 0, 0, 0, false⟩ : Deed)] : List Deed) : List Deed) := td 7 76 (by kernel_rfl) (by kernel_rfl); obtain ⟨tm, tn, tp⟩ : ∃ v, _ = v ∧ V _ v _ := ⟨_, rfl, tl⟩; refine L_buildSlice (xs := ([([(⟨3, 1, 0, 0, false⟩ : Deed), t6, (⟨5, 0, 0, 0, false⟩ : Deed)] : List Deed), ([(⟨3, 0, 0, 0, false⟩ : Deed), t8, (⟨5, 0, 0, 0, false⟩ : Deed)] : List Deed)] : List (List Deed))) Try.underlying29 tyz59 (Parts_cons rfl tj (Parts_cons rfl tn Parts_nil)) (Vs.cons tk (Vs.cons tp Vs.nil)) rfl (by decide) (by decide) (fun tq tr ts tt tu => ?_); have tv := Tch.ext (Ext.refl tb) ts; exact L_nil (tg _ _ tv tu)
   ·intro ta tb tc td te Q tg; have th : V _ (ta 77) (([([(⟨3, 1, 0, 0, false⟩ : Deed), t6, (⟨5, 0, 0, 0, false⟩ : Deed)] : List Deed), ([(⟨3, 0, 0, 0, false⟩ : Deed), t8, (⟨5, 0, 0, 0, false⟩ : Deed)] : List Deed)] : List (List Deed)) : List (List Deed)) := td 8 77 (by kernel_rfl) (by kernel_rfl); obtain ⟨ti, tj, tk⟩ : ∃ v, _ = v ∧ V _ v _ := ⟨_, rfl, th⟩; exact asg tj (fin tg tk)
   ·intro ta tb tc td te
    have tg := Tch.ext t5 tc
    have th : ta 2 = Value.pointer (some ⟨kn, 0, none⟩) := (te 2 (by kernel_rfl)).trans gv
    have ti : V _ (ta 11) (([([(⟨3, 1, 0, 0, false⟩ : Deed), t6, (⟨5, 0, 0, 0, false⟩ : Deed)] : List Deed), ([(⟨3, 0, 0, 0, false⟩ : Deed), t8, (⟨5, 0, 0, 0, false⟩ : Deed)] : List Deed)] : List (List Deed)) : List (List Deed)) := td 9 11 (by kernel_rfl)
    obtain ⟨tj, tk, tl⟩ : ∃ v, _ = v ∧ V _ v _ := ⟨_, rfl, ti⟩
    refine then_n (sr (mv tk ?_))
    obtain ⟨tm, tn, hr⟩ := bind_some hr
    refine L_calls cal18 (args1 (rv tj)) (dead_Decide_ok N _ _ _ tl tm tn) (by decide) (fun tp tq tr ts => ?_)
    have tt := Tch.ext tg tr
    obtain ⟨tu, tv, rfl, tw, tx⟩ := ts
    obtain rfl := tx.int
    refine mv (rv (Value.tuple #[tu, vi (tm.2)])) (xt (rv (Value.tuple #[tu, vi (tm.2)])) (k := 0) rfl (xt (rv (Value.tuple #[tu, vi (tm.2)])) (k := 1) rfl (L_store ty40 th (rv tu) tw (((((((((gw).ext u2).tch ud ((fun k hk => u6 k hk) kn rfl)).ext uk).tch uq ((fun k hk => uo k hk) kn rfl)).ext ux).tch t3 ((fun k hk => t1 k hk) kn rfl)).ext tc).ext tr) (fun ty tz c0 => ?_))))
    have c1 := Tch.trans tt tz (fun k hk => Or.inr (by subst hk; exact (Nat.le_trans kh.size kp)))
    refine asg (rv (vi (tm.2))) (nn (sr (mv tk ?_)))
    obtain ⟨c2, c3, hr⟩ := bind_some hr
    refine L_calls cal22 (args2 (rv tj) (rv (vi 0))) (dead_Show_ok N _ _ _ (tl.mono (tr.le.trans tz.le)) 0 c2 c3) (by decide) (fun c4 c5 c6 c7 => ?_)
    have c8 := Tch.ext c1 c6
    obtain ⟨c9, ca, rfl, cb, cc⟩ := c7
    obtain rfl := cc.int
    refine mv (rv (Value.tuple #[c9, vi (c2.2)])) (xt (rv (Value.tuple #[c9, vi (c2.2)])) (k := 0) rfl (xt (rv (Value.tuple #[c9, vi (c2.2)])) (k := 1) rfl (asg (rv c9) (asg (rv (vi (c2.2))) (nn (sr (mv tk (L_buildSlice (xs := ([0, 0, 0] : List Int)) Try.underlying23 tyz3 (Parts_cons rfl (rv (vi 0)) (Parts_cons rfl (rv (vi 0)) (Parts_cons rfl (rv (vi 0)) Parts_nil))) (Vs.cons Vint (Vs.cons Vint (Vs.cons Vint Vs.nil))) rfl (by decide) (by decide) (fun cd ce cf cg ch => ?_)))))))))
    have ci := Tch.ext c8 cf
    obtain ⟨cj, ck, hr⟩ := bind_some hr
    refine L_calls cal11 (args3 (rv tj) (rv (vi 0)) (rv ce)) (dead_Follow_ok N _ _ _ (tl.mono (tr.le.trans (tz.le.trans (c6.le.trans cf.le)))) 0 _ _ ch cj ck) (by decide) (fun cl cm cn co => ?_)
    have cp := Tch.ext ci cn
    obtain ⟨cq, cr, cs, rfl, ct, cu, cv⟩ := co
    obtain rfl := cu.bool
    obtain rfl := cv.int
    refine mv (rv (Value.tuple #[cq, vb (cj.2.1), vi (cj.2.2)])) (xt (rv (Value.tuple #[cq, vb (cj.2.1), vi (cj.2.2)])) (k := 0) rfl (xt (rv (Value.tuple #[cq, vb (cj.2.1), vi (cj.2.2)])) (k := 1) rfl (xt (rv (Value.tuple #[cq, vb (cj.2.1), vi (cj.2.2)])) (k := 2) rfl (asg (rv (vi (cj.2.2))) (nn (W_seq ?_))))))
    obtain ⟨cw, cx, cy⟩ := bind_some hr
    refine W_seq_cut (fun f w => ∃ (s : St) (cz : Bool), s.w = w ∧ Ext s0 s ∧ Le cm s ∧ cz = cw ∧ f 115 = vb cz ∧ f 2 = Value.pointer (some ⟨kn, 0, none⟩) ∧ Var s kn 40 tm.1) ?_ ?_
    ·have hr := cx
     refine W_region (L_load_var ty40 th ((((c0).ext c6).ext cf).ext cn) (by decide) (fun d0 d1 => L_bld40_0 (s := cm) (rv (vi 1)) (Vint : V _ _ (1 : Int)) (by decide) (fun d2 d3 => L_sne40 (rv d0) d1 (rv d2) d3 (by decide) (mv (rv (vb (!decide (tm.1 = (⟨1, 0⟩ : Verdict))))) ?_))))
     rcases tf (!decide (tm.1 = (⟨1, 0⟩ : Verdict))) with d4 | d4
     ·have hr := ite_t d4 hr; refine gf 98 (rv (vb (!decide (tm.1 = (⟨1, 0⟩ : Verdict))))) d4 (gf 98 (rv (vb (!decide (tm.1 = (⟨1, 0⟩ : Verdict))))) d4 (pt (rv (vb (!decide (tm.1 = (⟨1, 0⟩ : Verdict))))) d4 (rv (vb true)) (mv (rv (vb true)) (gf 102 (rv (vb true)) rfl (gf 102 (rv (vb true)) rfl (pt (rv (vb true)) rfl (rv (vb true)) (mv (rv (vb true)) (gf 106 (rv (vb true)) rfl (gf 106 (rv (vb true)) rfl (pt (rv (vb true)) rfl (rv (vb true)) (mv (rv (vb true)) (gf 110 (rv (vb true)) rfl (gf 110 (rv (vb true)) rfl ?_))))))))))))); exact gf 110 (rv (vb true)) rfl (gf 110 (rv (vb true)) rfl (pt (rv (vb true)) rfl (rv (vb true)) (nn ⟨cm, true, rfl, cp, (Le.refl _), Option.some.inj hr, rfl, th, (((c0).ext c6).ext cf).ext cn⟩)))
     ·have hr := ite_f d4 hr
      refine gt 98 (rv (vb (!decide (tm.1 = (⟨1, 0⟩ : Verdict))))) d4 (mv (rv (vi (tm.2))) (gt 98 (rv (vb (!decide (tm.1 = (⟨1, 0⟩ : Verdict))))) d4 (ne (rv (vi (tm.2))) (rv (vi 0)) (pf (rv (vb (!decide (tm.1 = (⟨1, 0⟩ : Verdict))))) d4 (rv (vb (!decide (tm.2 = 0)))) (mv (rv (vb (!decide (tm.2 = 0)))) ?_)))))
      rcases tf (!decide (tm.2 = 0)) with d5 | d5
      ·have hr := ite_t d5 hr; exact gf 102 (rv (vb (!decide (tm.2 = 0)))) d5 (gf 102 (rv (vb (!decide (tm.2 = 0)))) d5 (pt (rv (vb (!decide (tm.2 = 0)))) d5 (rv (vb true)) (mv (rv (vb true)) (gf 106 (rv (vb true)) rfl (gf 106 (rv (vb true)) rfl (pt (rv (vb true)) rfl (rv (vb true)) (mv (rv (vb true)) (gf 110 (rv (vb true)) rfl (gf 110 (rv (vb true)) rfl (gf 110 (rv (vb true)) rfl (gf 110 (rv (vb true)) rfl (pt (rv (vb true)) rfl (rv (vb true)) (nn ⟨cm, true, rfl, cp, (Le.refl _), Option.some.inj hr, rfl, th, (((c0).ext c6).ext cf).ext cn⟩)))))))))))))
      ·have hr := ite_f d5 hr
       refine gt 102 (rv (vb (!decide (tm.2 = 0)))) d5 (mv (rv (vi (c2.2))) (gt 102 (rv (vb (!decide (tm.2 = 0)))) d5 (ne (rv (vi (c2.2))) (rv (vi 0)) (pf (rv (vb (!decide (tm.2 = 0)))) d5 (rv (vb (!decide (c2.2 = 0)))) (mv (rv (vb (!decide (c2.2 = 0)))) ?_)))))
       rcases tf (!decide (c2.2 = 0)) with d6 | d6
       ·have hr := ite_t d6 hr; exact gf 106 (rv (vb (!decide (c2.2 = 0)))) d6 (gf 106 (rv (vb (!decide (c2.2 = 0)))) d6 (pt (rv (vb (!decide (c2.2 = 0)))) d6 (rv (vb true)) (mv (rv (vb true)) (gf 110 (rv (vb true)) rfl (gf 110 (rv (vb true)) rfl (gf 110 (rv (vb true)) rfl (gf 110 (rv (vb true)) rfl (pt (rv (vb true)) rfl (rv (vb true)) (nn ⟨cm, true, rfl, cp, (Le.refl _), Option.some.inj hr, rfl, th, (((c0).ext c6).ext cf).ext cn⟩)))))))))
       ·have hr := ite_f d6 hr
        refine gt 106 (rv (vb (!decide (c2.2 = 0)))) d6 (mv (rv (vi (cj.2.2))) (gt 106 (rv (vb (!decide (c2.2 = 0)))) d6 (ne (rv (vi (cj.2.2))) (rv (vi 6)) (pf (rv (vb (!decide (c2.2 = 0)))) d6 (rv (vb (!decide (cj.2.2 = 6)))) (mv (rv (vb (!decide (cj.2.2 = 6)))) ?_)))))
        rcases tf (!decide (cj.2.2 = 6)) with d7 | d7
        ·have hr := ite_t d7 hr; exact gf 110 (rv (vb (!decide (cj.2.2 = 6)))) d7 (gf 110 (rv (vb (!decide (cj.2.2 = 6)))) d7 (gf 110 (rv (vb (!decide (cj.2.2 = 6)))) d7 (gf 110 (rv (vb (!decide (cj.2.2 = 6)))) d7 (pt (rv (vb (!decide (cj.2.2 = 6)))) d7 (rv (vb true)) (nn ⟨cm, true, rfl, cp, (Le.refl _), Option.some.inj hr, rfl, th, (((c0).ext c6).ext cf).ext cn⟩)))))
        ·have hr := ite_f d7 hr; refine gt 110 (rv (vb (!decide (cj.2.2 = 6)))) d7 (mv (rv c9) (gt 110 (rv (vb (!decide (cj.2.2 = 6)))) d7 (L_buildSlice (xs := ([0, 0, 1, 0, 1, 1] : List Int)) Try.underlying23 tyz3 (Parts_cons rfl (rv (vi 0)) (Parts_cons rfl (rv (vi 0)) (Parts_cons rfl (rv (vi 1)) (Parts_cons rfl (rv (vi 0)) (Parts_cons rfl (rv (vi 1)) (Parts_cons rfl (rv (vi 1)) Parts_nil)))))) (Vs.cons Vint (Vs.cons Vint (Vs.cons Vint (Vs.cons Vint (Vs.cons Vint (Vs.cons Vint Vs.nil)))))) rfl (by decide) (by decide) (fun d8 d9 da db dc => ?_)))); have dd := Tch.ext cp da; refine gt 110 (rv (vb (!decide (cj.2.2 = 6)))) d7 ?_; obtain ⟨de, df, hr⟩ := bind_some hr; refine L_calls cal14 (args2 (rv c9) (rv d9)) (ref01_SameInts_ok N _ _ _ (cb.mono (cf.le.trans (cn.le.trans da.le))) _ _ dc de df) (by decide) (fun dg dh di dj => ?_); have dk := Tch.ext dd di; obtain rfl := dj.bool; exact gt 110 (rv (vb (!decide (cj.2.2 = 6)))) d7 (L_not (rv (vb de)) (by decide) (pf (rv (vb (!decide (cj.2.2 = 6)))) d7 (rv (vb (!de))) (nn ⟨dh, (!de), rfl, dk, (da.le.trans di.le), Option.some.inj hr, rfl, th, (((((c0).ext c6).ext cf).ext cn).ext da).ext di⟩)))
    ·rintro d0 d1 ⟨d2, cz, rfl, d3, d4, cx, d5, d6, d7⟩
     subst cx
     have hr := cy
     try dsimp only at hr
     refine W_cond _ d5 (fun d8 => ?_) (fun d8 => ?_)
     ·have hr := ite_t d8 hr; refine sr (asg (rv (vb false)) (nn (W_ret (then_r ?_)))); obtain rfl := Option.some.inj hr; exact done1 (Or.inl rfl) Try.results10 rfl ⟨_, _, rfl, rfl, d3, Vbool⟩
     ·have hr := ite_f d8 hr
      refine W_skip (then_n (sr ?_))
      obtain ⟨d9, da, hr⟩ := bind_some hr
      refine L_calls cal28 (args2 (rv (vi 1)) (rv (vi 0))) (law08_send_ok N _ 1 0 d9 da) (by decide) (fun db dc dd de => ?_)
      have df := Tch.ext d3 dd
      obtain ⟨dg, dh, hr⟩ := bind_some hr
      refine L_calls cal28 (args2 (rv (vi 1)) (rv (vi 0))) (law08_send_ok N _ 1 0 dg dh) (by decide) (fun di dj dk dl => ?_)
      have dm := Tch.ext df dk
      obtain ⟨dn, dp, hr⟩ := bind_some hr
      refine L_calls cal28 (args2 (rv (vi 1)) (rv (vi 1))) (law08_send_ok N _ 1 1 dn dp) (by decide) (fun dq dr ds dt => ?_)
      have du := Tch.ext dm ds
      refine L_buildSlice (xs := ([d9, dg, dn] : List Deed)) Try.underlying59 tyz64 (Parts_cons rfl (rv db) (Parts_cons rfl (rv di) (Parts_cons rfl (rv dq) Parts_nil))) (Vs.cons (de.mono (dk.le.trans ds.le)) (Vs.cons (dl.mono ds.le) (Vs.cons dt Vs.nil))) rfl (by decide) (by decide) (fun dv dw dx dy dz => ?_)
      have p0 := Tch.ext du dx
      obtain ⟨p1, p2, hr⟩ := bind_some hr
      refine L_calls cal29 (args2 (rv (vi 0)) (rv (vi 1))) (law08_recv_ok N _ 0 1 p1 p2) (by decide) (fun p3 p4 p5 p6 => ?_)
      have p7 := Tch.ext p0 p5
      obtain ⟨p8, p9, hr⟩ := bind_some hr
      refine L_calls cal29 (args2 (rv (vi 0)) (rv (vi 0))) (law08_recv_ok N _ 0 0 p8 p9) (by decide) (fun pa pb pc pd => ?_)
      have pe := Tch.ext p7 pc
      obtain ⟨pg, ph, hr⟩ := bind_some hr
      refine L_calls cal29 (args2 (rv (vi 0)) (rv (vi 0))) (law08_recv_ok N _ 0 0 pg ph) (by decide) (fun pi pj pk pl => ?_)
      have pm := Tch.ext pe pk
      refine L_buildSlice (xs := ([p1, p8, pg] : List Deed)) Try.underlying59 tyz64 (Parts_cons rfl (rv p3) (Parts_cons rfl (rv pa) (Parts_cons rfl (rv pi) Parts_nil))) (Vs.cons (p6.mono (pc.le.trans pk.le)) (Vs.cons (pd.mono pk.le) (Vs.cons pl Vs.nil))) rfl (by decide) (by decide) (fun pn po pp pq pr => ?_)
      have ps := Tch.ext pm pp
      refine L_buildSlice (xs := ([([d9, dg, dn] : List Deed), ([p1, p8, pg] : List Deed)] : List (List Deed))) Try.underlying29 tyz59 (Parts_cons rfl (rv dw) (Parts_cons rfl (rv po) Parts_nil)) (Vs.cons (dz.mono (p5.le.trans (pc.le.trans (pk.le.trans pp.le)))) (Vs.cons pr Vs.nil)) rfl (by decide) (by decide) (fun pu pv pw py pz => ?_)
      have q0 := Tch.ext ps pw
      refine asg (rv pv) (nn (sr (mv (rv pv) ?_)))
      obtain ⟨q1, q2, hr⟩ := bind_some hr
      refine L_calls cal18 (args1 (rv pv)) (dead_Decide_ok N _ _ _ pz q1 q2) (by decide) (fun q3 q4 q5 q6 => ?_)
      have q7 := Tch.ext q0 q5
      obtain ⟨q8, q9, rfl, qa, qb⟩ := q6
      obtain rfl := qb.int
      refine mv (rv (Value.tuple #[q8, vi (q1.2)])) (xt (rv (Value.tuple #[q8, vi (q1.2)])) (k := 0) rfl (xt (rv (Value.tuple #[q8, vi (q1.2)])) (k := 1) rfl (L_store ty40 d6 (rv q8) qa (((((((((((d7).ext dd).ext dk).ext ds).ext dx).ext p5).ext pc).ext pk).ext pp).ext pw).ext q5) (fun qc qd qe => ?_))))
      have qf := Tch.trans q7 qd (fun k hk => Or.inr (by subst hk; exact (Nat.le_trans kh.size kp)))
      refine asg (rv (vi (q1.2))) (nn (sr ?_))
      obtain ⟨qg, qh, hr⟩ := bind_some hr
      refine L_calls cal29 (args2 (rv (vi (-1))) (rv (vi 3))) (law08_recv_ok N _ (-1) 3 qg qh) (by decide) (fun qi qj qk ql => ?_)
      have qm := Tch.ext qf qk
      obtain ⟨qn, qo, hr⟩ := bind_some hr
      refine L_calls cal29 (args2 (rv (vi (-1))) (rv (vi 3))) (law08_recv_ok N _ (-1) 3 qn qo) (by decide) (fun qp qq qr qs => ?_)
      have qt := Tch.ext qm qr
      refine L_buildSlice (xs := ([qg, qn] : List Deed)) Try.underlying59 tyz64 (Parts_cons rfl (rv qi) (Parts_cons rfl (rv qp) Parts_nil)) (Vs.cons (ql.mono qr.le) (Vs.cons qs Vs.nil)) rfl (by decide) (by decide) (fun qu qv qw qx qy => ?_)
      have qz := Tch.ext qt qw
      obtain ⟨o0, o1, hr⟩ := bind_some hr
      refine L_calls cal28 (args2 (rv (vi 0)) (rv (vi 3))) (law08_send_ok N _ 0 3 o0 o1) (by decide) (fun o2 o3 o4 o5 => ?_)
      have o6 := Tch.ext qz o4
      refine L_buildSlice (xs := ([o0] : List Deed)) Try.underlying59 tyz64 (Parts_cons rfl (rv o2) Parts_nil) (Vs.cons o5 Vs.nil) rfl (by decide) (by decide) (fun o7 o8 o9 oa ob => ?_)
      have oc := Tch.ext o6 o9
      obtain ⟨od, oe, hr⟩ := bind_some hr
      refine L_calls cal28 (args2 (rv (vi 0)) (rv (vi 3))) (law08_send_ok N _ 0 3 od oe) (by decide) (fun og oh oi oj => ?_)
      have ok := Tch.ext oc oi
      refine L_buildSlice (xs := ([od] : List Deed)) Try.underlying59 tyz64 (Parts_cons rfl (rv og) Parts_nil) (Vs.cons oj Vs.nil) rfl (by decide) (by decide) (fun ol om oo op oq => ?_)
      have os := Tch.ext ok oo
      refine L_buildSlice (xs := ([([qg, qn] : List Deed), ([o0] : List Deed), ([od] : List Deed)] : List (List Deed))) Try.underlying29 tyz59 (Parts_cons rfl (rv qv) (Parts_cons rfl (rv o8) (Parts_cons rfl (rv om) Parts_nil))) (Vs.cons (qy.mono (o4.le.trans (o9.le.trans (oi.le.trans oo.le)))) (Vs.cons (ob.mono (oi.le.trans oo.le)) (Vs.cons oq Vs.nil))) rfl (by decide) (by decide) (fun ot ou ov ow ox => ?_)
      have oy := Tch.ext os ov
      obtain ⟨oz, b0, hr⟩ := bind_some hr
      refine L_calls cal18 (args1 (rv ou)) (dead_Decide_ok N _ _ _ ox oz b0) (by decide) (fun b1 b2 b3 b4 => ?_)
      have b5 := Tch.ext oy b3
      obtain ⟨b6, b7, rfl, b8, b9⟩ := b4
      obtain rfl := b9.int
      refine mv (rv (Value.tuple #[b6, vi (oz.2)])) (xt (rv (Value.tuple #[b6, vi (oz.2)])) (k := 0) rfl (xt (rv (Value.tuple #[b6, vi (oz.2)])) (k := 1) rfl (L_alloc (α := Verdict) (x := ⟨0, 0⟩) zero40 Verdict.zero_rel (by decide) (fun ba bb bc bd be => ?_))))
      have bf := Tch.ext b5 bc
      have bg : ∀ k, (fun k => k = kn) k → ¬ (fun k => k = bb) k := fun k u7 u9 => by have ua := (fun k (hk : k = kn) => lt_at hk ((((((((((qe).ext qk).ext qr).ext qw).ext o4).ext o9).ext oi).ext oo).ext ov).ext b3).lt) k u7; have ub := bd; subst u9; omega
      refine L_store_ro ty40 (rv (Value.pointer (some ⟨bb, 0, none⟩))) (rv b6) (b8.mono bc.le) (be) (fun bh bi bj => ?_)
      have bk := Tch.trans bf bi (fun k hk => Or.inr (by subst hk; exact (Nat.le_trans b5.size bd)))
      refine asg (rv (vi (oz.2))) (nn (W_seq ?_))
      obtain ⟨bl, bm, bn⟩ := bind_some hr
      refine W_seq_cut (fun f w => ∃ (s : St) (bo : Bool), s.w = w ∧ Ext s0 s ∧ Le bh s ∧ bo = bl ∧ f 157 = vb bo) ?_ ?_
      ·have hr := bm
       refine W_region (L_load_var ty40 d6 ((((((((((((qe).ext qk).ext qr).ext qw).ext o4).ext o9).ext oi).ext oo).ext ov).ext b3).ext bc).tch bi ((fun k hk => bg k hk) kn rfl)) (by decide) (fun bp bq => L_bld40_0_1 (s := bh) (rv (vi 2)) (rv (vi 2)) (Vint : V _ _ (2 : Int)) (Vint : V _ _ (2 : Int)) (by decide) (fun br bs => L_sne40 (rv bp) bq (rv br) bs (by decide) (mv (rv (vb (!decide (q1.1 = (⟨2, 2⟩ : Verdict))))) ?_))))
       rcases tf (!decide (q1.1 = (⟨2, 2⟩ : Verdict))) with bt | bt
       ·have hr := ite_t bt hr; exact gf 145 (rv (vb (!decide (q1.1 = (⟨2, 2⟩ : Verdict))))) bt (gf 145 (rv (vb (!decide (q1.1 = (⟨2, 2⟩ : Verdict))))) bt (pt (rv (vb (!decide (q1.1 = (⟨2, 2⟩ : Verdict))))) bt (rv (vb true)) (mv (rv (vb true)) (gf 149 (rv (vb true)) rfl (gf 149 (rv (vb true)) rfl (gf 149 (rv (vb true)) rfl (pt (rv (vb true)) rfl (rv (vb true)) (mv (rv (vb true)) (gf 154 (rv (vb true)) rfl (gf 154 (rv (vb true)) rfl (pt (rv (vb true)) rfl (rv (vb true)) (nn ⟨bh, true, rfl, bk, (Le.refl _), Option.some.inj hr, rfl⟩))))))))))))
       ·have hr := ite_f bt hr
        refine gt 145 (rv (vb (!decide (q1.1 = (⟨2, 2⟩ : Verdict))))) bt (mv (rv (vi (q1.2))) (gt 145 (rv (vb (!decide (q1.1 = (⟨2, 2⟩ : Verdict))))) bt (ne (rv (vi (q1.2))) (rv (vi 0)) (pf (rv (vb (!decide (q1.1 = (⟨2, 2⟩ : Verdict))))) bt (rv (vb (!decide (q1.2 = 0)))) (mv (rv (vb (!decide (q1.2 = 0)))) ?_)))))
        rcases tf (!decide (q1.2 = 0)) with bu | bu
        ·have hr := ite_t bu hr; exact gf 149 (rv (vb (!decide (q1.2 = 0)))) bu (gf 149 (rv (vb (!decide (q1.2 = 0)))) bu (gf 149 (rv (vb (!decide (q1.2 = 0)))) bu (pt (rv (vb (!decide (q1.2 = 0)))) bu (rv (vb true)) (mv (rv (vb true)) (gf 154 (rv (vb true)) rfl (gf 154 (rv (vb true)) rfl (pt (rv (vb true)) rfl (rv (vb true)) (nn ⟨bh, true, rfl, bk, (Le.refl _), Option.some.inj hr, rfl⟩))))))))
        ·have hr := ite_f bu hr
         refine gt 149 (rv (vb (!decide (q1.2 = 0)))) bu (ld ty40 (rv (Value.pointer (some ⟨bb, 0, none⟩))) bj (fun bv bw => gt 149 (rv (vb (!decide (q1.2 = 0)))) bu (L_bld40_0 (s := bh) (rv (vi 4)) (Vint : V _ _ (4 : Int)) (by decide) (fun bx bz => gt 149 (rv (vb (!decide (q1.2 = 0)))) bu (L_sne40 (rv bv) bw (rv bx) bz (by decide) (pf (rv (vb (!decide (q1.2 = 0)))) bu (rv (vb (!decide (oz.1 = (⟨4, 0⟩ : Verdict))))) (mv (rv (vb (!decide (oz.1 = (⟨4, 0⟩ : Verdict))))) ?_)))))))
         rcases tf (!decide (oz.1 = (⟨4, 0⟩ : Verdict))) with j00 | j00
         ·have hr := ite_t j00 hr; exact gf 154 (rv (vb (!decide (oz.1 = (⟨4, 0⟩ : Verdict))))) j00 (gf 154 (rv (vb (!decide (oz.1 = (⟨4, 0⟩ : Verdict))))) j00 (pt (rv (vb (!decide (oz.1 = (⟨4, 0⟩ : Verdict))))) j00 (rv (vb true)) (nn ⟨bh, true, rfl, bk, (Le.refl _), Option.some.inj hr, rfl⟩)))
         ·have hr := ite_f j00 hr; exact gt 154 (rv (vb (!decide (oz.1 = (⟨4, 0⟩ : Verdict))))) j00 (mv (rv (vi (oz.2))) (gt 154 (rv (vb (!decide (oz.1 = (⟨4, 0⟩ : Verdict))))) j00 (ne (rv (vi (oz.2))) (rv (vi 0)) (pf (rv (vb (!decide (oz.1 = (⟨4, 0⟩ : Verdict))))) j00 (rv (vb (!decide (oz.2 = 0)))) (nn ⟨bh, (!decide (oz.2 = 0)), rfl, bk, (Le.refl _), Option.some.inj hr, rfl⟩)))))
      ·rintro bp bq ⟨br, bo, rfl, bs, bt, bm, bu⟩
       subst bm
       have hr := bn
       try dsimp only at hr
       refine W_cond _ bu (fun bv => ?_) (fun bv => ?_)
       ·have hr := ite_t bv hr; refine sr (asg (rv (vb false)) (nn (W_ret (then_r ?_)))); obtain rfl := Option.some.inj hr; exact done1 (Or.inl rfl) Try.results10 rfl ⟨_, _, rfl, rfl, bs, Vbool⟩
       ·have hr := ite_f bv hr
        refine W_skip (then_n (sr ?_))
        obtain ⟨bw, bx, hr⟩ := bind_some hr
        refine L_calls cal29 (args2 (rv (vi 1)) (rv (vi 0))) (law08_recv_ok N _ 1 0 bw bx) (by decide) (fun bz j00 j01 j02 => ?_)
        have j03 := Tch.ext bs j01
        refine L_buildSlice (xs := ([bw] : List Deed)) Try.underlying59 tyz64 (Parts_cons rfl (rv bz) Parts_nil) (Vs.cons j02 Vs.nil) rfl (by decide) (by decide) (fun j04 j05 j06 j07 j08 => ?_)
        have j09 := Tch.ext j03 j06
        refine L_buildSlice (xs := ([] : List Deed)) Try.underlying59 tyz64 Parts_nil Vs.nil rfl (by decide) (by decide) (fun j0a j0b j0c j0d j0e => ?_)
        have j0f := Tch.ext j09 j0c
        refine L_buildSlice (xs := ([([bw] : List Deed), ([] : List Deed)] : List (List Deed))) Try.underlying29 tyz59 (Parts_cons rfl (rv j05) (Parts_cons rfl (rv j0b) Parts_nil)) (Vs.cons (j08.mono j0c.le) (Vs.cons j0e Vs.nil)) rfl (by decide) (by decide) (fun j0g j0h j0i j0j j0k => ?_)
        have j0l := Tch.ext j0f j0i
        obtain ⟨j0m, j0n, hr⟩ := bind_some hr
        refine L_calls cal24 (args2 (rv j0h) (rv (vi 0))) (dead_Blocks_ok N _ _ _ j0k 0 j0m j0n) (by decide) (fun j0o j0p j0q j0r => ?_)
        have j0s := Tch.ext j0l j0q
        obtain ⟨j0t, j0u, rfl, j0v, j0w⟩ := j0r
        obtain rfl := j0w.int
        refine mv (rv (Value.tuple #[j0t, vi (j0m.2)])) (xt (rv (Value.tuple #[j0t, vi (j0m.2)])) (k := 0) rfl (xt (rv (Value.tuple #[j0t, vi (j0m.2)])) (k := 1) rfl (asg (rv j0t) (asg (rv (vi (j0m.2))) (nn (sr ?_))))))
        obtain ⟨j0x, j0y, hr⟩ := bind_some hr
        refine L_calls cal29 (args2 (rv (vi 1)) (rv (vi 0))) (law08_recv_ok N _ 1 0 j0x j0y) (by decide) (fun j0z j10 j11 j12 => ?_)
        have j13 := Tch.ext j0s j11
        refine L_buildSlice (xs := ([j0x] : List Deed)) Try.underlying59 tyz64 (Parts_cons rfl (rv j0z) Parts_nil) (Vs.cons j12 Vs.nil) rfl (by decide) (by decide) (fun j14 j15 j16 j17 j18 => ?_)
        have j19 := Tch.ext j13 j16
        refine L_buildSlice (xs := ([] : List Deed)) Try.underlying59 tyz64 Parts_nil Vs.nil rfl (by decide) (by decide) (fun j1a j1b j1c j1d j1e => ?_)
        have j1f := Tch.ext j19 j1c
        refine L_buildSlice (xs := ([([j0x] : List Deed), ([] : List Deed)] : List (List Deed))) Try.underlying29 tyz59 (Parts_cons rfl (rv j15) (Parts_cons rfl (rv j1b) Parts_nil)) (Vs.cons (j18.mono j1c.le) (Vs.cons j1e Vs.nil)) rfl (by decide) (by decide) (fun j1g j1h j1i j1j j1k => ?_)
        have j1l := Tch.ext j1f j1i
        obtain ⟨j1m, j1n, hr⟩ := bind_some hr
        refine L_calls cal18 (args1 (rv j1h)) (dead_Decide_ok N _ _ _ j1k j1m j1n) (by decide) (fun j1o j1p j1q j1r => ?_)
        have j1s := Tch.ext j1l j1q
        obtain ⟨j1t, j1u, rfl, j1v, j1w⟩ := j1r
        obtain rfl := j1w.int
        refine mv (rv (Value.tuple #[j1t, vi (j1m.2)])) (xt (rv (Value.tuple #[j1t, vi (j1m.2)])) (k := 0) rfl (xt (rv (Value.tuple #[j1t, vi (j1m.2)])) (k := 1) rfl (L_alloc (α := Verdict) (x := ⟨0, 0⟩) zero40 Verdict.zero_rel (by decide) (fun j1x j1y j1z j20 j21 => ?_))))
        have j22 := Tch.ext j1s j1z
        refine L_store_ro ty40 (rv (Value.pointer (some ⟨j1y, 0, none⟩))) (rv j1t) (j1v.mono j1z.le) (j21) (fun j23 j24 j25 => ?_)
        have j26 := Tch.trans j22 j24 (fun k hk => Or.inr (by subst hk; exact (Nat.le_trans j1s.size j20)))
        refine asg (rv (vi (j1m.2))) (nn (sr (mv (rv (vi (j0m.2))) (el (rv (vi (j0m.2))) (rv (vi 0)) (mv (rv (vb (decide (j0m.2 = 0)))) ?_)))))
        rcases tf (decide (j0m.2 = 0)) with j27 | j27
        ·have hr := ite_t j27 hr
         refine gt 176 (rv (vb (decide (j0m.2 = 0)))) j27 (mv (rv (vi (j1m.2))) (gt 176 (rv (vb (decide (j0m.2 = 0)))) j27 (el (rv (vi (j1m.2))) (rv (vi 0)) (pt (rv (vb (decide (j0m.2 = 0)))) j27 (rv (vb (decide (j1m.2 = 0)))) (mv (rv (vb (decide (j1m.2 = 0)))) ?_)))))
         rcases tf (decide (j1m.2 = 0)) with j28 | j28
         ·have hr := ite_t j28 hr
          refine gt 180 (rv (vb (decide (j1m.2 = 0)))) j28 (mv (rv j0t) (gt 180 (rv (vb (decide (j1m.2 = 0)))) j28 (ln Try.underlying53 (rv j0t) (j0v.mono (j11.le.trans (j16.le.trans (j1c.le.trans (j1i.le.trans (j1q.le.trans (j1z.le.trans j24.le))))))) (gt 180 (rv (vb (decide (j1m.2 = 0)))) j28 (el (rv (vi ((j0m.1.length : Int)))) (rv (vi 1)) (pt (rv (vb (decide (j1m.2 = 0)))) j28 (rv (vb (decide ((j0m.1.length : Int) = 1)))) (mv (rv (vb (decide ((j0m.1.length : Int) = 1)))) ?_)))))))
          rcases tf (decide ((j0m.1.length : Int) = 1)) with j29 | j29
          ·have hr := ite_t j29 hr
           refine gt 185 (rv (vb (decide ((j0m.1.length : Int) = 1)))) j29 (mv (rv j0t) (gt 185 (rv (vb (decide ((j0m.1.length : Int) = 1)))) j29 ?_))
           obtain ⟨j2a, j2b, hr⟩ := bind_some hr
           refine ix Try.underlying53 ty58.inf (rv j0t) (j0v.mono (j11.le.trans (j16.le.trans (j1c.le.trans (j1i.le.trans (j1q.le.trans (j1z.le.trans j24.le))))))) (rv (vi 0)) j2b (fun j2c j2d => gt 185 (rv (vb (decide ((j0m.1.length : Int) = 1)))) j29 (fa fld58_0 Block.of_Process (rv j2c) j2d (fun j2e j2f => gt 185 (rv (vb (decide ((j0m.1.length : Int) = 1)))) j29 (li ty3 (rv j2e) j2f (gt 185 (rv (vb (decide ((j0m.1.length : Int) = 1)))) j29 (el (rv (vi (j2a.Proc))) (rv (vi 0)) (pt (rv (vb (decide ((j0m.1.length : Int) = 1)))) j29 (rv (vb (decide (j2a.Proc = 0)))) (mv (rv (vb (decide (j2a.Proc = 0)))) ?_))))))))
           rcases tf (decide (j2a.Proc = 0)) with j2g | j2g
           ·have hr := ite_t j2g hr
            refine gt 192 (rv (vb (decide (j2a.Proc = 0)))) j2g (mv (rv j0t) (gt 192 (rv (vb (decide (j2a.Proc = 0)))) j2g ?_))
            obtain ⟨j2h, j2i, hr⟩ := bind_some hr
            refine ix Try.underlying53 ty58.inf (rv j0t) (j0v.mono (j11.le.trans (j16.le.trans (j1c.le.trans (j1i.le.trans (j1q.le.trans (j1z.le.trans j24.le))))))) (rv (vi 0)) j2i (fun j2j j2k => gt 192 (rv (vb (decide (j2a.Proc = 0)))) j2g (fa fld58_2 Block.of_For (rv j2j) j2k (fun j2l j2m => gt 192 (rv (vb (decide (j2a.Proc = 0)))) j2g (ld ty23 (rv j2l) j2m (fun j2n j2o => gt 192 (rv (vb (decide (j2a.Proc = 0)))) j2g (L_buildSlice (xs := ([1] : List Int)) Try.underlying23 tyz3 (Parts_cons rfl (rv (vi 1)) Parts_nil) (Vs.cons Vint Vs.nil) rfl (by decide) (by decide) (fun j2p j2q j2r j2s j2t => ?_)))))))
            have j2u := Tch.ext j26 j2r
            refine gt 192 (rv (vb (decide (j2a.Proc = 0)))) j2g ?_
            obtain ⟨j2v, j2w, hr⟩ := bind_some hr
            refine L_calls cal14 (args2 (rv j2n) (rv j2q)) (ref01_SameInts_ok N _ _ _ (j2o.mono j2r.le) _ _ j2t j2v j2w) (by decide) (fun j2x j2y j2z j30 => ?_)
            have j31 := Tch.ext j2u j2z
            obtain rfl := j30.bool
            refine pt (rv (vb (decide (j2a.Proc = 0)))) j2g (rv (vb j2v)) (mv (rv (vb j2v)) ?_)
            rcases tf (j2v) with j32 | j32
            ·have hr := ite_t j32 hr; refine gt 200 (rv (vb j2v)) j32 (fa fld40_0 Verdict.of_Kind (rv (Value.pointer (some ⟨j1y, 0, none⟩))) (j25.mono (j2r.le.trans j2z.le)) (fun j33 j34 => gt 200 (rv (vb j2v)) j32 (li ty3 (rv j33) j34 (gt 200 (rv (vb j2v)) j32 (el (rv (vi (j1m.1.Kind))) (rv (vi 3)) (pt (rv (vb j2v)) j32 (rv (vb (decide (j1m.1.Kind = 3)))) (asg (rv (vb (decide (j1m.1.Kind = 3)))) (nn (W_ret ?_))))))))); obtain rfl := Option.some.inj hr; exact done1 (Or.inl rfl) Try.results10 rfl ⟨_, _, rfl, rfl, j31, Vbool⟩
            ·have hr := ite_f j32 hr; refine gf 200 (rv (vb j2v)) j32 (gf 200 (rv (vb j2v)) j32 (gf 200 (rv (vb j2v)) j32 (pf (rv (vb j2v)) j32 (rv (vb false)) (asg (rv (vb false)) (nn (W_ret ?_)))))); obtain rfl := Option.some.inj hr; exact done1 (Or.inl rfl) Try.results10 rfl ⟨_, _, rfl, rfl, j31, Vbool⟩
           ·have hr := ite_f j2g hr; refine gf 192 (rv (vb (decide (j2a.Proc = 0)))) j2g (gf 192 (rv (vb (decide (j2a.Proc = 0)))) j2g (gf 192 (rv (vb (decide (j2a.Proc = 0)))) j2g (gf 192 (rv (vb (decide (j2a.Proc = 0)))) j2g (gf 192 (rv (vb (decide (j2a.Proc = 0)))) j2g (gf 192 (rv (vb (decide (j2a.Proc = 0)))) j2g (pf (rv (vb (decide (j2a.Proc = 0)))) j2g (rv (vb false)) (mv (rv (vb false)) (gf 200 (rv (vb false)) rfl (gf 200 (rv (vb false)) rfl (gf 200 (rv (vb false)) rfl (pf (rv (vb false)) rfl (rv (vb false)) (asg (rv (vb false)) (nn ?_))))))))))))); refine W_ret ?_; obtain rfl := Option.some.inj hr; exact done1 (Or.inl rfl) Try.results10 rfl ⟨_, _, rfl, rfl, j26, Vbool⟩
          ·have hr := ite_f j29 hr; refine gf 185 (rv (vb (decide ((j0m.1.length : Int) = 1)))) j29 (gf 185 (rv (vb (decide ((j0m.1.length : Int) = 1)))) j29 (gf 185 (rv (vb (decide ((j0m.1.length : Int) = 1)))) j29 (gf 185 (rv (vb (decide ((j0m.1.length : Int) = 1)))) j29 (gf 185 (rv (vb (decide ((j0m.1.length : Int) = 1)))) j29 (pf (rv (vb (decide ((j0m.1.length : Int) = 1)))) j29 (rv (vb false)) (mv (rv (vb false)) (gf 192 (rv (vb false)) rfl (gf 192 (rv (vb false)) rfl (gf 192 (rv (vb false)) rfl (gf 192 (rv (vb false)) rfl (gf 192 (rv (vb false)) rfl (gf 192 (rv (vb false)) rfl (pf (rv (vb false)) rfl (rv (vb false)) ?_))))))))))))); refine mv (rv (vb false)) (gf 200 (rv (vb false)) rfl (gf 200 (rv (vb false)) rfl (gf 200 (rv (vb false)) rfl (pf (rv (vb false)) rfl (rv (vb false)) (asg (rv (vb false)) (nn (W_ret ?_))))))); obtain rfl := Option.some.inj hr; exact done1 (Or.inl rfl) Try.results10 rfl ⟨_, _, rfl, rfl, j26, Vbool⟩
         ·have hr := ite_f j28 hr; refine gf 180 (rv (vb (decide (j1m.2 = 0)))) j28 (gf 180 (rv (vb (decide (j1m.2 = 0)))) j28 (gf 180 (rv (vb (decide (j1m.2 = 0)))) j28 (pf (rv (vb (decide (j1m.2 = 0)))) j28 (rv (vb false)) (mv (rv (vb false)) (gf 185 (rv (vb false)) rfl (gf 185 (rv (vb false)) rfl (gf 185 (rv (vb false)) rfl (gf 185 (rv (vb false)) rfl (gf 185 (rv (vb false)) rfl (pf (rv (vb false)) rfl (rv (vb false)) (mv (rv (vb false)) (gf 192 (rv (vb false)) rfl (gf 192 (rv (vb false)) rfl ?_))))))))))))); refine gf 192 (rv (vb false)) rfl (gf 192 (rv (vb false)) rfl (gf 192 (rv (vb false)) rfl (gf 192 (rv (vb false)) rfl (pf (rv (vb false)) rfl (rv (vb false)) (mv (rv (vb false)) (gf 200 (rv (vb false)) rfl (gf 200 (rv (vb false)) rfl (gf 200 (rv (vb false)) rfl (pf (rv (vb false)) rfl (rv (vb false)) (asg (rv (vb false)) (nn (W_ret ?_)))))))))))); obtain rfl := Option.some.inj hr; exact done1 (Or.inl rfl) Try.results10 rfl ⟨_, _, rfl, rfl, j26, Vbool⟩
        ·have hr := ite_f j27 hr; refine gf 176 (rv (vb (decide (j0m.2 = 0)))) j27 (gf 176 (rv (vb (decide (j0m.2 = 0)))) j27 (pf (rv (vb (decide (j0m.2 = 0)))) j27 (rv (vb false)) (mv (rv (vb false)) (gf 180 (rv (vb false)) rfl (gf 180 (rv (vb false)) rfl (gf 180 (rv (vb false)) rfl (pf (rv (vb false)) rfl (rv (vb false)) (mv (rv (vb false)) (gf 185 (rv (vb false)) rfl (gf 185 (rv (vb false)) rfl (gf 185 (rv (vb false)) rfl (gf 185 (rv (vb false)) rfl (gf 185 (rv (vb false)) rfl ?_))))))))))))); refine pf (rv (vb false)) rfl (rv (vb false)) (mv (rv (vb false)) (gf 192 (rv (vb false)) rfl (gf 192 (rv (vb false)) rfl (gf 192 (rv (vb false)) rfl (gf 192 (rv (vb false)) rfl (gf 192 (rv (vb false)) rfl (gf 192 (rv (vb false)) rfl (pf (rv (vb false)) rfl (rv (vb false)) (mv (rv (vb false)) (gf 200 (rv (vb false)) rfl (gf 200 (rv (vb false)) rfl (gf 200 (rv (vb false)) rfl (pf (rv (vb false)) rfl (rv (vb false)) ?_))))))))))))); refine asg (rv (vb false)) (nn (W_ret ?_)); obtain rfl := Option.some.inj hr; exact done1 (Or.inl rfl) Try.results10 rfl ⟨_, _, rfl, rfl, j26, Vbool⟩

end Go.Arm
