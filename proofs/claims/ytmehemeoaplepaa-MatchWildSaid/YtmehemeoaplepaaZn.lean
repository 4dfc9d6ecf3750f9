/- Worlds of the program and walks of its functions. -/
import Derived.Test.YtmehemeoaplepaaZm
namespace Go.Proofs.Ytmehemeoaplepaa
noncomputable section
open Go Go.X Go.Arm Go.Mt
abbrev A17x1 (W : Wd) (e : En) (i : Nat) (no : Nat) (p : Nat) : Wd := (W.setPr p { W.pr p with crds := (W.pr p).crds.set i (((W.pr p).crds.getD i 0) - 1) }).setWay p (W.rq p no).peer ((W.setPr p { W.pr p with crds := (W.pr p).crds.set i (((W.pr p).crds.getD i 0) - 1) }).way p (W.rq p no).peer ++ [Pk.eager e (W.rq p no).data])
theorem dec_int {x : Int} (h0 : 0 < x) (h1 : x < (big : Nat)) : Value.int .i64 (IntKind.i64.wrap (x - 1)) = nv (x - 1) := by
 have h1 : x < 1000000000 := h1
 have : IntKind.i64.wrap (x - 1) = x - 1 := by rw [IntKind.wrap_i64]; omega
 rw [this]; rfl
theorem _root_.Go.Arm.Dr.ext3 {h0 h h' : AH} {G : Gh} {v : Value} {d : By} (H : Dr h G.ro v d) (s : Sm (Ow h0 G) h h') : Dr h' G.ro v d := ⟨H.1.sm s (fun b hb hx => hx.2.2 (H.2 b hb)), H.2⟩
set_option maxHeartbeats 2000000 in
theorem send_ok {W : Wd} {G : Gh} {h : AH} {p no : Nat} {e : En} {W' : Wd} (R : Rep W G h) (hp : p < W.n) (hr : G.C (.rq p no) ≠ .no) (he : W.send p no e = some W') :
   Arm.Calls Try.prog 53 [ptr (G.B .wd), nv (p : Int), ptr (G.B (.rq p no)), .agg ⟨[nv e.src, nv e.ctx, nv e.tag, nv e.size, nv e.parts]⟩] h (fun r => Nxt W' G h r.2) := by
 obtain ⟨dv0, hd0, c0⟩ := R.rqL hp hr
 replace c0 : Arm.Cl h (G.B (.rq p no)) [nk (W.rq p no).no, nv (W.rq p no).peer, nv (W.rq p no).ctx, nv (W.rq p no).tag, nv (W.rq p no).room, .bool (W.rq p no).send, .bool (W.rq p no).sync, .bool (W.rq p no).pers, .bool (W.rq p no).act, .bool (W.rq p no).done, nk (W.rq p no).parts, nk (W.rq p no).size, dv0, G.S (.pcs p no), nk (W.rq p no).gone, G.S (.snt p no), .bool (W.rq p no).clr, nv (W.rq p no).st.src, nv (W.rq p no).st.tag, nv (W.rq p no).st.size, nv (W.rq p no).st.err] := c0
 rcases Wd.send_split he with hc | hc | hc | hc | hc | hc
 · obtain ⟨h1, rfl⟩ := hc
   refine Calls_W 102 Try.f53 ?_
   have T0 : Sm Nix h h := .refl
   refine W_seq (W_region ?_)
   have m115 : ¬ (Gh.mut G) h.next ∧ ¬ (Gh.ro G) h.next := ⟨(R.ext T0).op.new (Nat.le_refl _), (R.ext T0).op.newr (Nat.le_refl _)⟩
   refine L_nwc [nv e.src, nv e.ctx, nv e.tag, nv e.size, nv e.parts] .ptr rfl rfl kr fun h115 c115 t115 n115 => ?_
   have T115 := T0.ext t115
   have N115 := T115.nx
   refine L_nil (W_sg 3 kr (L_ld _ rfl rfl kr ((R.ext T115).wdL.ld (o := 1) kr rfl) (L_g 1 kr ?_)))
   obtain ⟨b1, o1, i1, l1⟩ := (R.ext T115).prsAt (P := Try.prog) (T := 74) (el := 77) kr kr kr hp
   refine L_ix _ rfl rfl kr kr (i1) (L_ld _ rfl rfl kr (l1) (L_g 1 kr (L_nil (W_block (W_sg 3 kr (L_ld _ rfl rfl kr ((c0.ext T115).ld (o := 1) kr rfl) (L_i ((W.rq p no).peer) (-2) (.bool true) rfl rfl kr kr rfl (by simp; omega) (L_g 1 kr (L_nil ?_)))))))))
   refine W_cond true kr (fun _ => ?_) (fun e => by cases e)
   refine W_region (L_g 3 kr ?_)
   obtain ⟨dv9, hd9, c9⟩ := (R.ext T115).rqL hp hr
   replace c9 : Cl h115 (Gh.B G (.rq p no)) [nk (W.rq p no).no, nv (W.rq p no).peer, nv (W.rq p no).ctx, nv (W.rq p no).tag, nv (W.rq p no).room, .bool (W.rq p no).send, .bool (W.rq p no).sync, .bool (W.rq p no).pers, .bool (W.rq p no).act, .bool (W.rq p no).done, nk (W.rq p no).parts, nk (W.rq p no).size, dv9, G.S (.pcs p no), nk (W.rq p no).gone, G.S (.snt p no), .bool (W.rq p no).clr, nv (W.rq p no).st.src, nv (W.rq p no).st.tag, nv (W.rq p no).st.size, nv (W.rq p no).st.err] := c9
   obtain ⟨h116, e116, d116, t116, n116⟩ := c9.s1 4 9 (.bool true)
   have N116 : Nxt (W.setRq p no { (W.rq p no) with done := true }) G h115 h116 := (R.ext T115).stRq hp hr (r := { (W.rq p no) with done := true }) hd9 d116 t116 rfl rfl rfl
   clear hd9
   refine L_st _ rfl rfl rfl kr kr (e116) ?_
   obtain ⟨S116, C116, ro116, R116, Y116⟩ := N116
   have X116 := ((Gx.refl).trans (Gx.of T115)).trans Y116
   have hr_116 := (Y116.keep _ hr).1
   have m115_116 : ¬ (Gh.mut ⟨Gh.B G, S116, C116, ro116⟩) (h.next) ∧ ¬ (Gh.ro ⟨Gh.B G, S116, C116, ro116⟩) (h.next) := ⟨fun hm => (Y116.mu _ hm).elim m115.1 (fun e => by have := c115.lt; omega), fun hm => (Y116.ron _ hm).elim m115.2 (fun e => by have := c115.lt; omega)⟩
   have T116 : Sm (Ow h (⟨Gh.B G, S116, C116, ro116⟩ : Gh)) h116 h116 := .refl
   refine L_nil ?_
   repeat with_reducible refine blk_norm ?_
   refine done_of (v := .tuple ⟨[]⟩) (.inr rfl) kr ?_
   exact ⟨_, _, _, (R116.ow T116), ((X116).ow T116)⟩
 · obtain ⟨h1, hs, hput⟩ := hc
   unfold Wd.put at hput
   split at hput
   rotate_right
   · cases hput
   rename_i hlw
   obtain rfl := Option.some.inj hput
   refine Calls_W 102 Try.f53 ?_
   have T0 : Sm Nix h h := .refl
   refine W_seq (W_region ?_)
   have m117 : ¬ (Gh.mut G) h.next ∧ ¬ (Gh.ro G) h.next := ⟨(R.ext T0).op.new (Nat.le_refl _), (R.ext T0).op.newr (Nat.le_refl _)⟩
   refine L_nwc [nv e.src, nv e.ctx, nv e.tag, nv e.size, nv e.parts] .ptr rfl rfl kr fun h117 c117 t117 n117 => ?_
   have T117 := T0.ext t117
   have N117 := T117.nx
   refine L_nil (W_sg 3 kr (L_ld _ rfl rfl kr ((R.ext T117).wdL.ld (o := 1) kr rfl) (L_g 1 kr ?_)))
   obtain ⟨b1, o1, i1, l1⟩ := (R.ext T117).prsAt (P := Try.prog) (T := 74) (el := 77) kr kr kr hp
   refine L_ix _ rfl rfl kr kr (i1) (L_ld _ rfl rfl kr (l1) (L_g 1 kr (L_nil (W_block (W_sg 3 kr (L_ld _ rfl rfl kr ((c0.ext T117).ld (o := 1) kr rfl) (L_i ((W.rq p no).peer) (-2) (.bool false) rfl rfl kr kr rfl (by simp; omega) (L_g 1 kr (L_nil ?_)))))))))
   refine W_cond false kr (fun e => by cases e) (fun _ => ?_)
   refine W_seq (W_drawn kr (D_l (l := [0,1,2,3,4,5,6,7,8,9,10,11,12,13,14,15,16,17,18,19,20,21,22,23,24,25,26,27,28,29,30,31,32,33]) kr kr Rk_nil (NS_b 3 kr (NS_ld _ rfl rfl kr kr kr (((c0.ext T117).ld (o := 6) kr (by rw [← hs]; rfl) : aLoad Try.prog 4 ⟨G.B (.rq p no), 6, none⟩ h117 = some (.bool true))) (NS_b 30 kr (NS_nil ?_))))))
   refine W_cond true kr (fun _ => ?_) (fun e => by cases e)
   refine W_drawn kr (D_e (e := 13) (l := [0,1,2,3,4,5,6,7,8,9,10,11,12]) (s' := []) kr kr rfl kr Rk_nil (NS_b 5 kr (NS_ld _ rfl rfl kr kr kr ((c0.ext T117).ld (o := 1) kr rfl) (NS_ld _ rfl rfl kr kr kr (Cl.allN (n := 5) c117 rfl kr) (NS_b 3 kr (NS_ld _ rfl rfl kr kr kr ((c0.ext T117).ld (o := 0) kr rfl) (NS_b 2 kr (NS_nil (L_c rfl rfl kr (put_ok (R.ext T117) (x := .ask e (W.rq p no).no) rfl hlw) ?_)))))))))
   rintro v118 h118 N118
   dsimp only at N118
   obtain ⟨S118, C118, ro118, R118, Y118⟩ := N118
   have X118 := ((Gx.refl).trans (Gx.of T117)).trans Y118
   have hr_118 := (Y118.keep _ hr).1
   have m117_118 : ¬ (Gh.mut ⟨Gh.B G, S118, C118, ro118⟩) (h.next) ∧ ¬ (Gh.ro ⟨Gh.B G, S118, C118, ro118⟩) (h.next) := ⟨fun hm => (Y118.mu _ hm).elim m117.1 (fun e => by have := c117.lt; omega), fun hm => (Y118.ron _ hm).elim m117.2 (fun e => by have := c117.lt; omega)⟩
   have T118 : Sm (Ow h (⟨Gh.B G, S118, C118, ro118⟩ : Gh)) h118 h118 := .refl
   refine L_nil ⟨rfl, ?_⟩
   refine D_l (l := []) kr kr Rk_nil (NS_nil ?_)
   repeat with_reducible refine blk_norm ?_
   refine done_of (v := .tuple ⟨[]⟩) (.inr rfl) kr ?_
   exact ⟨_, _, _, (R118.ow T118), ((X118).ow T118)⟩
 · obtain ⟨h1, hs, hpp, hput⟩ := hc
   unfold Wd.put at hput
   split at hput
   rotate_right
   · cases hput
   rename_i hlw
   obtain rfl := Option.some.inj hput
   refine Calls_W 102 Try.f53 ?_
   have T0 : Sm Nix h h := .refl
   refine W_seq (W_region ?_)
   have m119 : ¬ (Gh.mut G) h.next ∧ ¬ (Gh.ro G) h.next := ⟨(R.ext T0).op.new (Nat.le_refl _), (R.ext T0).op.newr (Nat.le_refl _)⟩
   refine L_nwc [nv e.src, nv e.ctx, nv e.tag, nv e.size, nv e.parts] .ptr rfl rfl kr fun h119 c119 t119 n119 => ?_
   have T119 := T0.ext t119
   have N119 := T119.nx
   refine L_nil (W_sg 3 kr (L_ld _ rfl rfl kr ((R.ext T119).wdL.ld (o := 1) kr rfl) (L_g 1 kr ?_)))
   obtain ⟨b1, o1, i1, l1⟩ := (R.ext T119).prsAt (P := Try.prog) (T := 74) (el := 77) kr kr kr hp
   refine L_ix _ rfl rfl kr kr (i1) (L_ld _ rfl rfl kr (l1) (L_g 1 kr (L_nil (W_block (W_sg 3 kr (L_ld _ rfl rfl kr ((c0.ext T119).ld (o := 1) kr rfl) (L_i ((W.rq p no).peer) (-2) (.bool false) rfl rfl kr kr rfl (by simp; omega) (L_g 1 kr (L_nil ?_)))))))))
   refine W_cond false kr (fun e => by cases e) (fun _ => ?_)
   refine W_seq (W_drawn kr (D_l (l := [0,1,2,3,4,5,6,7,8,9,10,11,12,13,14,15,16,17,18,19,20,21,22,23,24,25,26,27,28,29,30,31,32,33]) kr kr Rk_nil (NS_b 3 kr (NS_ld _ rfl rfl kr kr kr (((c0.ext T119).ld (o := 6) kr (by rw [← hs]; rfl) : aLoad Try.prog 4 ⟨G.B (.rq p no), 6, none⟩ h119 = some (.bool false))) (NS_b 4 kr (NS_ld _ rfl rfl kr kr kr ((c0.ext T119).ld (o := 10) kr rfl) (NS_i (((W.rq p no).parts : Int)) (0) (.bool true) rfl rfl kr kr kr kr rfl (by simp; omega) (NS_b 24 kr (NS_nil ?_)))))))))
   refine W_cond true kr (fun _ => ?_) (fun e => by cases e)
   refine W_drawn kr (D_e (e := 13) (l := [0,1,2,3,4,5,6,7,8,9,10,11,12]) (s' := []) kr kr rfl kr Rk_nil (NS_b 5 kr (NS_ld _ rfl rfl kr kr kr ((c0.ext T119).ld (o := 1) kr rfl) (NS_ld _ rfl rfl kr kr kr (Cl.allN (n := 5) c119 rfl kr) (NS_b 3 kr (NS_ld _ rfl rfl kr kr kr ((c0.ext T119).ld (o := 0) kr rfl) (NS_b 2 kr (NS_nil (L_c rfl rfl kr (put_ok (R.ext T119) (x := .ask e (W.rq p no).no) rfl hlw) ?_)))))))))
   rintro v120 h120 N120
   dsimp only at N120
   obtain ⟨S120, C120, ro120, R120, Y120⟩ := N120
   have X120 := ((Gx.refl).trans (Gx.of T119)).trans Y120
   have hr_120 := (Y120.keep _ hr).1
   have m119_120 : ¬ (Gh.mut ⟨Gh.B G, S120, C120, ro120⟩) (h.next) ∧ ¬ (Gh.ro ⟨Gh.B G, S120, C120, ro120⟩) (h.next) := ⟨fun hm => (Y120.mu _ hm).elim m119.1 (fun e => by have := c119.lt; omega), fun hm => (Y120.ron _ hm).elim m119.2 (fun e => by have := c119.lt; omega)⟩
   have T120 : Sm (Ow h (⟨Gh.B G, S120, C120, ro120⟩ : Gh)) h120 h120 := .refl
   refine L_nil ⟨rfl, ?_⟩
   refine D_l (l := []) kr kr Rk_nil (NS_nil ?_)
   repeat with_reducible refine blk_norm ?_
   refine done_of (v := .tuple ⟨[]⟩) (.inr rfl) kr ?_
   exact ⟨_, _, _, (R120.ow T120), ((X120).ow T120)⟩
 · obtain ⟨h1, hs, hpp, hll, hput⟩ := hc
   unfold Wd.put at hput
   split at hput
   rotate_right
   · cases hput
   rename_i hlw
   obtain rfl := Option.some.inj hput
   refine Calls_W 102 Try.f53 ?_
   have T0 : Sm Nix h h := .refl
   refine W_seq (W_region ?_)
   have m121 : ¬ (Gh.mut G) h.next ∧ ¬ (Gh.ro G) h.next := ⟨(R.ext T0).op.new (Nat.le_refl _), (R.ext T0).op.newr (Nat.le_refl _)⟩
   refine L_nwc [nv e.src, nv e.ctx, nv e.tag, nv e.size, nv e.parts] .ptr rfl rfl kr fun h121 c121 t121 n121 => ?_
   have T121 := T0.ext t121
   have N121 := T121.nx
   refine L_nil (W_sg 3 kr (L_ld _ rfl rfl kr ((R.ext T121).wdL.ld (o := 1) kr rfl) (L_g 1 kr ?_)))
   obtain ⟨b1, o1, i1, l1⟩ := (R.ext T121).prsAt (P := Try.prog) (T := 74) (el := 77) kr kr kr hp
   refine L_ix _ rfl rfl kr kr (i1) (L_ld _ rfl rfl kr (l1) (L_g 1 kr (L_nil (W_block (W_sg 3 kr (L_ld _ rfl rfl kr ((c0.ext T121).ld (o := 1) kr rfl) (L_i ((W.rq p no).peer) (-2) (.bool false) rfl rfl kr kr rfl (by simp; omega) (L_g 1 kr (L_nil ?_)))))))))
   refine W_cond false kr (fun e => by cases e) (fun _ => ?_)
   refine W_seq (W_drawn kr (D_l (l := [0,1,2,3,4,5,6,7,8,9,10,11,12,13,14,15,16,17,18,19,20,21,22,23,24,25,26,27,28,29,30,31,32,33]) kr kr Rk_nil (NS_b 3 kr (NS_ld _ rfl rfl kr kr kr (((c0.ext T121).ld (o := 6) kr (by rw [← hs]; rfl) : aLoad Try.prog 4 ⟨G.B (.rq p no), 6, none⟩ h121 = some (.bool false))) (NS_b 4 kr (NS_ld _ rfl rfl kr kr kr ((c0.ext T121).ld (o := 10) kr rfl) (NS_i (((W.rq p no).parts : Int)) (0) (.bool false) rfl rfl kr kr kr kr rfl (by simp; omega) (NS_b 3 kr (NS_ld _ rfl rfl kr kr kr (c121.ld (o := 3) kr rfl) (NS_b 3 kr (NS_ld _ rfl rfl kr kr kr ((R.ext T121).wdL.ld (o := 0) kr rfl) ?_)))))))))))
   refine NS_i (e.size) (W.lim) (.bool true) rfl rfl kr kr kr kr rfl (by simp; omega) (NS_b 15 kr (NS_nil ?_))
   refine W_cond true kr (fun _ => ?_) (fun e => by cases e)
   refine W_drawn kr (D_e (e := 13) (l := [0,1,2,3,4,5,6,7,8,9,10,11,12]) (s' := []) kr kr rfl kr Rk_nil (NS_b 5 kr (NS_ld _ rfl rfl kr kr kr ((c0.ext T121).ld (o := 1) kr rfl) (NS_ld _ rfl rfl kr kr kr (Cl.allN (n := 5) c121 rfl kr) (NS_b 3 kr (NS_ld _ rfl rfl kr kr kr ((c0.ext T121).ld (o := 0) kr rfl) (NS_b 2 kr (NS_nil (L_c rfl rfl kr (put_ok (R.ext T121) (x := .ask e (W.rq p no).no) rfl hlw) ?_)))))))))
   rintro v122 h122 N122
   dsimp only at N122
   obtain ⟨S122, C122, ro122, R122, Y122⟩ := N122
   have X122 := ((Gx.refl).trans (Gx.of T121)).trans Y122
   have hr_122 := (Y122.keep _ hr).1
   have m121_122 : ¬ (Gh.mut ⟨Gh.B G, S122, C122, ro122⟩) (h.next) ∧ ¬ (Gh.ro ⟨Gh.B G, S122, C122, ro122⟩) (h.next) := ⟨fun hm => (Y122.mu _ hm).elim m121.1 (fun e => by have := c121.lt; omega), fun hm => (Y122.ron _ hm).elim m121.2 (fun e => by have := c121.lt; omega)⟩
   have T122 : Sm (Ow h (⟨Gh.B G, S122, C122, ro122⟩ : Gh)) h122 h122 := .refl
   refine L_nil ⟨rfl, ?_⟩
   refine D_l (l := []) kr kr Rk_nil (NS_nil ?_)
   repeat with_reducible refine blk_norm ?_
   refine done_of (v := .tuple ⟨[]⟩) (.inr rfl) kr ?_
   exact ⟨_, _, _, (R122.ow T122), ((X122).ow T122)⟩
 · obtain ⟨i, hpi, hi, hs, hpp, hll, hz, hput⟩ := hc
   unfold Wd.put at hput
   split at hput
   rotate_right
   · cases hput
   rename_i hlw
   obtain rfl := Option.some.inj hput
   refine Calls_W 102 Try.f53 ?_
   have T0 : Sm Nix h h := .refl
   refine W_seq (W_region ?_)
   have m123 : ¬ (Gh.mut G) h.next ∧ ¬ (Gh.ro G) h.next := ⟨(R.ext T0).op.new (Nat.le_refl _), (R.ext T0).op.newr (Nat.le_refl _)⟩
   refine L_nwc [nv e.src, nv e.ctx, nv e.tag, nv e.size, nv e.parts] .ptr rfl rfl kr fun h123 c123 t123 n123 => ?_
   have T123 := T0.ext t123
   have N123 := T123.nx
   refine L_nil (W_sg 3 kr (L_ld _ rfl rfl kr ((R.ext T123).wdL.ld (o := 1) kr rfl) (L_g 1 kr ?_)))
   obtain ⟨b1, o1, i1, l1⟩ := (R.ext T123).prsAt (P := Try.prog) (T := 74) (el := 77) kr kr kr hp
   refine L_ix _ rfl rfl kr kr (i1) (L_ld _ rfl rfl kr (l1) (L_g 1 kr (L_nil (W_block (W_sg 3 kr (L_ld _ rfl rfl kr ((c0.ext T123).ld (o := 1) kr rfl) (L_i ((W.rq p no).peer) (-2) (.bool false) rfl rfl kr kr rfl (by simp; omega) (L_g 1 kr (L_nil ?_)))))))))
   refine W_cond false kr (fun e => by cases e) (fun _ => ?_)
   refine W_seq (W_drawn kr (D_l (l := [0,1,2,3,4,5,6,7,8,9,10,11,12,13,14,15,16,17,18,19,20,21,22,23,24,25,26,27,28,29,30,31,32,33]) kr kr Rk_nil (NS_b 3 kr (NS_ld _ rfl rfl kr kr kr (((c0.ext T123).ld (o := 6) kr (by rw [← hs]; rfl) : aLoad Try.prog 4 ⟨G.B (.rq p no), 6, none⟩ h123 = some (.bool false))) (NS_b 4 kr (NS_ld _ rfl rfl kr kr kr ((c0.ext T123).ld (o := 10) kr rfl) (NS_i (((W.rq p no).parts : Int)) (0) (.bool false) rfl rfl kr kr kr kr rfl (by simp; omega) (NS_b 3 kr (NS_ld _ rfl rfl kr kr kr (c123.ld (o := 3) kr rfl) (NS_b 3 kr (NS_ld _ rfl rfl kr kr kr ((R.ext T123).wdL.ld (o := 0) kr rfl) ?_)))))))))))
   refine NS_i (e.size) (W.lim) (.bool false) rfl rfl kr kr kr kr rfl (by simp; omega) (NS_b 5 kr (NS_ld _ rfl rfl kr kr kr (((R.ext T123).prL hp).ld (o := 6) kr rfl) (NS_b 3 kr (NS_ld _ rfl rfl kr kr kr (((c0.ext T123).ld (o := 1) kr (by rw [← hpi]; rfl) : aLoad Try.prog 3 ⟨G.B (.rq p no), 1, none⟩ h123 = some (nv (i : Int)))) ?_))))
   have hci : ((W.pr p).crds.map nv)[i]? = some (nv ((W.pr p).crds.getD i 0)) := by rw [List.getElem?_map, List.getElem?_eq_getElem hi, List.getD_eq_getElem?_getD, List.getElem?_eq_getElem hi]; rfl
   obtain ⟨pa, xa, i1, i2, i3, i4, i5⟩ := ((R.ext T123).crd hp).elem (P := Try.prog) (T := 29) (el := 3) kr kr kr hi .i64
   obtain rfl : xa = nv ((W.pr p).crds.getD i 0) := Option.some.inj (i2.symm.trans hci)
   refine NS_ix _ rfl rfl kr kr kr kr (i1) (NS_ld _ rfl rfl kr kr kr (i3) ?_)
   refine NS_i (((W.pr p).crds.getD i 0)) (0) (.bool true) rfl rfl kr kr kr kr rfl (by simp [-List.getD_eq_getElem?_getD]; omega) ?_
   refine NS_b 2 kr (NS_nil ?_)
   refine W_cond true kr (fun _ => ?_) (fun e => by cases e)
   refine W_drawn kr (D_e (e := 13) (l := [0,1,2,3,4,5,6,7,8,9,10,11,12]) (s' := []) kr kr rfl kr Rk_nil (NS_b 5 kr (NS_ld _ rfl rfl kr kr kr ((c0.ext T123).ld (o := 1) kr rfl) (NS_ld _ rfl rfl kr kr kr (Cl.allN (n := 5) c123 rfl kr) (NS_b 3 kr (NS_ld _ rfl rfl kr kr kr ((c0.ext T123).ld (o := 0) kr rfl) (NS_b 2 kr (NS_nil (L_c rfl rfl kr (put_ok (R.ext T123) (x := .ask e (W.rq p no).no) rfl hlw) ?_)))))))))
   rintro v124 h124 N124
   dsimp only at N124
   obtain ⟨S124, C124, ro124, R124, Y124⟩ := N124
   have X124 := ((Gx.refl).trans (Gx.of T123)).trans Y124
   have hr_124 := (Y124.keep _ hr).1
   have m123_124 : ¬ (Gh.mut ⟨Gh.B G, S124, C124, ro124⟩) (h.next) ∧ ¬ (Gh.ro ⟨Gh.B G, S124, C124, ro124⟩) (h.next) := ⟨fun hm => (Y124.mu _ hm).elim m123.1 (fun e => by have := c123.lt; omega), fun hm => (Y124.ron _ hm).elim m123.2 (fun e => by have := c123.lt; omega)⟩
   have T124 : Sm (Ow h (⟨Gh.B G, S124, C124, ro124⟩ : Gh)) h124 h124 := .refl
   refine L_nil ⟨rfl, ?_⟩
   refine D_l (l := []) kr kr Rk_nil (NS_nil ?_)
   repeat with_reducible refine blk_norm ?_
   refine done_of (v := .tuple ⟨[]⟩) (.inr rfl) kr ?_
   exact ⟨_, _, _, (R124.ow T124), ((X124).ow T124)⟩
 · obtain ⟨i, W1, hpi, hi, hs, hpp, hll, hz1, hz2, hput, rfl⟩ := hc
   unfold Wd.put at hput
   split at hput
   rotate_right
   · cases hput
   rename_i hlw
   obtain rfl := Option.some.inj hput
   refine Calls_W 102 Try.f53 ?_
   have T0 : Sm Nix h h := .refl
   refine W_seq (W_region ?_)
   have m125 : ¬ (Gh.mut G) h.next ∧ ¬ (Gh.ro G) h.next := ⟨(R.ext T0).op.new (Nat.le_refl _), (R.ext T0).op.newr (Nat.le_refl _)⟩
   refine L_nwc [nv e.src, nv e.ctx, nv e.tag, nv e.size, nv e.parts] .ptr rfl rfl kr fun h125 c125 t125 n125 => ?_
   have T125 := T0.ext t125
   have N125 := T125.nx
   refine L_nil (W_sg 3 kr (L_ld _ rfl rfl kr ((R.ext T125).wdL.ld (o := 1) kr rfl) (L_g 1 kr ?_)))
   obtain ⟨b1, o1, i1, l1⟩ := (R.ext T125).prsAt (P := Try.prog) (T := 74) (el := 77) kr kr kr hp
   refine L_ix _ rfl rfl kr kr (i1) (L_ld _ rfl rfl kr (l1) (L_g 1 kr (L_nil (W_block (W_sg 3 kr (L_ld _ rfl rfl kr ((c0.ext T125).ld (o := 1) kr rfl) (L_i ((W.rq p no).peer) (-2) (.bool false) rfl rfl kr kr rfl (by simp; omega) (L_g 1 kr (L_nil ?_)))))))))
   refine W_cond false kr (fun e => by cases e) (fun _ => ?_)
   refine W_seq (W_drawn kr (D_l (l := [0,1,2,3,4,5,6,7,8,9,10,11,12,13,14,15,16,17,18,19,20,21,22,23,24,25,26,27,28,29,30,31,32,33]) kr kr Rk_nil (NS_b 3 kr (NS_ld _ rfl rfl kr kr kr (((c0.ext T125).ld (o := 6) kr (by rw [← hs]; rfl) : aLoad Try.prog 4 ⟨G.B (.rq p no), 6, none⟩ h125 = some (.bool false))) (NS_b 4 kr (NS_ld _ rfl rfl kr kr kr ((c0.ext T125).ld (o := 10) kr rfl) (NS_i (((W.rq p no).parts : Int)) (0) (.bool false) rfl rfl kr kr kr kr rfl (by simp; omega) (NS_b 3 kr (NS_ld _ rfl rfl kr kr kr (c125.ld (o := 3) kr rfl) (NS_b 3 kr (NS_ld _ rfl rfl kr kr kr ((R.ext T125).wdL.ld (o := 0) kr rfl) ?_)))))))))))
   refine NS_i (e.size) (W.lim) (.bool false) rfl rfl kr kr kr kr rfl (by simp; omega) (NS_b 5 kr (NS_ld _ rfl rfl kr kr kr (((R.ext T125).prL hp).ld (o := 6) kr rfl) (NS_b 3 kr (NS_ld _ rfl rfl kr kr kr (((c0.ext T125).ld (o := 1) kr (by rw [← hpi]; rfl) : aLoad Try.prog 3 ⟨G.B (.rq p no), 1, none⟩ h125 = some (nv (i : Int)))) ?_))))
   have hci : ((W.pr p).crds.map nv)[i]? = some (nv ((W.pr p).crds.getD i 0)) := by rw [List.getElem?_map, List.getElem?_eq_getElem hi, List.getD_eq_getElem?_getD, List.getElem?_eq_getElem hi]; rfl
   obtain ⟨pa, xa, i1, i2, i3, i4, i5⟩ := ((R.ext T125).crd hp).elem (P := Try.prog) (T := 29) (el := 3) kr kr kr hi .i64
   obtain rfl : xa = nv ((W.pr p).crds.getD i 0) := Option.some.inj (i2.symm.trans hci)
   refine NS_ix _ rfl rfl kr kr kr kr (i1) (NS_ld _ rfl rfl kr kr kr (i3) ?_)
   refine NS_i (((W.pr p).crds.getD i 0)) (0) (.bool false) rfl rfl kr kr kr kr rfl (by simp [-List.getD_eq_getElem?_getD]; omega) ?_
   refine NS_b 2 kr (NS_nil ?_)
   refine W_cond false kr (fun e => by cases e) (fun _ => ?_)
   refine W_seq (W_drawn kr (D_e (e := 12) (l := [0,1,2,3,4,5,6,7,8,9,10,11]) (s' := []) kr kr rfl kr Rk_nil (NS_b 3 kr (NS_ld _ rfl rfl kr kr kr (((R.ext T125).prL hp).ld (o := 6) kr rfl) (NS_b 3 kr (NS_ld _ rfl rfl kr kr kr (((c0.ext T125).ld (o := 1) kr (by rw [← hpi]; rfl) : aLoad Try.prog 3 ⟨G.B (.rq p no), 1, none⟩ h125 = some (nv (i : Int)))) ?_))))))
   have hci : ((W.pr p).crds.map nv)[i]? = some (nv ((W.pr p).crds.getD i 0)) := by rw [List.getElem?_map, List.getElem?_eq_getElem hi, List.getD_eq_getElem?_getD, List.getElem?_eq_getElem hi]; rfl
   obtain ⟨pb, xb, j1, j2, j3, j4, j5⟩ := ((R.ext T125).crd hp).elem (P := Try.prog) (T := 29) (el := 3) kr kr kr hi .i64
   obtain rfl : xb = nv ((W.pr p).crds.getD i 0) := Option.some.inj (j2.symm.trans hci)
   refine NS_ix _ rfl rfl kr kr kr kr (j1) (NS_ld _ rfl rfl kr kr kr (j3) (NS_i (((W.pr p).crds.getD i 0)) (1) (nv (((W.pr p).crds.getD i 0) - 1)) rfl rfl kr kr kr kr rfl (dec_int hz1 hz2) (NS_ix _ rfl rfl kr kr kr kr (j1) (NS_nil ?_))))
   obtain ⟨h126, e126, w126, t126, n126⟩ := j5 (nv (((W.pr p).crds.getD i 0) - 1)) rfl rfl
   have N126 : Nxt (W.setPr p { W.pr p with crds := (W.pr p).crds.set i (((W.pr p).crds.getD i 0) - 1) }) G h125 h126 := (R.ext T125).setCrd hp (by rw [List.length_set, List.map_set]; exact w126) t126
   refine L_st _ rfl rfl rfl kr kr (e126) ?_
   obtain ⟨S126, C126, ro126, R126, Y126⟩ := N126
   have X126 := ((Gx.refl).trans (Gx.of T125)).trans Y126
   have hr_126 := (Y126.keep _ hr).1
   have m125_126 : ¬ (Gh.mut ⟨Gh.B G, S126, C126, ro126⟩) (h.next) ∧ ¬ (Gh.ro ⟨Gh.B G, S126, C126, ro126⟩) (h.next) := ⟨fun hm => (Y126.mu _ hm).elim m125.1 (fun e => by have := c125.lt; omega), fun hm => (Y126.ron _ hm).elim m125.2 (fun e => by have := c125.lt; omega)⟩
   replace c125 := c125.sm Y126.sm m125.1
   have T126 : Sm (Ow h (⟨Gh.B G, S126, C126, ro126⟩ : Gh)) h126 h126 := .refl
   obtain ⟨dvz, hdz, cz⟩ := R126.rqL (p := p) hp hr_126
   replace cz : Arm.Cl h126 (G.B (.rq p no)) [nk (W.rq p no).no, nv (W.rq p no).peer, nv (W.rq p no).ctx, nv (W.rq p no).tag, nv (W.rq p no).room, .bool (W.rq p no).send, .bool (W.rq p no).sync, .bool (W.rq p no).pers, .bool (W.rq p no).act, .bool (W.rq p no).done, nk (W.rq p no).parts, nk (W.rq p no).size, dvz, (⟨G.B, S126, C126, ro126⟩ : Gh).S (.pcs p no), nk (W.rq p no).gone, (⟨G.B, S126, C126, ro126⟩ : Gh).S (.snt p no), .bool (W.rq p no).clr, nv (W.rq p no).st.src, nv (W.rq p no).st.tag, nv (W.rq p no).st.size, nv (W.rq p no).st.err] := cz
   obtain ⟨da, dc, rfl⟩ := hdz.1.form
   refine L_nil ⟨rfl, ?_⟩
   refine D_l (l := []) kr kr Rk_nil (NS_nil (W_seq (W_drawn kr (D_e (e := 13) (l := [0,1,2,3,4,5,6,7,8,9,10,11,12]) (s' := []) kr kr rfl kr Rk_nil (NS_b 5 kr (NS_ld _ rfl rfl kr kr kr ((cz.sm T126 (fun hx => hx.2.1 ⟨.rq p no, hr_126, rfl⟩)).ld (o := 1) kr rfl) (NS_ld _ rfl rfl kr kr kr (Cl.allN (n := 5) c125 rfl kr) (NS_b 3 kr (NS_ld _ rfl rfl kr kr kr ((cz.sm T126 (fun hx => hx.2.1 ⟨.rq p no, hr_126, rfl⟩)).ld (o := 12) kr rfl) (NS_b 2 kr (NS_nil ?_)))))))))))
   refine L_c rfl rfl kr (put_ok (R126.ow T126) (x := .eager e (W.rq p no).data) ⟨_, hdz.ext3 T126, rfl⟩ hlw) ?_
   rintro v127 h127 N127
   dsimp only at N127
   obtain ⟨S127, C127, ro127, R127, Y127⟩ := N127
   have X127 := ((X126).ow T126).trans Y127
   have hr_127 := (Y127.keep _ hr_126).1
   have m125_126_127 : ¬ (Gh.mut ⟨Gh.B G, S127, C127, ro127⟩) (h.next) ∧ ¬ (Gh.ro ⟨Gh.B G, S127, C127, ro127⟩) (h.next) := ⟨fun hm => (Y127.mu _ hm).elim m125_126.1 (fun e => by have := c125.lt; omega), fun hm => (Y127.ron _ hm).elim m125_126.2 (fun e => by have := c125.lt; omega)⟩
   replace c125 := c125.sm Y127.sm m125_126.1
   have T127 : Sm (Ow h (⟨Gh.B G, S127, C127, ro127⟩ : Gh)) h127 h127 := .refl
   refine L_nil ⟨rfl, ?_⟩
   refine D_l (l := []) kr kr Rk_nil (NS_nil (W_region (L_g 3 kr ?_)))
   obtain ⟨dv9, hd9, c9⟩ := (R127.ow T127).rqL hp hr_127
   replace c9 : Cl h127 (Gh.B G (.rq p no)) [nk ((A17x1 W e i no p).rq p no).no, nv ((A17x1 W e i no p).rq p no).peer, nv ((A17x1 W e i no p).rq p no).ctx, nv ((A17x1 W e i no p).rq p no).tag, nv ((A17x1 W e i no p).rq p no).room, .bool ((A17x1 W e i no p).rq p no).send, .bool ((A17x1 W e i no p).rq p no).sync, .bool ((A17x1 W e i no p).rq p no).pers, .bool ((A17x1 W e i no p).rq p no).act, .bool ((A17x1 W e i no p).rq p no).done, nk ((A17x1 W e i no p).rq p no).parts, nk ((A17x1 W e i no p).rq p no).size, dv9, (⟨Gh.B G, S127, C127, ro127⟩ : Gh).S (.pcs p no), nk ((A17x1 W e i no p).rq p no).gone, (⟨Gh.B G, S127, C127, ro127⟩ : Gh).S (.snt p no), .bool ((A17x1 W e i no p).rq p no).clr, nv ((A17x1 W e i no p).rq p no).st.src, nv ((A17x1 W e i no p).rq p no).st.tag, nv ((A17x1 W e i no p).rq p no).st.size, nv ((A17x1 W e i no p).rq p no).st.err] := c9
   obtain ⟨h128, e128, d128, t128, n128⟩ := c9.s1 4 9 (.bool true)
   have N128 : Nxt ((A17x1 W e i no p).setRq p no { ((A17x1 W e i no p).rq p no) with done := true }) (⟨Gh.B G, S127, C127, ro127⟩ : Gh) h127 h128 := (R127.ow T127).stRq hp hr_127 (r := { ((A17x1 W e i no p).rq p no) with done := true }) hd9 d128 t128 rfl rfl rfl
   clear hd9
   refine L_st _ rfl rfl rfl kr kr (e128) ?_
   obtain ⟨S128, C128, ro128, R128, Y128⟩ := N128
   have X128 := ((X127).ow T127).trans Y128
   have hr_128 := (Y128.keep _ hr_127).1
   have m125_126_127_128 : ¬ (Gh.mut ⟨Gh.B G, S128, C128, ro128⟩) (h.next) ∧ ¬ (Gh.ro ⟨Gh.B G, S128, C128, ro128⟩) (h.next) := ⟨fun hm => (Y128.mu _ hm).elim m125_126_127.1 (fun e => by have := c125.lt; omega), fun hm => (Y128.ron _ hm).elim m125_126_127.2 (fun e => by have := c125.lt; omega)⟩
   have T128 : Sm (Ow h (⟨Gh.B G, S128, C128, ro128⟩ : Gh)) h128 h128 := .refl
   refine L_nil ?_
   repeat with_reducible refine blk_norm ?_
   refine done_of (v := .tuple ⟨[]⟩) (.inr rfl) kr ?_
   exact ⟨_, _, _, (R128.ow T128), ((X128).ow T128)⟩
end
end Go.Proofs.Ytmehemeoaplepaa
namespace Go.Proofs.Ytmehemeoaplepaa
noncomputable section
open Go Go.X Go.Arm Go.Mt
abbrev A18x1 (W : Wd) (d : By) (no : Nat) (p : Nat) : Wd := W.setRq p no { W.rq p no with act := true, done := false, st := St.z, data := d }
abbrev A18x2 (W : Wd) (no : Nat) (p : Nat) : Wd := W.setRq p no { (W.rq p no) with act := true }
abbrev A18x3 (G : Gh) (d : By) (va130 : Option Addr) (vc130 : Nat) : Gh := Gh.more G (fun b => vb (Value.slice va130 (List.map bv d).length vc130) = some b)
abbrev A18x4 (W : Wd) (no : Nat) (p : Nat) : Wd := (A18x2 W no p).setRq p no { ((A18x2 W no p).rq p no) with done := false }
abbrev A18x5 (W : Wd) (d : By) (no : Nat) (p : Nat) : Rq := ((A18x1 W d no p).setRq p no { ((A18x1 W d no p).rq p no) with st := ⟨-2, -1, 0, 0⟩ }).rq p no
abbrev A18x6 (W : Wd) (no : Nat) (p : Nat) : Rq := ((A18x4 W no p).setRq p no { ((A18x4 W no p).rq p no) with st := St.z }).rq p no
theorem sum_nat {a b : Nat} {d : By} (h : a * b < big) (hl : d.length < big) : Value.int .i64 (IntKind.i64.wrap (((List.map bv d).length : Int) + IntKind.i64.wrap ((a : Int) * (b : Int)))) = nv ((d.length + a * b : Nat) : Int) := by
 have h1 : a * b < 1000000000 := h
 have hl : d.length < 1000000000 := hl
 rw [wrap_nat h, List.length_map]
 have : IntKind.i64.wrap ((d.length : Int) + ((a * b : Nat) : Int)) = ((d.length + a * b : Nat) : Int) := by rw [IntKind.wrap_i64]; omega
 rw [this]; rfl
set_option maxHeartbeats 4000000 in
theorem start_ok {W : Wd} {G : Gh} {h : AH} {p no : Nat} {d : By} {s : Value} {W' : Wd} (R : Rep W G h) (hp : p < W.n) (hr : G.C (.rq p no) ≠ .no) (H : Rb h s (d.map bv)) (he : W.start p no d = some W') :
   Arm.Calls Try.prog 45 [ptr (G.B .wd), nv (p : Int), ptr (G.B (.rq p no)), s] h (fun r => Nxt W' G h r.2) := by
 unfold Wd.start at he
 dsimp only at he
 split at he
 · cases he
 rename_i hguard
 obtain ⟨hsm, hld, hlm, hroom⟩ := Classical.not_not.1 hguard
 have hsm : (W.rq p no).parts * (W.rq p no).size < big := hsm
 refine Calls_W 116 Try.f45 ?_
 have T0 : Sm Nix h h := .refl
 refine W_seq (W_region ?_)
 have m129 : ¬ (Gh.mut G) h.next ∧ ¬ (Gh.ro G) h.next := ⟨(R.ext T0).op.new (Nat.le_refl _), (R.ext T0).op.newr (Nat.le_refl _)⟩
 refine L_nwc [ptr (G.B (.rq p no))] .ptr rfl rfl kr fun h129 c129 t129 n129 => ?_
 have T129 := T0.ext t129
 have N129 := T129.nx
 refine L_nil (W_seq (W_drawn kr (D_e (e := 6) (l := [0,1,2,3,4,5]) (s' := [0,1,2,3,4]) kr kr rfl kr Rk_nil (NS_ld _ rfl rfl kr kr kr (c129.ld (o := 0) kr rfl) (NS_ld _ rfl rfl kr kr kr (c129.ld (o := 0) kr rfl) (NS_ld _ rfl rfl kr kr kr (c129.ld (o := 0) kr rfl) (NS_ld _ rfl rfl kr kr kr (c129.ld (o := 0) kr rfl) (NS_b 2 kr (NS_nil (L_c rfl rfl kr (clone_by (H.ext T129) (bv_one d) (by rw [List.length_map]; exact hld)) ?_))))))))))
 rintro v130 h130 ⟨r130, k130, t130, f130, s130⟩
 dsimp only at r130 k130 t130 f130 s130
 obtain ⟨R130, X130⟩ := (R.ext T129).more (Q := fun b => vb v130 = some b) t130 (fun b hb => (f130 b hb).1) (fun b hb => (f130 b hb).2)
 obtain ⟨va130, vc130, ev130⟩ := r130.form
 subst ev130
 have hdv : Dr h130 (G.more (fun b => vb (Value.slice va130 (List.map bv d).length vc130) = some b)).ro (.slice va130 (List.map bv d).length vc130) d := ⟨r130, fun b hb => .inr hb⟩
 have mZ6 : ¬ (Gh.mut (G.more (fun b => vb (Value.slice va130 (List.map bv d).length vc130) = some b))) (h.next) ∧ ¬ (Gh.ro (G.more (fun b => vb (Value.slice va130 (List.map bv d).length vc130) = some b))) (h.next) := ⟨fun hm => by obtain ⟨r, q1, q2⟩ := hm; rw [V_more] at q2; exact m129.1 ⟨r, q1, q2⟩, fun hm => hm.elim m129.2 (fun e => by have := (f130 _ e).1; have := c129.lt; omega)⟩
 have X130x := (Gx.of T129).trans X130
 replace c129 := c129.ext t130
 have T130 : Sm Nix h130 h130 := .refl
 refine L_nil ⟨rfl, ?_⟩
 refine D_e (e := 9) (l := [7,8]) (s' := [1,2,3,4]) kr kr rfl kr (Rk_ld _ rfl rfl rfl kr (c129.ld (o := 0) kr rfl) kr (Rk_ld _ rfl rfl rfl kr (c129.ld (o := 0) kr rfl) kr (Rk_ld _ rfl rfl rfl kr (c129.ld (o := 0) kr rfl) kr (Rk_ld _ rfl rfl rfl kr (c129.ld (o := 0) kr rfl) kr (Rk_1 rfl rfl Rk_nil))))) (NS_b 2 kr (NS_nil ?_))
 obtain ⟨dv9, hd9, c9⟩ := (R130.ext T130).rqL hp hr
 replace c9 : Cl h130 (Gh.B (A18x3 G d va130 vc130) (.rq p no)) [nk (W.rq p no).no, nv (W.rq p no).peer, nv (W.rq p no).ctx, nv (W.rq p no).tag, nv (W.rq p no).room, .bool (W.rq p no).send, .bool (W.rq p no).sync, .bool (W.rq p no).pers, .bool (W.rq p no).act, .bool (W.rq p no).done, nk (W.rq p no).parts, nk (W.rq p no).size, dv9, (A18x3 G d va130 vc130).S (.pcs p no), nk (W.rq p no).gone, (A18x3 G d va130 vc130).S (.snt p no), .bool (W.rq p no).clr, nv (W.rq p no).st.src, nv (W.rq p no).st.tag, nv (W.rq p no).st.size, nv (W.rq p no).st.err] := c9
 obtain ⟨h131, e131, d131, t131, n131⟩ := c9.s1 4 8 (.bool true)
 have N131 : Nxt (A18x2 W no p) (A18x3 G d va130 vc130) h130 h131 := (R130.ext T130).stRq hp hr (r := { (W.rq p no) with act := true }) hd9 d131 t131 rfl rfl rfl
 clear hd9
 refine L_st _ rfl rfl rfl kr kr (e131) ?_
 obtain ⟨S131, C131, ro131, R131, Y131⟩ := N131
 have X131 := ((X130x).trans (Gx.of T130)).trans Y131
 have hr_131 := (Y131.keep _ hr).1
 have hdv_131 := Dr.mono0 hdv (Gx.dr Y131 (R130.ext T130).op)
 have mZ6_131 : ¬ (Gh.mut ⟨Gh.B (A18x3 G d va130 vc130), S131, C131, ro131⟩) (h.next) ∧ ¬ (Gh.ro ⟨Gh.B (A18x3 G d va130 vc130), S131, C131, ro131⟩) (h.next) := ⟨fun hm => (Y131.mu _ hm).elim mZ6.1 (fun e => by have := c129.lt; omega), fun hm => (Y131.ron _ hm).elim mZ6.2 (fun e => by have := c129.lt; omega)⟩
 replace c129 := c129.sm Y131.sm mZ6.1
 have T131 : Sm (Ow h (⟨Gh.B (A18x3 G d va130 vc130), S131, C131, ro131⟩ : Gh)) h131 h131 := .refl
 refine L_nil ⟨rfl, ?_⟩
 refine D_e (e := 12) (l := [10,11]) (s' := [2,3,4]) kr kr rfl kr (Rk_ld _ rfl rfl rfl kr (c129.ld (o := 0) kr rfl) kr (Rk_ld _ rfl rfl rfl kr (c129.ld (o := 0) kr rfl) kr (Rk_ld _ rfl rfl rfl kr (c129.ld (o := 0) kr rfl) kr (Rk_1 rfl rfl Rk_nil)))) (NS_b 2 kr (NS_nil ?_))
 obtain ⟨dv9, hd9, c9⟩ := (R131.ow T131).rqL hp hr_131
 replace c9 : Cl h131 (Gh.B (A18x3 G d va130 vc130) (.rq p no)) [nk ((A18x2 W no p).rq p no).no, nv ((A18x2 W no p).rq p no).peer, nv ((A18x2 W no p).rq p no).ctx, nv ((A18x2 W no p).rq p no).tag, nv ((A18x2 W no p).rq p no).room, .bool ((A18x2 W no p).rq p no).send, .bool ((A18x2 W no p).rq p no).sync, .bool ((A18x2 W no p).rq p no).pers, .bool ((A18x2 W no p).rq p no).act, .bool ((A18x2 W no p).rq p no).done, nk ((A18x2 W no p).rq p no).parts, nk ((A18x2 W no p).rq p no).size, dv9, (⟨Gh.B (A18x3 G d va130 vc130), S131, C131, ro131⟩ : Gh).S (.pcs p no), nk ((A18x2 W no p).rq p no).gone, (⟨Gh.B (A18x3 G d va130 vc130), S131, C131, ro131⟩ : Gh).S (.snt p no), .bool ((A18x2 W no p).rq p no).clr, nv ((A18x2 W no p).rq p no).st.src, nv ((A18x2 W no p).rq p no).st.tag, nv ((A18x2 W no p).rq p no).st.size, nv ((A18x2 W no p).rq p no).st.err] := c9
 obtain ⟨h132, e132, d132, t132, n132⟩ := c9.s1 4 9 (.bool false)
 have N132 : Nxt (A18x4 W no p) (⟨Gh.B (A18x3 G d va130 vc130), S131, C131, ro131⟩ : Gh) h131 h132 := (R131.ow T131).stRq hp hr_131 (r := { ((A18x2 W no p).rq p no) with done := false }) hd9 d132 t132 rfl rfl rfl
 clear hd9
 refine L_st _ rfl rfl rfl kr kr (e132) ?_
 obtain ⟨S132, C132, ro132, R132, Y132⟩ := N132
 have X132 := ((X131).ow T131).trans Y132
 have hr_132 := (Y132.keep _ hr_131).1
 have hdv_132 := Dr.mono0 hdv_131 (Gx.dr Y132 (R131.ow T131).op)
 have mZ6_131_132 : ¬ (Gh.mut ⟨Gh.B (A18x3 G d va130 vc130), S132, C132, ro132⟩) (h.next) ∧ ¬ (Gh.ro ⟨Gh.B (A18x3 G d va130 vc130), S132, C132, ro132⟩) (h.next) := ⟨fun hm => (Y132.mu _ hm).elim mZ6_131.1 (fun e => by have := c129.lt; omega), fun hm => (Y132.ron _ hm).elim mZ6_131.2 (fun e => by have := c129.lt; omega)⟩
 replace c129 := c129.sm Y132.sm mZ6_131.1
 have T132 : Sm (Ow h (⟨Gh.B (A18x3 G d va130 vc130), S132, C132, ro132⟩ : Gh)) h132 h132 := .refl
 refine L_nil ⟨rfl, ?_⟩
 refine D_e (e := 15) (l := [13,14]) (s' := [3]) kr kr rfl kr (Rk_ld _ rfl rfl rfl kr (c129.ld (o := 0) kr rfl) kr (Rk_ld _ rfl rfl rfl kr (c129.ld (o := 0) kr rfl) kr (Rk_1 rfl rfl Rk_nil))) (NS_b 2 kr (NS_nil ?_))
 obtain ⟨dv9, hd9, c9⟩ := (R132.ow T132).rqL hp hr_132
 replace c9 : Cl h132 (Gh.B (A18x3 G d va130 vc130) (.rq p no)) [nk ((A18x4 W no p).rq p no).no, nv ((A18x4 W no p).rq p no).peer, nv ((A18x4 W no p).rq p no).ctx, nv ((A18x4 W no p).rq p no).tag, nv ((A18x4 W no p).rq p no).room, .bool ((A18x4 W no p).rq p no).send, .bool ((A18x4 W no p).rq p no).sync, .bool ((A18x4 W no p).rq p no).pers, .bool ((A18x4 W no p).rq p no).act, .bool ((A18x4 W no p).rq p no).done, nk ((A18x4 W no p).rq p no).parts, nk ((A18x4 W no p).rq p no).size, dv9, (⟨Gh.B (A18x3 G d va130 vc130), S132, C132, ro132⟩ : Gh).S (.pcs p no), nk ((A18x4 W no p).rq p no).gone, (⟨Gh.B (A18x3 G d va130 vc130), S132, C132, ro132⟩ : Gh).S (.snt p no), .bool ((A18x4 W no p).rq p no).clr, nv ((A18x4 W no p).rq p no).st.src, nv ((A18x4 W no p).rq p no).st.tag, nv ((A18x4 W no p).rq p no).st.size, nv ((A18x4 W no p).rq p no).st.err] := c9
 obtain ⟨h133, e133, d133, t133, n133⟩ := c9.storeAt (P := Try.prog) (T := 43) (o := 17) (v := .agg ⟨[nv 0, nv 0, nv 0, nv 0]⟩) (vs := [nv 0, nv 0, nv 0, nv 0]) kr rfl (by simp) (List.all_eq_true.1 rfl)
 have N133 : Nxt ((A18x4 W no p).setRq p no { ((A18x4 W no p).rq p no) with st := St.z }) (⟨Gh.B (A18x3 G d va130 vc130), S132, C132, ro132⟩ : Gh) h132 h133 := (R132.ow T132).stRq hp hr_132 (r := { ((A18x4 W no p).rq p no) with st := St.z }) hd9 d133 t133 rfl rfl rfl
 clear hd9
 refine L_st _ rfl rfl rfl kr kr (e133) ?_
 obtain ⟨S133, C133, ro133, R133, Y133⟩ := N133
 have X133 := ((X132).ow T132).trans Y133
 have hr_133 := (Y133.keep _ hr_132).1
 have hdv_133 := Dr.mono0 hdv_132 (Gx.dr Y133 (R132.ow T132).op)
 have mZ6_131_132_133 : ¬ (Gh.mut ⟨Gh.B (A18x3 G d va130 vc130), S133, C133, ro133⟩) (h.next) ∧ ¬ (Gh.ro ⟨Gh.B (A18x3 G d va130 vc130), S133, C133, ro133⟩) (h.next) := ⟨fun hm => (Y133.mu _ hm).elim mZ6_131_132.1 (fun e => by have := c129.lt; omega), fun hm => (Y133.ron _ hm).elim mZ6_131_132.2 (fun e => by have := c129.lt; omega)⟩
 replace c129 := c129.sm Y133.sm mZ6_131_132.1
 have T133 : Sm (Ow h (⟨Gh.B (A18x3 G d va130 vc130), S133, C133, ro133⟩ : Gh)) h133 h133 := .refl
 refine L_nil ⟨rfl, ?_⟩
 refine D_e (e := 18) (l := [16,17]) (s' := []) kr kr rfl kr (Rk_ld _ rfl rfl rfl kr (c129.ld (o := 0) kr rfl) kr Rk_nil) (NS_b 2 kr (NS_nil ?_))
 obtain ⟨dv9, hd9, c9⟩ := (R133.ow T133).rqL hp hr_133
 replace c9 : Arm.Cl h133 (Gh.B (A18x3 G d va130 vc130) (.rq p no)) [nk (A18x6 W no p).no, nv (A18x6 W no p).peer, nv (A18x6 W no p).ctx, nv (A18x6 W no p).tag, nv (A18x6 W no p).room, .bool (A18x6 W no p).send, .bool (A18x6 W no p).sync, .bool (A18x6 W no p).pers, .bool (A18x6 W no p).act, .bool (A18x6 W no p).done, nk (A18x6 W no p).parts, nk (A18x6 W no p).size, dv9, (⟨Gh.B (A18x3 G d va130 vc130), S133, C133, ro133⟩ : Gh).S (.pcs p no), nk (A18x6 W no p).gone, (⟨Gh.B (A18x3 G d va130 vc130), S133, C133, ro133⟩ : Gh).S (.snt p no), .bool (A18x6 W no p).clr, nv (A18x6 W no p).st.src, nv (A18x6 W no p).st.tag, nv (A18x6 W no p).st.size, nv (A18x6 W no p).st.err] := c9
 obtain ⟨h134, e134, d134, t134, n134⟩ := c9.s1 23 12 (.slice va130 (List.map bv d).length vc130)
 have N134 : Nxt ((((A18x4 W no p).setRq p no { ((A18x4 W no p).rq p no) with st := St.z }).setRq p no { (A18x6 W no p) with data := d })) (⟨Gh.B (A18x3 G d va130 vc130), S133, C133, ro133⟩ : Gh) h133 h134 := by
   have := (R133.ow T133).setRq hp hr_133 (r := { (A18x6 W no p) with data := d }) (dv := .slice va130 (List.map bv d).length vc130) d134 t134 (fun k hk => .inl hk) (((R133.ow T133).op.dr (t134.mono fun k hk => ⟨.rq p no, hr_133, by subst hk; rfl⟩)) _ _ hdv_133) rfl rfl
   exact ⟨_, _, _, this⟩
 clear hd9
 refine L_st _ rfl rfl rfl kr kr (e134) ?_
 obtain ⟨S134, C134, ro134, R134, Y134⟩ := N134
 have X134 := ((X133).ow T133).trans Y134
 have hr_134 := (Y134.keep _ hr_133).1
 have hdv_134 := Dr.mono0 hdv_133 (Gx.dr Y134 (R133.ow T133).op)
 have mZ6_131_132_133_134 : ¬ (Gh.mut ⟨Gh.B (A18x3 G d va130 vc130), S134, C134, ro134⟩) (h.next) ∧ ¬ (Gh.ro ⟨Gh.B (A18x3 G d va130 vc130), S134, C134, ro134⟩) (h.next) := ⟨fun hm => (Y134.mu _ hm).elim mZ6_131_132_133.1 (fun e => by have := c129.lt; omega), fun hm => (Y134.ron _ hm).elim mZ6_131_132_133.2 (fun e => by have := c129.lt; omega)⟩
 replace c129 := c129.sm Y134.sm mZ6_131_132_133.1
 have T134 : Sm (Ow h (⟨Gh.B (A18x3 G d va130 vc130), S134, C134, ro134⟩ : Gh)) h134 h134 := .refl
 have eW : (((A18x4 W no p).setRq p no { ((A18x4 W no p).rq p no) with st := St.z }).setRq p no { (A18x6 W no p) with data := d }) = W.setRq p no { W.rq p no with act := true, done := false, st := St.z, data := d } := by simp only [Wd.setRq_at, Wd.setRq_setRq]
 rw [eW] at R134
 have eR : (A18x1 W d no p).rq p no = { W.rq p no with act := true, done := false, st := St.z, data := d } := Wd.setRq_at _ _ _ _
 obtain ⟨dvz, hdz, cz⟩ := R134.rqL (p := p) hp hr_134
 rw [eR] at hdz cz
 replace cz : Arm.Cl h134 (G.B (.rq p no)) [nk (W.rq p no).no, nv (W.rq p no).peer, nv (W.rq p no).ctx, nv (W.rq p no).tag, nv (W.rq p no).room, .bool (W.rq p no).send, .bool (W.rq p no).sync, .bool (W.rq p no).pers, .bool true, .bool false, nk (W.rq p no).parts, nk (W.rq p no).size, dvz, (⟨G.B, S134, C134, ro134⟩ : Gh).S (.pcs p no), nk (W.rq p no).gone, (⟨G.B, S134, C134, ro134⟩ : Gh).S (.snt p no), .bool (W.rq p no).clr, nv 0, nv 0, nv 0, nv 0] := cz
 have l6 := c129.lt
 refine L_nil ⟨rfl, ?_⟩
 refine D_l (l := []) kr kr Rk_nil (NS_nil (W_seq (W_drawn kr (D_e (e := 27) (l := [0,1,2,3,4,5,6,7,8,9,10,11,12,13,14,15,16,17,18,19,20,21,22,23,24,25,26]) (s' := []) kr kr rfl kr Rk_nil (NS_b 1 kr (NS_ld _ rfl rfl kr kr kr (c129.ld (o := 0) kr rfl) (NS_b 2 kr (NS_ld _ rfl rfl kr kr kr ((cz.sm T134 (fun hx => hx.2.1 ⟨.rq p no, hr_134, rfl⟩)).ld (o := 2) kr rfl) (NS_ld _ rfl rfl kr kr kr (c129.ld (o := 0) kr rfl) (NS_b 2 kr (NS_ld _ rfl rfl kr kr kr ((cz.sm T134 (fun hx => hx.2.1 ⟨.rq p no, hr_134, rfl⟩)).ld (o := 3) kr rfl) ?_)))))))))))
 refine NS_b 1 kr (NS_ln _ rfl rfl kr kr kr (H.lenA (T := 23) (el := 5) kr _) (NS_ld _ rfl rfl kr kr kr (c129.ld (o := 0) kr rfl) (NS_b 2 kr (NS_ld _ rfl rfl kr kr kr ((cz.sm T134 (fun hx => hx.2.1 ⟨.rq p no, hr_134, rfl⟩)).ld (o := 10) kr rfl) (NS_ld _ rfl rfl kr kr kr (c129.ld (o := 0) kr rfl) (NS_b 2 kr (NS_ld _ rfl rfl kr kr kr ((cz.sm T134 (fun hx => hx.2.1 ⟨.rq p no, hr_134, rfl⟩)).ld (o := 11) kr rfl) (NS_v (.int .i64 (IntKind.i64.wrap (((W.rq p no).parts : Int) * ((W.rq p no).size : Int)))) rfl kr rfl kr kr (NS_i (((List.map bv d).length : Int)) (IntKind.i64.wrap (((W.rq p no).parts : Int) * ((W.rq p no).size : Int))) (nv ((d.length + (W.rq p no).parts * (W.rq p no).size : Nat) : Int)) rfl rfl kr kr kr kr rfl (sum_nat hsm hld) (NS_ld _ rfl rfl kr kr kr (c129.ld (o := 0) kr rfl) (NS_b 2 kr ?_)))))))))))
 refine NS_ld _ rfl rfl kr kr kr ((cz.sm T134 (fun hx => hx.2.1 ⟨.rq p no, hr_134, rfl⟩)).ld (o := 10) kr rfl) (NS_b 1 kr ?_)
 have m135 : ¬ (Gh.mut (⟨Gh.B (A18x3 G d va130 vc130), S134, C134, ro134⟩ : Gh)) h134.next ∧ ¬ (Gh.ro (⟨Gh.B (A18x3 G d va130 vc130), S134, C134, ro134⟩ : Gh)) h134.next := ⟨(R134.ow T134).op.new (Nat.le_refl _), (R134.ow T134).op.newr (Nat.le_refl _)⟩
 refine NS_newR (Al.cells [nv 0, nv 0, nv 0, nv 0, nv 0]) .ptr rfl kr rfl rfl kr (Rk_1 rfl rfl (Rk_ld _ rfl rfl rfl kr ((c129.ext (.push h134 _)).ld (o := 0) kr rfl) kr (Rk_1 rfl rfl (Rk_1 rfl rfl (Rk_ld _ rfl rfl rfl kr ((cz.sm (T134.ext (.push h134 _)) (fun hx => hx.2.1 ⟨.rq p no, hr_134, rfl⟩)).ld (o := 2) kr rfl) kr (Rk_ld _ rfl rfl rfl kr ((c129.ext (.push h134 _)).ld (o := 0) kr rfl) kr (Rk_1 rfl rfl (Rk_1 rfl rfl (Rk_ld _ rfl rfl rfl kr ((cz.sm (T134.ext (.push h134 _)) (fun hx => hx.2.1 ⟨.rq p no, hr_134, rfl⟩)).ld (o := 3) kr rfl) kr (Rk_1 rfl rfl (Rk_ln _ rfl rfl rfl kr (H.lenA (T := 23) (el := 5) kr _) kr (Rk_ld _ rfl rfl rfl kr ((c129.ext (.push h134 _)).ld (o := 0) kr rfl) kr (Rk_1 rfl rfl (Rk_1 rfl rfl (Rk_ld _ rfl rfl rfl kr ((cz.sm (T134.ext (.push h134 _)) (fun hx => hx.2.1 ⟨.rq p no, hr_134, rfl⟩)).ld (o := 10) kr rfl) kr (Rk_ld _ rfl rfl rfl kr ((c129.ext (.push h134 _)).ld (o := 0) kr rfl) kr (Rk_1 rfl rfl (Rk_1 rfl rfl (Rk_ld _ rfl rfl rfl kr ((cz.sm (T134.ext (.push h134 _)) (fun hx => hx.2.1 ⟨.rq p no, hr_134, rfl⟩)).ld (o := 11) kr rfl) kr (Rk_v (v := (.int .i64 (IntKind.i64.wrap (((W.rq p no).parts : Int) * ((W.rq p no).size : Int))))) rfl rfl kr kr (Rk_i (((List.map bv d).length : Int)) (IntKind.i64.wrap (((W.rq p no).parts : Int) * ((W.rq p no).size : Int))) (nv ((d.length + (W.rq p no).parts * (W.rq p no).size : Nat) : Int)) rfl rfl rfl kr kr rfl (sum_nat hsm hld) kr (Rk_ld _ rfl rfl rfl kr ((c129.ext (.push h134 _)).ld (o := 0) kr rfl) kr (Rk_1 rfl rfl (Rk_1 rfl rfl (Rk_ld _ rfl rfl rfl kr ((cz.sm (T134.ext (.push h134 _)) (fun hx => hx.2.1 ⟨.rq p no, hr_134, rfl⟩)).ld (o := 10) kr rfl) kr (Rk_1 rfl rfl (Rk_1 rfl rfl Rk_nil))))))))))))))))))))))))))) ?_
 have l135_t6 := c129.lt
 have c135 : Cl (h134.push (Al.cells [nv 0, nv 0, nv 0, nv 0, nv 0]).obj) h134.next [nv 0, nv 0, nv 0, nv 0, nv 0] := Cl.new h134 _
 have t135 : Sm Nix h134 (h134.push (Al.cells [nv 0, nv 0, nv 0, nv 0, nv 0]).obj) := .push h134 _
 have n135 : (h134.push (Al.cells [nv 0, nv 0, nv 0, nv 0, nv 0]).obj).next = h134.next + 1 := rfl
 generalize h134.push (Al.cells [nv 0, nv 0, nv 0, nv 0, nv 0]).obj = h135 at c135 t135 n135 ⊢
 replace c129 := c129.ext t135
 have T135 : Sm (Ow h (⟨Gh.B (A18x3 G d va130 vc130), S134, C134, ro134⟩ : Gh)) h134 h135 := T134.ext t135
 have N135 := T135.nx
 refine NS_nil ?_
 obtain ⟨h136, e136, d136, t136, n136⟩ := c135.sA 115 [nv (p : Int), nv (W.rq p no).ctx, nv (W.rq p no).tag, nv ((d.length + (W.rq p no).parts * (W.rq p no).size : Nat) : Int), nk (W.rq p no).parts]
 replace c129 := c129.sn t136
 replace c135 := d136
 have T136 : Sm (Ow h (⟨Gh.B (A18x3 G d va130 vc130), S134, C134, ro134⟩ : Gh)) h134 h136 := T135.trans t136 (fun x hx => by have hx : x = h134.next := hx; subst hx; first | exact .inr (by omega) | exact .inl ⟨by omega, m135.1, m135.2⟩ | exact .inl rfl)
 have N136 := T136.nx
 refine L_st _ rfl rfl rfl kr kr (e136) ?_
 refine L_nil ⟨rfl, ?_⟩
 refine D_l (l := []) kr kr Rk_nil (NS_nil (W_block (W_seq ?_)))
 split at he
 ·
   rename_i hsend
   have hsend : (W.rq p no).send = true := hsend
   refine W_region (L_ld _ rfl rfl kr (c129.ld (o := 0) kr rfl) (L_g 2 kr (L_ld _ rfl rfl kr (((cz.sm T136 (fun hx => hx.2.1 ⟨.rq p no, hr_134, rfl⟩)).ld (o := 5) kr (by rw [← hsend]; rfl) : aLoad Try.prog 4 ⟨G.B (.rq p no), 5, none⟩ h136 = some (.bool true))) (L_g 1 kr (L_nil ?_)))))
   refine W_cond true kr (fun _ => ?_) (fun e => by cases e)
   refine W_seq (W_drawn kr (D_e (e := 14) (l := [0,1,2,3,4,5,6,7,8,9,10,11,12,13]) (s' := []) kr kr rfl kr Rk_nil (NS_ld _ rfl rfl kr kr kr (c129.ld (o := 0) kr rfl) (NS_ld _ rfl rfl kr kr kr (c129.ld (o := 0) kr rfl) (NS_b 2 kr (NS_ld _ rfl rfl kr kr kr ((cz.sm T136 (fun hx => hx.2.1 ⟨.rq p no, hr_134, rfl⟩)).ld (o := 1) kr rfl) (NS_ld _ rfl rfl kr kr kr (c129.ld (o := 0) kr rfl) (NS_b 2 kr (NS_ld _ rfl rfl kr kr kr ((cz.sm T136 (fun hx => hx.2.1 ⟨.rq p no, hr_134, rfl⟩)).ld (o := 3) kr rfl) (NS_b 1 kr (NS_ld _ rfl rfl kr kr kr (c135.ld (o := 3) kr rfl) ?_)))))))))))
   refine NS_b 3 kr (NS_nil ?_)
   obtain ⟨dv9, hd9, c9⟩ := (R134.ow T136).rqL hp hr_134
   replace c9 : Cl h136 (Gh.B (A18x3 G d va130 vc130) (.rq p no)) [nk ((A18x1 W d no p).rq p no).no, nv ((A18x1 W d no p).rq p no).peer, nv ((A18x1 W d no p).rq p no).ctx, nv ((A18x1 W d no p).rq p no).tag, nv ((A18x1 W d no p).rq p no).room, .bool ((A18x1 W d no p).rq p no).send, .bool ((A18x1 W d no p).rq p no).sync, .bool ((A18x1 W d no p).rq p no).pers, .bool ((A18x1 W d no p).rq p no).act, .bool ((A18x1 W d no p).rq p no).done, nk ((A18x1 W d no p).rq p no).parts, nk ((A18x1 W d no p).rq p no).size, dv9, (⟨Gh.B (A18x3 G d va130 vc130), S134, C134, ro134⟩ : Gh).S (.pcs p no), nk ((A18x1 W d no p).rq p no).gone, (⟨Gh.B (A18x3 G d va130 vc130), S134, C134, ro134⟩ : Gh).S (.snt p no), .bool ((A18x1 W d no p).rq p no).clr, nv ((A18x1 W d no p).rq p no).st.src, nv ((A18x1 W d no p).rq p no).st.tag, nv ((A18x1 W d no p).rq p no).st.size, nv ((A18x1 W d no p).rq p no).st.err] := c9
   obtain ⟨h137, e137, d137, t137, n137⟩ := c9.storeAt (P := Try.prog) (T := 43) (o := 17) (v := .agg ⟨[nv (W.rq p no).peer, nv (W.rq p no).tag, nv ((d.length + (W.rq p no).parts * (W.rq p no).size : Nat) : Int), nv 0]⟩) (vs := [nv (W.rq p no).peer, nv (W.rq p no).tag, nv ((d.length + (W.rq p no).parts * (W.rq p no).size : Nat) : Int), nv 0]) kr rfl (by simp) (List.all_eq_true.1 rfl)
   have N137 : Nxt ((A18x1 W d no p).setRq p no { ((A18x1 W d no p).rq p no) with st := ⟨(W.rq p no).peer, (W.rq p no).tag, (⟨p, (W.rq p no).ctx, (W.rq p no).tag, ((d.length + (W.rq p no).parts * (W.rq p no).size : Nat) : Int), (W.rq p no).parts⟩ : En).size, 0⟩ }) (⟨Gh.B (A18x3 G d va130 vc130), S134, C134, ro134⟩ : Gh) h136 h137 := (R134.ow T136).stRq hp hr_134 (r := { ((A18x1 W d no p).rq p no) with st := ⟨(W.rq p no).peer, (W.rq p no).tag, (⟨p, (W.rq p no).ctx, (W.rq p no).tag, ((d.length + (W.rq p no).parts * (W.rq p no).size : Nat) : Int), (W.rq p no).parts⟩ : En).size, 0⟩ }) hd9 d137 t137 rfl rfl rfl
   clear hd9
   refine L_st _ rfl rfl rfl kr kr (e137) ?_
   obtain ⟨S137, C137, ro137, R137, Y137⟩ := N137
   have X137 := ((X134).ow T136).trans Y137
   have hr_137 := (Y137.keep _ hr_134).1
   have mZ6_131_132_133_134_137 : ¬ (Gh.mut ⟨Gh.B (A18x3 G d va130 vc130), S137, C137, ro137⟩) (h.next) ∧ ¬ (Gh.ro ⟨Gh.B (A18x3 G d va130 vc130), S137, C137, ro137⟩) (h.next) := ⟨fun hm => (Y137.mu _ hm).elim mZ6_131_132_133_134.1 (fun e => by have := c129.lt; omega), fun hm => (Y137.ron _ hm).elim mZ6_131_132_133_134.2 (fun e => by have := c129.lt; omega)⟩
   replace c129 := c129.sm Y137.sm mZ6_131_132_133_134.1
   have m135_137 : ¬ (Gh.mut ⟨Gh.B (A18x3 G d va130 vc130), S137, C137, ro137⟩) (h134.next) ∧ ¬ (Gh.ro ⟨Gh.B (A18x3 G d va130 vc130), S137, C137, ro137⟩) (h134.next) := ⟨fun hm => (Y137.mu _ hm).elim m135.1 (fun e => by have := c135.lt; omega), fun hm => (Y137.ron _ hm).elim m135.2 (fun e => by have := c135.lt; omega)⟩
   replace c135 := c135.sm Y137.sm m135.1
   have T137 : Sm (Ow h (⟨Gh.B (A18x3 G d va130 vc130), S137, C137, ro137⟩ : Gh)) h137 h137 := .refl
   have eW2 : ((A18x1 W d no p).setRq p no { ((A18x1 W d no p).rq p no) with st := ⟨(W.rq p no).peer, (W.rq p no).tag, (⟨p, (W.rq p no).ctx, (W.rq p no).tag, ((d.length + (W.rq p no).parts * (W.rq p no).size : Nat) : Int), (W.rq p no).parts⟩ : En).size, 0⟩ }) = W.setRq p no { { W.rq p no with act := true, done := false, st := St.z, data := d } with st := ⟨(W.rq p no).peer, (W.rq p no).tag, (⟨p, (W.rq p no).ctx, (W.rq p no).tag, ((d.length + (W.rq p no).parts * (W.rq p no).size : Nat) : Int), (W.rq p no).parts⟩ : En).size, 0⟩ } := by rw [Wd.setRq_at, Wd.setRq_setRq]
   rw [eW2] at R137
   refine L_nil ⟨rfl, ?_⟩
   refine D_l (l := []) kr kr Rk_nil (NS_nil (W_rg 2 kr (L_ld _ rfl rfl kr (c129.ld (o := 0) kr rfl) (L_ld _ rfl rfl kr (Cl.allN (n := 5) c135 rfl kr) (L_c rfl rfl kr (send_ok (e := (⟨p, (W.rq p no).ctx, (W.rq p no).tag, ((d.length + (W.rq p no).parts * (W.rq p no).size : Nat) : Int), (W.rq p no).parts⟩ : En)) (R137.ow T137) hp hr_137 he) ?_)))))
   rintro v138 h138 N138
   dsimp only at N138
   obtain ⟨S138, C138, ro138, R138, Y138⟩ := N138
   have X138 := ((X137).ow T137).trans Y138
   have hr_138 := (Y138.keep _ hr_137).1
   have mZ6_131_132_133_134_137_138 : ¬ (Gh.mut ⟨Gh.B (A18x3 G d va130 vc130), S138, C138, ro138⟩) (h.next) ∧ ¬ (Gh.ro ⟨Gh.B (A18x3 G d va130 vc130), S138, C138, ro138⟩) (h.next) := ⟨fun hm => (Y138.mu _ hm).elim mZ6_131_132_133_134_137.1 (fun e => by have := c129.lt; omega), fun hm => (Y138.ron _ hm).elim mZ6_131_132_133_134_137.2 (fun e => by have := c129.lt; omega)⟩
   have m135_137_138 : ¬ (Gh.mut ⟨Gh.B (A18x3 G d va130 vc130), S138, C138, ro138⟩) (h134.next) ∧ ¬ (Gh.ro ⟨Gh.B (A18x3 G d va130 vc130), S138, C138, ro138⟩) (h134.next) := ⟨fun hm => (Y138.mu _ hm).elim m135_137.1 (fun e => by have := c135.lt; omega), fun hm => (Y138.ron _ hm).elim m135_137.2 (fun e => by have := c135.lt; omega)⟩
   have T138 : Sm (Ow h (⟨Gh.B (A18x3 G d va130 vc130), S138, C138, ro138⟩ : Gh)) h138 h138 := .refl
   refine L_nil ?_
   repeat with_reducible refine blk_norm ?_
   refine done_of (v := .tuple ⟨[]⟩) (.inr rfl) kr ?_
   exact ⟨_, _, _, (R138.ow T138), ((X138).ow T138)⟩
 ·
   rename_i hsend
   have hsend : (W.rq p no).send = false := by simpa using hsend
   refine W_region (L_ld _ rfl rfl kr (c129.ld (o := 0) kr rfl) (L_g 2 kr (L_ld _ rfl rfl kr (((cz.sm T136 (fun hx => hx.2.1 ⟨.rq p no, hr_134, rfl⟩)).ld (o := 5) kr (by rw [← hsend]; rfl) : aLoad Try.prog 4 ⟨G.B (.rq p no), 5, none⟩ h136 = some (.bool false))) (L_g 1 kr (L_nil ?_)))))
   refine W_cond false kr (fun e => by cases e) (fun _ => ?_)
   refine W_seq ?_
   split at he
   ·
    rename_i hpeer
    have hpeer : (W.rq p no).peer = -2 := hpeer
    obtain rfl := Option.some.inj he
    refine W_region (L_ld _ rfl rfl kr (c129.ld (o := 0) kr rfl) (L_g 2 kr (L_ld _ rfl rfl kr ((cz.sm T136 (fun hx => hx.2.1 ⟨.rq p no, hr_134, rfl⟩)).ld (o := 1) kr rfl) (L_i ((W.rq p no).peer) (-2) (.bool true) rfl rfl kr kr rfl (by simp; omega) (L_g 1 kr (L_nil ?_))))))
    refine W_cond true kr (fun _ => ?_) (fun e => by cases e)
    refine W_drawn kr (D_e (e := 5) (l := [0,1,2,3,4]) (s' := [1]) kr kr rfl kr Rk_nil (NS_ld _ rfl rfl kr kr kr (c129.ld (o := 0) kr rfl) (NS_ld _ rfl rfl kr kr kr (c129.ld (o := 0) kr rfl) (NS_b 3 kr (NS_nil ?_)))))
    obtain ⟨dv9, hd9, c9⟩ := (R134.ow T136).rqL hp hr_134
    replace c9 : Cl h136 (Gh.B (A18x3 G d va130 vc130) (.rq p no)) [nk ((A18x1 W d no p).rq p no).no, nv ((A18x1 W d no p).rq p no).peer, nv ((A18x1 W d no p).rq p no).ctx, nv ((A18x1 W d no p).rq p no).tag, nv ((A18x1 W d no p).rq p no).room, .bool ((A18x1 W d no p).rq p no).send, .bool ((A18x1 W d no p).rq p no).sync, .bool ((A18x1 W d no p).rq p no).pers, .bool ((A18x1 W d no p).rq p no).act, .bool ((A18x1 W d no p).rq p no).done, nk ((A18x1 W d no p).rq p no).parts, nk ((A18x1 W d no p).rq p no).size, dv9, (⟨Gh.B (A18x3 G d va130 vc130), S134, C134, ro134⟩ : Gh).S (.pcs p no), nk ((A18x1 W d no p).rq p no).gone, (⟨Gh.B (A18x3 G d va130 vc130), S134, C134, ro134⟩ : Gh).S (.snt p no), .bool ((A18x1 W d no p).rq p no).clr, nv ((A18x1 W d no p).rq p no).st.src, nv ((A18x1 W d no p).rq p no).st.tag, nv ((A18x1 W d no p).rq p no).st.size, nv ((A18x1 W d no p).rq p no).st.err] := c9
    obtain ⟨h139, e139, d139, t139, n139⟩ := c9.storeAt (P := Try.prog) (T := 43) (o := 17) (v := .agg ⟨[nv (-2), nv (-1), nv 0, nv 0]⟩) (vs := [nv (-2), nv (-1), nv 0, nv 0]) kr rfl (by simp) (List.all_eq_true.1 rfl)
    have N139 : Nxt ((A18x1 W d no p).setRq p no { ((A18x1 W d no p).rq p no) with st := ⟨-2, -1, 0, 0⟩ }) (⟨Gh.B (A18x3 G d va130 vc130), S134, C134, ro134⟩ : Gh) h136 h139 := (R134.ow T136).stRq hp hr_134 (r := { ((A18x1 W d no p).rq p no) with st := ⟨-2, -1, 0, 0⟩ }) hd9 d139 t139 rfl rfl rfl
    clear hd9
    refine L_st _ rfl rfl rfl kr kr (e139) ?_
    obtain ⟨S139, C139, ro139, R139, Y139⟩ := N139
    have X139 := ((X134).ow T136).trans Y139
    have hr_139 := (Y139.keep _ hr_134).1
    have mZ6_131_132_133_134_139 : ¬ (Gh.mut ⟨Gh.B (A18x3 G d va130 vc130), S139, C139, ro139⟩) (h.next) ∧ ¬ (Gh.ro ⟨Gh.B (A18x3 G d va130 vc130), S139, C139, ro139⟩) (h.next) := ⟨fun hm => (Y139.mu _ hm).elim mZ6_131_132_133_134.1 (fun e => by have := c129.lt; omega), fun hm => (Y139.ron _ hm).elim mZ6_131_132_133_134.2 (fun e => by have := c129.lt; omega)⟩
    replace c129 := c129.sm Y139.sm mZ6_131_132_133_134.1
    have m135_139 : ¬ (Gh.mut ⟨Gh.B (A18x3 G d va130 vc130), S139, C139, ro139⟩) (h134.next) ∧ ¬ (Gh.ro ⟨Gh.B (A18x3 G d va130 vc130), S139, C139, ro139⟩) (h134.next) := ⟨fun hm => (Y139.mu _ hm).elim m135.1 (fun e => by have := c135.lt; omega), fun hm => (Y139.ron _ hm).elim m135.2 (fun e => by have := c135.lt; omega)⟩
    replace c135 := c135.sm Y139.sm m135.1
    have T139 : Sm (Ow h (⟨Gh.B (A18x3 G d va130 vc130), S139, C139, ro139⟩ : Gh)) h139 h139 := .refl
    refine L_nil ⟨rfl, ?_⟩
    refine D_e (e := 8) (l := [6,7]) (s' := []) kr kr rfl kr (Rk_ld _ rfl rfl rfl kr (c129.ld (o := 0) kr rfl) kr Rk_nil) (NS_b 2 kr (NS_nil ?_))
    obtain ⟨dv9, hd9, c9⟩ := (R139.ow T139).rqL hp hr_139
    replace c9 : Cl h139 (Gh.B (A18x3 G d va130 vc130) (.rq p no)) [nk (A18x5 W d no p).no, nv (A18x5 W d no p).peer, nv (A18x5 W d no p).ctx, nv (A18x5 W d no p).tag, nv (A18x5 W d no p).room, .bool (A18x5 W d no p).send, .bool (A18x5 W d no p).sync, .bool (A18x5 W d no p).pers, .bool (A18x5 W d no p).act, .bool (A18x5 W d no p).done, nk (A18x5 W d no p).parts, nk (A18x5 W d no p).size, dv9, (⟨Gh.B (A18x3 G d va130 vc130), S139, C139, ro139⟩ : Gh).S (.pcs p no), nk (A18x5 W d no p).gone, (⟨Gh.B (A18x3 G d va130 vc130), S139, C139, ro139⟩ : Gh).S (.snt p no), .bool (A18x5 W d no p).clr, nv (A18x5 W d no p).st.src, nv (A18x5 W d no p).st.tag, nv (A18x5 W d no p).st.size, nv (A18x5 W d no p).st.err] := c9
    obtain ⟨h140, e140, d140, t140, n140⟩ := c9.s1 4 9 (.bool true)
    have N140 : Nxt (((A18x1 W d no p).setRq p no { ((A18x1 W d no p).rq p no) with st := ⟨-2, -1, 0, 0⟩ }).setRq p no { (A18x5 W d no p) with done := true }) (⟨Gh.B (A18x3 G d va130 vc130), S139, C139, ro139⟩ : Gh) h139 h140 := (R139.ow T139).stRq hp hr_139 (r := { (A18x5 W d no p) with done := true }) hd9 d140 t140 rfl rfl rfl
    clear hd9
    refine L_st _ rfl rfl rfl kr kr (e140) ?_
    obtain ⟨S140, C140, ro140, R140, Y140⟩ := N140
    have X140 := ((X139).ow T139).trans Y140
    have hr_140 := (Y140.keep _ hr_139).1
    have mZ6_131_132_133_134_139_140 : ¬ (Gh.mut ⟨Gh.B (A18x3 G d va130 vc130), S140, C140, ro140⟩) (h.next) ∧ ¬ (Gh.ro ⟨Gh.B (A18x3 G d va130 vc130), S140, C140, ro140⟩) (h.next) := ⟨fun hm => (Y140.mu _ hm).elim mZ6_131_132_133_134_139.1 (fun e => by have := c129.lt; omega), fun hm => (Y140.ron _ hm).elim mZ6_131_132_133_134_139.2 (fun e => by have := c129.lt; omega)⟩
    have m135_139_140 : ¬ (Gh.mut ⟨Gh.B (A18x3 G d va130 vc130), S140, C140, ro140⟩) (h134.next) ∧ ¬ (Gh.ro ⟨Gh.B (A18x3 G d va130 vc130), S140, C140, ro140⟩) (h134.next) := ⟨fun hm => (Y140.mu _ hm).elim m135_139.1 (fun e => by have := c135.lt; omega), fun hm => (Y140.ron _ hm).elim m135_139.2 (fun e => by have := c135.lt; omega)⟩
    have T140 : Sm (Ow h (⟨Gh.B (A18x3 G d va130 vc130), S140, C140, ro140⟩ : Gh)) h140 h140 := .refl
    simp only [Wd.setRq_at, Wd.setRq_setRq] at R140
    refine L_nil ⟨rfl, ?_⟩
    refine D_l (l := []) kr kr Rk_nil (NS_nil ?_)
    repeat with_reducible refine blk_norm ?_
    refine done_of (v := .tuple ⟨[]⟩) (.inr rfl) kr ?_
    exact ⟨_, _, _, (R140.ow T140), ((X140).ow T140)⟩
   ·
    rename_i hpeer
    have hpeer : ¬ (W.rq p no).peer = -2 := hpeer
    have hsm9 : ((A18x1 W d no p).rq p no).small := by rw [Wd.setRq_at]; exact hsm
    refine W_region (L_ld _ rfl rfl kr (c129.ld (o := 0) kr rfl) (L_g 2 kr (L_ld _ rfl rfl kr ((cz.sm T136 (fun hx => hx.2.1 ⟨.rq p no, hr_134, rfl⟩)).ld (o := 1) kr rfl) (L_i ((W.rq p no).peer) (-2) (.bool false) rfl rfl kr kr rfl (by simp; omega) (L_g 1 kr (L_nil ?_))))))
    refine W_cond false kr (fun e => by cases e) (fun _ => ?_)
    refine W_seq ?_
    split at he
    ·
     rename_i i hf
     have hf9 : ((A18x1 W d no p).pr p).msgs.findIdx? (fun m => ((A18x1 W d no p).rq p no).fits m.en) = some i := by rw [Wd.setRq_at]; exact hf
     obtain ⟨x, hx⟩ : ∃ x, (W.pr p).msgs[i]? = some x := ⟨_, List.getElem?_eq_getElem (find_lt hf)⟩
     rw [List.getD_eq_getElem?_getD, hx, Option.getD_some] at he
     refine W_rg 3 kr (L_ld _ rfl rfl kr ((R134.ow T136).wdL.ld (o := 1) kr rfl) (L_g 1 kr ?_))
     obtain ⟨b1, o1, i1, l1⟩ := (R134.ow T136).prsAt (P := Try.prog) (T := 74) (el := 77) kr kr kr hp
     refine L_ix _ rfl rfl kr kr (i1) (L_ld _ rfl rfl kr (l1) (L_g 1 kr (L_nil (W_seq (W_region (L_g 4 kr ?_))))))
     refine L_c rfl rfl kr (take_ms (R134.ow T136) hp (pr := fun m => ((A18x1 W d no p).rq p no).fits m.en) hlm (fun _ _ => rfl) (fun x v hv h' t => by
       obtain ⟨ty, u, rfl⟩ := hv.iface
       exact st1_ok (e := x.en) ((R134.ow T136).ext t) hp hr_134 hsm9 ((c129.ext t))) hf9 hx) ?_
     rintro v141 h141 ⟨v9141, hv141, e141, N141⟩
     dsimp only at hv141 e141 N141
     subst e141
     obtain ⟨ty, u, rfl⟩ := hv141.iface
     obtain ⟨S141, C141, ro141, R141, Y141⟩ := N141
     have X141 := ((X134).ow T136).trans Y141
     have hr_141 := (Y141.keep _ hr_134).1
     have mZ6_131_132_133_134_141 : ¬ (Gh.mut ⟨Gh.B (A18x3 G d va130 vc130), S141, C141, ro141⟩) (h.next) ∧ ¬ (Gh.ro ⟨Gh.B (A18x3 G d va130 vc130), S141, C141, ro141⟩) (h.next) := ⟨fun hm => (Y141.mu _ hm).elim mZ6_131_132_133_134.1 (fun e => by have := c129.lt; omega), fun hm => (Y141.ron _ hm).elim mZ6_131_132_133_134.2 (fun e => by have := c129.lt; omega)⟩
     replace c129 := c129.sm Y141.sm mZ6_131_132_133_134.1
     have m135_141 : ¬ (Gh.mut ⟨Gh.B (A18x3 G d va130 vc130), S141, C141, ro141⟩) (h134.next) ∧ ¬ (Gh.ro ⟨Gh.B (A18x3 G d va130 vc130), S141, C141, ro141⟩) (h134.next) := ⟨fun hm => (Y141.mu _ hm).elim m135.1 (fun e => by have := c135.lt; omega), fun hm => (Y141.ron _ hm).elim m135.2 (fun e => by have := c135.lt; omega)⟩
     replace c135 := c135.sm Y141.sm m135.1
     have T141 : Sm (Ow h (⟨Gh.B (A18x3 G d va130 vc130), S141, C141, ro141⟩ : Gh)) h141 h141 := .refl
     have hv9 := hv141.mono (Gx.dr Y141 (R134.ow T136).op)
     refine L_g 3 kr ?_
     have m142 : ¬ (Gh.mut (⟨Gh.B (A18x3 G d va130 vc130), S141, C141, ro141⟩ : Gh)) h141.next ∧ ¬ (Gh.ro (⟨Gh.B (A18x3 G d va130 vc130), S141, C141, ro141⟩ : Gh)) h141.next := ⟨(R141.ow T141).op.new (Nat.le_refl _), (R141.ow T141).op.newr (Nat.le_refl _)⟩
     refine L_nw (Al.cells [nv 0, nv 0, nv 0, nv 0, nv 0, .nilIface]) .ptr rfl rfl kr ?_
     have l142_t6 := c129.lt
     have l142_t8 := c135.lt
     have c142 : Cl (h141.push (Al.cells [nv 0, nv 0, nv 0, nv 0, nv 0, .nilIface]).obj) h141.next [nv 0, nv 0, nv 0, nv 0, nv 0, .nilIface] := Cl.new h141 _
     have t142 : Sm Nix h141 (h141.push (Al.cells [nv 0, nv 0, nv 0, nv 0, nv 0, .nilIface]).obj) := .push h141 _
     have n142 : (h141.push (Al.cells [nv 0, nv 0, nv 0, nv 0, nv 0, .nilIface]).obj).next = h141.next + 1 := rfl
     generalize h141.push (Al.cells [nv 0, nv 0, nv 0, nv 0, nv 0, .nilIface]).obj = h142 at c142 t142 n142 ⊢
     replace c129 := c129.ext t142
     replace c135 := c135.ext t142
     have T142 : Sm (Ow h (⟨Gh.B (A18x3 G d va130 vc130), S141, C141, ro141⟩ : Gh)) h141 h142 := T141.ext t142
     have N142 := T142.nx
     obtain ⟨h143, e143, d143, t143, n143⟩ := c142.sA 117 [nv x.en.src, nv x.en.ctx, nv x.en.tag, nv x.en.size, nv x.en.parts, .iface ty u]
     replace c129 := c129.sn t143
     replace c135 := c135.sn t143
     replace c142 := d143
     have T143 : Sm (Ow h (⟨Gh.B (A18x3 G d va130 vc130), S141, C141, ro141⟩ : Gh)) h141 h143 := T142.trans t143 (fun x hx => by have hx : x = h141.next := hx; subst hx; first | exact .inr (by omega) | exact .inl ⟨by omega, m142.1, m142.2⟩ | exact .inl rfl)
     have N143 := T143.nx
     refine L_st _ rfl rfl rfl kr kr (e143) (L_g 1 kr (L_nil (W_sg 1 kr (L_nil ?_))))
     refine W_cond true kr (fun _ => ?_) (fun e => by cases e)
     refine W_rg 2 kr (L_ld _ rfl rfl kr (c129.ld (o := 0) kr rfl) (L_ld _ rfl rfl kr (Cl.allN (n := 6) c142 rfl kr) (L_c rfl rfl kr (match_ok (v := .iface ty u) (R141.ow T143) hp hr_141 (hv9.mono (fun _ _ z => z.ext3 T143)) he) ?_)))
     rintro v144 h144 N144
     dsimp only at N144
     obtain ⟨S144, C144, ro144, R144, Y144⟩ := N144
     have X144 := ((X141).ow T143).trans Y144
     have hr_144 := (Y144.keep _ hr_141).1
     have mZ6_131_132_133_134_141_144 : ¬ (Gh.mut ⟨Gh.B (A18x3 G d va130 vc130), S144, C144, ro144⟩) (h.next) ∧ ¬ (Gh.ro ⟨Gh.B (A18x3 G d va130 vc130), S144, C144, ro144⟩) (h.next) := ⟨fun hm => (Y144.mu _ hm).elim mZ6_131_132_133_134_141.1 (fun e => by have := c129.lt; omega), fun hm => (Y144.ron _ hm).elim mZ6_131_132_133_134_141.2 (fun e => by have := c129.lt; omega)⟩
     have m135_141_144 : ¬ (Gh.mut ⟨Gh.B (A18x3 G d va130 vc130), S144, C144, ro144⟩) (h134.next) ∧ ¬ (Gh.ro ⟨Gh.B (A18x3 G d va130 vc130), S144, C144, ro144⟩) (h134.next) := ⟨fun hm => (Y144.mu _ hm).elim m135_141.1 (fun e => by have := c135.lt; omega), fun hm => (Y144.ron _ hm).elim m135_141.2 (fun e => by have := c135.lt; omega)⟩
     have m142_144 : ¬ (Gh.mut ⟨Gh.B (A18x3 G d va130 vc130), S144, C144, ro144⟩) (h141.next) ∧ ¬ (Gh.ro ⟨Gh.B (A18x3 G d va130 vc130), S144, C144, ro144⟩) (h141.next) := ⟨fun hm => (Y144.mu _ hm).elim m142.1 (fun e => by have := c142.lt; omega), fun hm => (Y144.ron _ hm).elim m142.2 (fun e => by have := c142.lt; omega)⟩
     have T144 : Sm (Ow h (⟨Gh.B (A18x3 G d va130 vc130), S144, C144, ro144⟩ : Gh)) h144 h144 := .refl
     refine L_nil ?_
     repeat with_reducible refine blk_norm ?_
     refine done_of (v := .tuple ⟨[]⟩) (.inr rfl) kr ?_
     exact ⟨_, _, _, (R144.ow T144), ((X144).ow T144)⟩
    ·
     rename_i hf
     have hf9 : ((A18x1 W d no p).pr p).msgs.findIdx? (fun m => ((A18x1 W d no p).rq p no).fits m.en) = none := by rw [Wd.setRq_at]; exact hf
     split at he
     rotate_right
     · cases he
     rename_i hlr
     obtain rfl := Option.some.inj he
     refine W_rg 3 kr (L_ld _ rfl rfl kr ((R134.ow T136).wdL.ld (o := 1) kr rfl) (L_g 1 kr ?_))
     obtain ⟨b1, o1, i1, l1⟩ := (R134.ow T136).prsAt (P := Try.prog) (T := 74) (el := 77) kr kr kr hp
     refine L_ix _ rfl rfl kr kr (i1) (L_ld _ rfl rfl kr (l1) (L_g 1 kr (L_nil (W_seq (W_region (L_g 4 kr ?_))))))
     refine L_c rfl rfl kr (take_ms_no (R134.ow T136) hp (pr := fun m => ((A18x1 W d no p).rq p no).fits m.en) hlm (fun _ _ => rfl) (fun x v hv h' t => by
       obtain ⟨ty, u, rfl⟩ := hv.iface
       exact st1_ok (e := x.en) ((R134.ow T136).ext t) hp hr_134 hsm9 ((c129.ext t))) hf9) ?_
     rintro v145 h145 ⟨e145, t145⟩
     try dsimp only at e145
     try dsimp only at t145
     subst e145
     replace c129 := c129.ext t145
     replace c135 := c135.ext t145
     have T145 : Sm (Ow h (⟨Gh.B (A18x3 G d va130 vc130), S134, C134, ro134⟩ : Gh)) h134 h145 := T136.ext t145
     have N145 := T145.nx
     have M145 := t145.nx
     refine L_g 3 kr ?_
     have m146 : ¬ (Gh.mut (⟨Gh.B (A18x3 G d va130 vc130), S134, C134, ro134⟩ : Gh)) h145.next ∧ ¬ (Gh.ro (⟨Gh.B (A18x3 G d va130 vc130), S134, C134, ro134⟩ : Gh)) h145.next := ⟨(R134.ow T145).op.new (Nat.le_refl _), (R134.ow T145).op.newr (Nat.le_refl _)⟩
     refine L_nw (Al.cells [nv 0, nv 0, nv 0, nv 0, nv 0, .nilIface]) .ptr rfl rfl kr ?_
     have l146_t6 := c129.lt
     have l146_t8 := c135.lt
     have c146 : Cl (h145.push (Al.cells [nv 0, nv 0, nv 0, nv 0, nv 0, .nilIface]).obj) h145.next [nv 0, nv 0, nv 0, nv 0, nv 0, .nilIface] := Cl.new h145 _
     have t146 : Sm Nix h145 (h145.push (Al.cells [nv 0, nv 0, nv 0, nv 0, nv 0, .nilIface]).obj) := .push h145 _
     have n146 : (h145.push (Al.cells [nv 0, nv 0, nv 0, nv 0, nv 0, .nilIface]).obj).next = h145.next + 1 := rfl
     generalize h145.push (Al.cells [nv 0, nv 0, nv 0, nv 0, nv 0, .nilIface]).obj = h146 at c146 t146 n146 ⊢
     replace c129 := c129.ext t146
     replace c135 := c135.ext t146
     have T146 : Sm (Ow h (⟨Gh.B (A18x3 G d va130 vc130), S134, C134, ro134⟩ : Gh)) h134 h146 := T145.ext t146
     have N146 := T146.nx
     obtain ⟨h147, e147, d147, t147, n147⟩ := c146.sA 117 [.int .i64 0, .int .i64 0, .int .i64 0, .int .i64 0, .int .i64 0, .nilIface]
     replace c129 := c129.sn t147
     replace c135 := c135.sn t147
     replace c146 := d147
     have T147 : Sm (Ow h (⟨Gh.B (A18x3 G d va130 vc130), S134, C134, ro134⟩ : Gh)) h134 h147 := T146.trans t147 (fun x hx => by have hx : x = h145.next := hx; subst hx; first | exact .inr (by omega) | exact .inl ⟨by omega, m146.1, m146.2⟩ | exact .inl rfl)
     have N147 := T147.nx
     refine L_st _ rfl rfl rfl kr kr (e147) (L_g 1 kr (L_nil (W_sg 1 kr (L_nil ?_))))
     refine W_cond false kr (fun e => by cases e) (fun _ => ?_)
     refine W_drawn kr (D_e (e := 4) (l := [0,1,2,3]) (s' := []) kr kr rfl kr Rk_nil (NS_b 3 kr (NS_ld _ rfl rfl kr kr kr (c129.ld (o := 0) kr rfl) (NS_nil (L_c rfl rfl kr (putq_rq (R134.ow T147) hp hr_134 hlr) ?_)))))
     rintro v148 h148 N148
     dsimp only at N148
     obtain ⟨S148, C148, ro148, R148, Y148⟩ := N148
     have X148 := ((X134).ow T147).trans Y148
     have hr_148 := (Y148.keep _ hr_134).1
     have mZ6_131_132_133_134_148 : ¬ (Gh.mut ⟨Gh.B (A18x3 G d va130 vc130), S148, C148, ro148⟩) (h.next) ∧ ¬ (Gh.ro ⟨Gh.B (A18x3 G d va130 vc130), S148, C148, ro148⟩) (h.next) := ⟨fun hm => (Y148.mu _ hm).elim mZ6_131_132_133_134.1 (fun e => by have := c129.lt; omega), fun hm => (Y148.ron _ hm).elim mZ6_131_132_133_134.2 (fun e => by have := c129.lt; omega)⟩
     have m135_148 : ¬ (Gh.mut ⟨Gh.B (A18x3 G d va130 vc130), S148, C148, ro148⟩) (h134.next) ∧ ¬ (Gh.ro ⟨Gh.B (A18x3 G d va130 vc130), S148, C148, ro148⟩) (h134.next) := ⟨fun hm => (Y148.mu _ hm).elim m135.1 (fun e => by have := c135.lt; omega), fun hm => (Y148.ron _ hm).elim m135.2 (fun e => by have := c135.lt; omega)⟩
     have m146_148 : ¬ (Gh.mut ⟨Gh.B (A18x3 G d va130 vc130), S148, C148, ro148⟩) (h145.next) ∧ ¬ (Gh.ro ⟨Gh.B (A18x3 G d va130 vc130), S148, C148, ro148⟩) (h145.next) := ⟨fun hm => (Y148.mu _ hm).elim m146.1 (fun e => by have := c146.lt; omega), fun hm => (Y148.ron _ hm).elim m146.2 (fun e => by have := c146.lt; omega)⟩
     have T148 : Sm (Ow h (⟨Gh.B (A18x3 G d va130 vc130), S148, C148, ro148⟩ : Gh)) h148 h148 := .refl
     refine L_nil ⟨rfl, ?_⟩
     refine D_l (l := []) kr kr Rk_nil (NS_nil ?_)
     repeat with_reducible refine blk_norm ?_
     refine done_of (v := .tuple ⟨[]⟩) (.inr rfl) kr ?_
     exact ⟨_, _, _, (R148.ow T148), ((X148).ow T148)⟩
end
end Go.Proofs.Ytmehemeoaplepaa
namespace Go.Proofs.Ytmehemeoaplepaa
noncomputable section
open Go Go.X Go.Arm Go.Mt
theorem req_ok {W : Wd} {G : Gh} {h : AH} {p no : Nat} (R : Rep W G h) (hp : p < W.n) (hm : no ∈ (W.pr p).reqs) :
  Arm.Calls Try.prog 51 [ptr (G.B .wd), nv (p : Int), nv (no : Int)] h (fun r => r.1 = .tuple ⟨[ptr (G.B (.rq p no)), nv 0]⟩ ∧ Sm Nix h r.2) := by
 refine Calls_W 29 Try.f51 ?_
 have T0 : Sm Nix h h := .refl
 refine W_sg 2 kr (L_nil (W_sg 2 kr (L_c rfl rfl kr (at_ok (R.ext T0) hp) ?_)))
 rintro v149 h149 ⟨e149, t149⟩
 try dsimp only at e149
 try dsimp only at t149
 subst e149
 have T149 := T0.ext t149
 have N149 := T149.nx
 have M149 := t149.nx
 refine L_g 5 kr (L_nil (W_seq (W_sg 2 kr (L_nil ?_))))
 refine W_cond false kr (fun e => by cases e) (fun _ => ?_)
 refine W_skip (W_sg 3 kr (L_ld _ rfl rfl kr (((R.ext T149).prL hp).ld (o := 1) kr rfl) (L_g 1 kr (L_lk _ rfl rfl kr kr (look_rq (R.ext T149) hp hm) (L_g 1 kr (L_nil (W_seq (W_seq (W_region ?_)))))))))
 refine L_g 2 kr (L_nil ?_)
 refine W_cond false kr (fun e => by cases e) (fun _ => ?_)
 refine W_skip (W_sg 3 kr (L_nil (W_ret ?_)))
 repeat first | with_reducible refine then_ret ?_ | with_reducible refine blk_ret ?_
 refine done_of (v := .tuple ⟨[ptr (G.B (.rq p no)), nv 0]⟩) (.inl rfl) kr ?_
 exact ⟨rfl, T149⟩
theorem begun_ok {W : Wd} {G : Gh} {h : AH} {p no : Nat} (R : Rep W G h) (hp : p < W.n) (hm : no ∈ (W.pr p).reqs) (h2 : (W.rq p no).act = true) :
  Arm.Calls Try.prog 35 [ptr (G.B .wd), nv (p : Int), nv (no : Int)] h (fun r => r.1 = .tuple ⟨[ptr (G.B (.rq p no)), nv 0]⟩ ∧ Sm Nix h r.2) := by
 have hr := (R.rel.pr p hp).rqp no hm
 obtain ⟨dv0, hd0, c0⟩ := R.rqL hp hr
 replace c0 : Arm.Cl h (G.B (.rq p no)) [nk (W.rq p no).no, nv (W.rq p no).peer, nv (W.rq p no).ctx, nv (W.rq p no).tag, nv (W.rq p no).room, .bool (W.rq p no).send, .bool (W.rq p no).sync, .bool (W.rq p no).pers, .bool (W.rq p no).act, .bool (W.rq p no).done, nk (W.rq p no).parts, nk (W.rq p no).size, dv0, G.S (.pcs p no), nk (W.rq p no).gone, G.S (.snt p no), .bool (W.rq p no).clr, nv (W.rq p no).st.src, nv (W.rq p no).st.tag, nv (W.rq p no).st.size, nv (W.rq p no).st.err] := c0
 refine Calls_W 28 Try.f35 ?_
 have T0 : Sm Nix h h := .refl
 refine W_sg 2 kr (L_nil (W_sg 3 kr (L_c rfl rfl kr (req_ok (R.ext T0) hp hm) ?_)))
 rintro v155 h155 ⟨e155, t155⟩
 try dsimp only at e155
 try dsimp only at t155
 subst e155
 have T155 := T0.ext t155
 have N155 := T155.nx
 have M155 := t155.nx
 refine L_g 5 kr (L_nil (W_seq (W_block (W_sg 3 kr (L_nil ?_)))))
 refine W_cond false kr (fun e => by cases e) (fun _ => ?_)
 refine W_sg 3 kr (L_ld _ rfl rfl kr (((c0.ext T155).ld (o := 8) kr (by rw [← h2]; rfl) : aLoad Try.prog 4 ⟨G.B (.rq p no), 8, none⟩ h155 = some (.bool true))) (L_g 2 kr (L_nil ?_)))
 refine W_cond false kr (fun e => by cases e) (fun _ => ?_)
 refine W_skip (W_sg 3 kr (L_nil (W_ret ?_)))
 repeat first | with_reducible refine then_ret ?_ | with_reducible refine blk_ret ?_
 refine done_of (v := .tuple ⟨[ptr (G.B (.rq p no)), nv 0]⟩) (.inl rfl) kr ?_
 exact ⟨rfl, T155⟩
theorem chan_ok {W : Wd} {G : Gh} {h : AH} {p q : Nat} (R : Rep W G h) (hp : p < W.n) (hq : q < W.n) :
  Arm.Calls Try.prog 33 [ptr (G.B .wd), nv (p : Int), nv (q : Int)] h (fun r => r.1 = nv 0 ∧ Sm Nix h r.2) := by
 refine Calls_W 27 Try.f33 ?_
 have T0 : Sm Nix h h := .refl
 refine W_sg 1 kr (L_nil (W_seq (W_sg 2 kr (L_c rfl rfl kr (at_ok (R.ext T0) hp) ?_))))
 rintro v158 h158 ⟨e158, t158⟩
 try dsimp only at e158
 try dsimp only at t158
 subst e158
 have T158 := T0.ext t158
 have N158 := T158.nx
 have M158 := t158.nx
 refine L_g 5 kr (L_nil (W_sg 2 kr (L_nil ?_)))
 refine W_cond false kr (fun e => by cases e) (fun _ => ?_)
 refine W_skip (W_sg 2 kr (L_c rfl rfl kr (at_ok (R.ext T158) hq) ?_))
 rintro v159 h159 ⟨e159, t159⟩
 try dsimp only at e159
 try dsimp only at t159
 subst e159
 have T159 := T158.ext t159
 have N159 := T159.nx
 have M159 := t159.nx
 refine L_g 5 kr (L_nil (W_sg 2 kr (L_nil (W_ret ?_))))
 repeat first | with_reducible refine then_ret ?_ | with_reducible refine blk_ret ?_
 refine done_of (v := nv 0) (.inl rfl) kr ?_
 exact ⟨rfl, T159⟩
theorem prog_ok {W : Wd} {G : Gh} {h : AH} {p : Nat} {W' : Wd} (R : Rep W G h) (hp : p < W.n) (he : W.call p = some W') :
  Arm.Calls Try.prog 34 [ptr (G.B .wd), nv (p : Int)] h (fun r => r.1 = .tuple ⟨[nv ((W.pr p).inb.length : Int), nv 0]⟩ ∧ Nxt W' G h r.2) := by
 refine Calls_W 20 Try.f34 ?_
 have T0 : Sm Nix h h := .refl
 refine W_sg 2 kr (L_nil (W_seq (W_sg 2 kr (L_c rfl rfl kr (at_ok (R.ext T0) hp) ?_))))
 rintro v160 h160 ⟨e160, t160⟩
 try dsimp only at e160
 try dsimp only at t160
 subst e160
 have T160 := T0.ext t160
 have N160 := T160.nx
 have M160 := t160.nx
 refine L_g 5 kr (L_nil (W_sg 2 kr (L_nil ?_)))
 refine W_cond false kr (fun e => by cases e) (fun _ => ?_)
 refine W_skip (W_sg 2 kr (L_c rfl rfl kr (call_ok (R.ext T160) hp he) ?_))
 rintro v161 h161 ⟨e161, N161⟩
 dsimp only at e161 N161
 subst e161
 obtain ⟨S161, C161, ro161, R161, Y161⟩ := N161
 have X161 := ((Gx.refl).trans (Gx.of T160)).trans Y161
 have T161 : Sm (Ow h (⟨Gh.B G, S161, C161, ro161⟩ : Gh)) h161 h161 := .refl
 refine L_g 2 kr (L_nil (W_ret ?_))
 repeat first | with_reducible refine then_ret ?_ | with_reducible refine blk_ret ?_
 refine done_of (v := .tuple ⟨[nv ((W.pr p).inb.length : Int), nv 0]⟩) (.inl rfl) kr ?_
 exact ⟨rfl, _, _, _, (R161.ow T161), ((X161).ow T161)⟩
end
end Go.Proofs.Ytmehemeoaplepaa
namespace Go.Proofs.Ytmehemeoaplepaa
noncomputable section
open Go Go.X Go.Arm Go.Mt
theorem kdel_reqs {f : Nat → Value} {l : List Nat} {k : Nat} : kdel (l.map fun (x : Nat) => ((x : Int), f x)) (k : Int) = (l.erase k).map fun (x : Nat) => ((x : Int), f x) := by
 induction l with
 | nil => rfl
 | cons x l ih =>
  rw [List.map_cons]
  unfold kdel
  rw [List.erase_cons]
  by_cases e : x = k
  · subst e; rw [if_pos rfl]; simp
  · rw [if_neg (show ¬ ((x : Int) = (k : Int)) by omega), if_neg (by simpa using e), List.map_cons, ih]
theorem over_ok {W : Wd} {G : Gh} {h : AH} {p no : Nat} (R : Rep W G h) (hp : p < W.n) (hr : G.C (.rq p no) ≠ .no) :
   Arm.Calls Try.prog 37 [ptr (G.B .wd), nv (p : Int), ptr (G.B (.rq p no))] h (fun r => Nxt (W.over p no) G h r.2) := by
 by_cases h1 : (W.rq p no).pers = true
 · have e : W.over p no = W.setRq p no { W.rq p no with act := false } := if_pos h1
   rw [e]
   refine Calls_W 28 Try.f37 ?_
   have T0 : Sm Nix h h := .refl
   refine W_seq (W_region (L_g 3 kr ?_))
   obtain ⟨dv9, hd9, c9⟩ := (R.ext T0).rqL hp hr
   replace c9 : Cl h (Gh.B G (.rq p no)) [nk (W.rq p no).no, nv (W.rq p no).peer, nv (W.rq p no).ctx, nv (W.rq p no).tag, nv (W.rq p no).room, .bool (W.rq p no).send, .bool (W.rq p no).sync, .bool (W.rq p no).pers, .bool (W.rq p no).act, .bool (W.rq p no).done, nk (W.rq p no).parts, nk (W.rq p no).size, dv9, G.S (.pcs p no), nk (W.rq p no).gone, G.S (.snt p no), .bool (W.rq p no).clr, nv (W.rq p no).st.src, nv (W.rq p no).st.tag, nv (W.rq p no).st.size, nv (W.rq p no).st.err] := c9
   obtain ⟨h162, e162, d162, t162, n162⟩ := c9.s1 4 8 (.bool false)
   have N162 : Nxt (W.setRq p no { (W.rq p no) with act := false }) G h h162 := (R.ext T0).stRq hp hr (r := { (W.rq p no) with act := false }) hd9 d162 t162 rfl rfl rfl
   clear hd9
   refine L_st _ rfl rfl rfl kr kr (e162) ?_
   obtain ⟨S162, C162, ro162, R162, Y162⟩ := N162
   have X162 := ((Gx.refl).trans (Gx.of T0)).trans Y162
   have hr_162 := (Y162.keep _ hr).1
   have T162 : Sm (Ow h (⟨Gh.B G, S162, C162, ro162⟩ : Gh)) h162 h162 := .refl
   obtain ⟨dvz, hdz, cz⟩ := R162.rqL (p := p) hp hr_162
   rw [Wd.setRq_at] at hdz cz
   replace cz : Arm.Cl h162 (G.B (.rq p no)) [nk (W.rq p no).no, nv (W.rq p no).peer, nv (W.rq p no).ctx, nv (W.rq p no).tag, nv (W.rq p no).room, .bool (W.rq p no).send, .bool (W.rq p no).sync, .bool (W.rq p no).pers, .bool false, .bool (W.rq p no).done, nk (W.rq p no).parts, nk (W.rq p no).size, dvz, (⟨G.B, S162, C162, ro162⟩ : Gh).S (.pcs p no), nk (W.rq p no).gone, (⟨G.B, S162, C162, ro162⟩ : Gh).S (.snt p no), .bool (W.rq p no).clr, nv (W.rq p no).st.src, nv (W.rq p no).st.tag, nv (W.rq p no).st.size, nv (W.rq p no).st.err] := cz
   refine L_nil (W_sg 3 kr (L_ld _ rfl rfl kr (((cz.sm T162 (fun hx => hx.2.1 ⟨.rq p no, hr_162, rfl⟩)).ld (o := 7) kr (by rw [← h1]; rfl) : aLoad Try.prog 4 ⟨G.B (.rq p no), 7, none⟩ h162 = some (.bool true))) (L_g 1 kr (L_nil ?_))))
   refine W_cond false kr (fun e => by cases e) (fun _ => ?_)
   refine W_skip ?_
   repeat with_reducible refine blk_norm ?_
   refine done_of (v := .tuple ⟨[]⟩) (.inr rfl) kr ?_
   exact ⟨_, _, _, (R162.ow T162), ((X162).ow T162)⟩
 · have e : W.over p no = (W.setRq p no { W.rq p no with act := false }).setPr p { W.pr p with reqs := (W.pr p).reqs.erase (W.rq p no).no } := if_neg h1
   rw [e]
   have h1 : (W.rq p no).pers = false := by simpa using h1
   refine Calls_W 28 Try.f37 ?_
   have T0 : Sm Nix h h := .refl
   refine W_seq (W_region (L_g 3 kr ?_))
   obtain ⟨dv9, hd9, c9⟩ := (R.ext T0).rqL hp hr
   replace c9 : Cl h (Gh.B G (.rq p no)) [nk (W.rq p no).no, nv (W.rq p no).peer, nv (W.rq p no).ctx, nv (W.rq p no).tag, nv (W.rq p no).room, .bool (W.rq p no).send, .bool (W.rq p no).sync, .bool (W.rq p no).pers, .bool (W.rq p no).act, .bool (W.rq p no).done, nk (W.rq p no).parts, nk (W.rq p no).size, dv9, G.S (.pcs p no), nk (W.rq p no).gone, G.S (.snt p no), .bool (W.rq p no).clr, nv (W.rq p no).st.src, nv (W.rq p no).st.tag, nv (W.rq p no).st.size, nv (W.rq p no).st.err] := c9
   obtain ⟨h163, e163, d163, t163, n163⟩ := c9.s1 4 8 (.bool false)
   have N163 : Nxt (W.setRq p no { (W.rq p no) with act := false }) G h h163 := (R.ext T0).stRq hp hr (r := { (W.rq p no) with act := false }) hd9 d163 t163 rfl rfl rfl
   clear hd9
   refine L_st _ rfl rfl rfl kr kr (e163) ?_
   obtain ⟨S163, C163, ro163, R163, Y163⟩ := N163
   have X163 := ((Gx.refl).trans (Gx.of T0)).trans Y163
   have hr_163 := (Y163.keep _ hr).1
   have T163 : Sm (Ow h (⟨Gh.B G, S163, C163, ro163⟩ : Gh)) h163 h163 := .refl
   obtain ⟨dvz, hdz, cz⟩ := R163.rqL (p := p) hp hr_163
   rw [Wd.setRq_at] at hdz cz
   replace cz : Arm.Cl h163 (G.B (.rq p no)) [nk (W.rq p no).no, nv (W.rq p no).peer, nv (W.rq p no).ctx, nv (W.rq p no).tag, nv (W.rq p no).room, .bool (W.rq p no).send, .bool (W.rq p no).sync, .bool (W.rq p no).pers, .bool false, .bool (W.rq p no).done, nk (W.rq p no).parts, nk (W.rq p no).size, dvz, (⟨G.B, S163, C163, ro163⟩ : Gh).S (.pcs p no), nk (W.rq p no).gone, (⟨G.B, S163, C163, ro163⟩ : Gh).S (.snt p no), .bool (W.rq p no).clr, nv (W.rq p no).st.src, nv (W.rq p no).st.tag, nv (W.rq p no).st.size, nv (W.rq p no).st.err] := cz
   refine L_nil (W_sg 3 kr (L_ld _ rfl rfl kr (((cz.sm T163 (fun hx => hx.2.1 ⟨.rq p no, hr_163, rfl⟩)).ld (o := 7) kr (by rw [← h1]; rfl) : aLoad Try.prog 4 ⟨G.B (.rq p no), 7, none⟩ h163 = some (.bool false))) (L_g 1 kr (L_nil ?_))))
   refine W_cond true kr (fun _ => ?_) (fun e => by cases e)
   refine W_drawn kr (D_e (e := 14) (l := [0,1,2,3,4,5,6,7,8,9,10,11,12,13]) (s' := []) kr kr rfl kr Rk_nil (NS_b 3 kr (NS_ld _ rfl rfl kr kr kr ((R163.ow T163).wdL.ld (o := 1) kr rfl) (NS_b 1 kr ?_))))
   obtain ⟨b1, o1, i1, l1⟩ := (R163.ow T163).prsAt (P := Try.prog) (T := 74) (el := 77) kr kr kr hp
   refine NS_ix _ rfl rfl kr kr kr kr (i1) (NS_ld _ rfl rfl kr kr kr (l1) (NS_b 2 kr (NS_ld _ rfl rfl kr kr kr (((R163.ow T163).prL hp).ld (o := 1) kr rfl) (NS_b 3 kr (NS_ld _ rfl rfl kr kr kr ((cz.sm T163 (fun hx => hx.2.1 ⟨.rq p no, hr_163, rfl⟩)).ld (o := 0) kr rfl) (NS_nil ?_))))))
   have hE := (R163.ow T163).rqs (p := p) hp
   obtain ⟨h164, e164, mp164, t164, n164⟩ := hE.1.delete (P := Try.prog) (T := 78) (el := 103) kr kNum ((W.rq p no).no : Int)
   have e9 := kdel_reqs (f := fun k => ptr (Gh.B (⟨Gh.B G, S163, C163, ro163⟩ : Gh) (.rq p k))) (l := (W.pr p).reqs) (k := (W.rq p no).no)
   have mp9164 : Mp h164 (Gh.B (⟨Gh.B G, S163, C163, ro163⟩ : Gh) (.rqs p)) nv Eq (((W.pr p).reqs.erase (W.rq p no).no).map fun (k : Nat) => ((k : Int), ptr (Gh.B (⟨Gh.B G, S163, C163, ro163⟩ : Gh) (.rq p k)))) := e9 ▸ mp164
   have N164 : Nxt ((W.setRq p no { W.rq p no with act := false }).setPr p { W.pr p with reqs := (W.pr p).reqs.erase (W.rq p no).no }) (⟨Gh.B G, S163, C163, ro163⟩ : Gh) h163 h164 := (R163.ow T163).setRqs (p := p) hp (fun k hk => ((R163.ow T163).rel.pr p hp).rqp k (List.mem_of_mem_erase hk)) mp9164 (hE.2.delete e164) t164
   refine L_bi _ _ rfl rfl kr kr (bi_delete e164) ?_
   obtain ⟨S164, C164, ro164, R164, Y164⟩ := N164
   have X164 := ((X163).ow T163).trans Y164
   have hr_164 := (Y164.keep _ hr_163).1
   have T164 : Sm (Ow h (⟨Gh.B (⟨Gh.B G, S163, C163, ro163⟩ : Gh), S164, C164, ro164⟩ : Gh)) h164 h164 := .refl
   refine L_nil ⟨rfl, ?_⟩
   refine D_l (l := []) kr kr Rk_nil (NS_nil ?_)
   repeat with_reducible refine blk_norm ?_
   refine done_of (v := .tuple ⟨[]⟩) (.inr rfl) kr ?_
   exact ⟨_, _, _, (R164.ow T164), ((X164).ow T164)⟩
end
end Go.Proofs.Ytmehemeoaplepaa
