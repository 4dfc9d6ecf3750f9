/- Worlds of the program and walks of its functions. -/
import Derived.Test.YtmehemeoaplepaaZn
namespace Go.Proofs.Ytmehemeoaplepaa
noncomputable section
open Go Go.X Go.Arm Go.Mt
abbrev A17x1 (W : Wd) (e : En) (i : Nat) (no : Nat) (p : Nat) : Wd := (W.setPr p { W.pr p with crds := (W.pr p).crds.set i (((W.pr p).crds.getD i 0) - 1) }).setWay p (W.rq p no).peer ((W.setPr p { W.pr p with crds := (W.pr p).crds.set i (((W.pr p).crds.getD i 0) - 1) }).way p (W.rq p no).peer ++ [Pk.eager e (W.rq p no).data])
theorem dec_int {x : Int} (h0 : 0 < x) (h1 : x < (big : Nat)) : Value.int .i64 (IntKind.i64.wrap (x - 1)) = nv (x - 1) := by
 have h1 : x < 1000000000 := h1
 have : IntKind.i64.wrap (x - 1) = x - 1 := by rw [IntKind.wrap_i64]; omega
 rw [this]; rfl
theorem _root_.Go.Arm.Dr.ext3 {h0 h h' : AH} {G : Gh} {v : Value} {d : By} (H : Dr h G.ro v d) (s : Sm (Ow h0 G) h h') : Dr h' G.ro v d := ⟨H.1.sm s (fun b hb hx => hx.2.2 (H.2 b hb)), H.2⟩
set_option maxHeartbeats 2000000 in
theorem send_ok {W : Wd} {G : Gh} {h : AH} {p no : Nat} {e : En} {W' : Wd} (R : Rep W G h) (hp : p < W.n) (hr : G.C (.rq p no) ≠ .no) (he : W.send p no e = some W') :
   Arm.Calls Try.prog 53 [ptr (G.B .wd), nv (p : Int), ptr (G.B (.rq p no)), .agg ⟨[nv e.src, nv e.ctx, nv e.tag, nv e.size, nv e.parts]⟩] h (fun r => Nxt W' G h r.2) := by
 obtain ⟨dv0, hd0, c0⟩ := R.rqL hp hr
 replace c0 : Arm.Cl h (G.B (.rq p no)) [nk (W.rq p no).no, nv (W.rq p no).peer, nv (W.rq p no).ctx, nv (W.rq p no).tag, nv (W.rq p no).room, .bool (W.rq p no).send, .bool (W.rq p no).sync, .bool (W.rq p no).pers, .bool (W.rq p no).act, .bool (W.rq p no).done, nk (W.rq p no).parts, nk (W.rq p no).size, dv0, G.S (.pcs p no), nk (W.rq p no).gone, G.S (.snt p no), .bool (W.rq p no).clr, nv (W.rq p no).st.src, nv (W.rq p no).st.tag, nv (W.rq p no).st.size, nv (W.rq p no).st.err] := c0
 rcases Wd.send_split he with hc | hc | hc | hc | hc | hc
 · obtain ⟨h1, rfl⟩ := hc
   refine Calls_W 102 Try.f53 ?_
   have T0 : Sm Nix h h := .refl
   refine W_seq (W_region ?_)
   have m118 : ¬ (Gh.mut G) h.next ∧ ¬ (Gh.ro G) h.next := ⟨(R.ext T0).op.new (Nat.le_refl _), (R.ext T0).op.newr (Nat.le_refl _)⟩
   refine L_nwc [nv e.src, nv e.ctx, nv e.tag, nv e.size, nv e.parts] .ptr rfl rfl kr fun h118 c118 t118 n118 => ?_
   have T118 := T0.ext t118
   have N118 := T118.nx
   refine L_nil (W_sg 3 kr (L_ld _ rfl rfl kr ((R.ext T118).wdL.ld (o := 1) kr rfl) (L_g 1 kr ?_)))
   obtain ⟨b1, o1, i1, l1⟩ := (R.ext T118).prsAt (P := Try.prog) (T := 74) (el := 77) kr kr kr hp
   refine L_ix _ rfl rfl kr kr (i1) (L_ld _ rfl rfl kr (l1) (L_g 1 kr (L_nil (W_block (W_sg 3 kr (L_ld _ rfl rfl kr ((c0.ext T118).ld (o := 1) kr rfl) (L_i ((W.rq p no).peer) (-2) (.bool true) rfl rfl kr kr rfl (by simp; omega) (L_g 1 kr (L_nil ?_)))))))))
   refine W_cond true kr (fun _ => ?_) (fun e => by cases e)
   refine W_region (L_g 3 kr ?_)
   obtain ⟨dv9, hd9, c9⟩ := (R.ext T118).rqL hp hr
   replace c9 : Cl h118 (Gh.B G (.rq p no)) [nk (W.rq p no).no, nv (W.rq p no).peer, nv (W.rq p no).ctx, nv (W.rq p no).tag, nv (W.rq p no).room, .bool (W.rq p no).send, .bool (W.rq p no).sync, .bool (W.rq p no).pers, .bool (W.rq p no).act, .bool (W.rq p no).done, nk (W.rq p no).parts, nk (W.rq p no).size, dv9, G.S (.pcs p no), nk (W.rq p no).gone, G.S (.snt p no), .bool (W.rq p no).clr, nv (W.rq p no).st.src, nv (W.rq p no).st.tag, nv (W.rq p no).st.size, nv (W.rq p no).st.err] := c9
   obtain ⟨h119, e119, d119, t119, n119⟩ := c9.s1 4 9 (.bool true)
   have N119 : Nxt (W.setRq p no { (W.rq p no) with done := true }) G h118 h119 := (R.ext T118).stRq hp hr (r := { (W.rq p no) with done := true }) hd9 d119 t119 rfl rfl rfl
   clear hd9
   refine L_st _ rfl rfl rfl kr kr (e119) ?_
   obtain ⟨S119, C119, ro119, R119, Y119⟩ := N119
   have X119 := ((Gx.refl).trans (Gx.of T118)).trans Y119
   have hr_119 := (Y119.keep _ hr).1
   have m118_119 : ¬ (Gh.mut ⟨Gh.B G, S119, C119, ro119⟩) (h.next) ∧ ¬ (Gh.ro ⟨Gh.B G, S119, C119, ro119⟩) (h.next) := ⟨fun hm => (Y119.mu _ hm).elim m118.1 (fun e => by have := c118.lt; omega), fun hm => (Y119.ron _ hm).elim m118.2 (fun e => by have := c118.lt; omega)⟩
   have T119 : Sm (Ow h (⟨Gh.B G, S119, C119, ro119⟩ : Gh)) h119 h119 := .refl
   refine L_nil ?_
   repeat with_reducible refine blk_norm ?_
   refine done_of (v := .tuple ⟨[]⟩) (.inr rfl) kr ?_
   exact ⟨_, _, _, (R119.ow T119), ((X119).ow T119)⟩
 · obtain ⟨h1, hs, hput⟩ := hc
   unfold Wd.put at hput
   split at hput
   rotate_right
   · cases hput
   rename_i hlw
   obtain rfl := Option.some.inj hput
   refine Calls_W 102 Try.f53 ?_
   have T0 : Sm Nix h h := .refl
   refine W_seq (W_region ?_)
   have m120 : ¬ (Gh.mut G) h.next ∧ ¬ (Gh.ro G) h.next := ⟨(R.ext T0).op.new (Nat.le_refl _), (R.ext T0).op.newr (Nat.le_refl _)⟩
   refine L_nwc [nv e.src, nv e.ctx, nv e.tag, nv e.size, nv e.parts] .ptr rfl rfl kr fun h120 c120 t120 n120 => ?_
   have T120 := T0.ext t120
   have N120 := T120.nx
   refine L_nil (W_sg 3 kr (L_ld _ rfl rfl kr ((R.ext T120).wdL.ld (o := 1) kr rfl) (L_g 1 kr ?_)))
   obtain ⟨b1, o1, i1, l1⟩ := (R.ext T120).prsAt (P := Try.prog) (T := 74) (el := 77) kr kr kr hp
   refine L_ix _ rfl rfl kr kr (i1) (L_ld _ rfl rfl kr (l1) (L_g 1 kr (L_nil (W_block (W_sg 3 kr (L_ld _ rfl rfl kr ((c0.ext T120).ld (o := 1) kr rfl) (L_i ((W.rq p no).peer) (-2) (.bool false) rfl rfl kr kr rfl (by simp; omega) (L_g 1 kr (L_nil ?_)))))))))
   refine W_cond false kr (fun e => by cases e) (fun _ => ?_)
   refine W_seq (W_drawn kr (D_l (l := [0,1,2,3,4,5,6,7,8,9,10,11,12,13,14,15,16,17,18,19,20,21,22,23,24,25,26,27,28,29,30,31,32,33]) kr kr Rk_nil (NS_b 3 kr (NS_ld _ rfl rfl kr kr kr (((c0.ext T120).ld (o := 6) kr (by rw [← hs]; rfl) : aLoad Try.prog 4 ⟨G.B (.rq p no), 6, none⟩ h120 = some (.bool true))) (NS_b 30 kr (NS_nil ?_))))))
   refine W_cond true kr (fun _ => ?_) (fun e => by cases e)
   refine W_drawn kr (D_e (e := 13) (l := [0,1,2,3,4,5,6,7,8,9,10,11,12]) (s' := []) kr kr rfl kr Rk_nil (NS_b 5 kr (NS_ld _ rfl rfl kr kr kr ((c0.ext T120).ld (o := 1) kr rfl) (NS_ld _ rfl rfl kr kr kr (Cl.allN (n := 5) c120 rfl kr) (NS_b 3 kr (NS_ld _ rfl rfl kr kr kr ((c0.ext T120).ld (o := 0) kr rfl) (NS_b 2 kr (NS_nil (L_c rfl rfl kr (put_ok (R.ext T120) (x := .ask e (W.rq p no).no) rfl hlw) ?_)))))))))
   rintro v121 h121 N121
   dsimp only at N121
   obtain ⟨S121, C121, ro121, R121, Y121⟩ := N121
   have X121 := ((Gx.refl).trans (Gx.of T120)).trans Y121
   have hr_121 := (Y121.keep _ hr).1
   have m120_121 : ¬ (Gh.mut ⟨Gh.B G, S121, C121, ro121⟩) (h.next) ∧ ¬ (Gh.ro ⟨Gh.B G, S121, C121, ro121⟩) (h.next) := ⟨fun hm => (Y121.mu _ hm).elim m120.1 (fun e => by have := c120.lt; omega), fun hm => (Y121.ron _ hm).elim m120.2 (fun e => by have := c120.lt; omega)⟩
   have T121 : Sm (Ow h (⟨Gh.B G, S121, C121, ro121⟩ : Gh)) h121 h121 := .refl
   refine L_nil ⟨rfl, ?_⟩
   refine D_l (l := []) kr kr Rk_nil (NS_nil ?_)
   repeat with_reducible refine blk_norm ?_
   refine done_of (v := .tuple ⟨[]⟩) (.inr rfl) kr ?_
   exact ⟨_, _, _, (R121.ow T121), ((X121).ow T121)⟩
 · obtain ⟨h1, hs, hpp, hput⟩ := hc
   unfold Wd.put at hput
   split at hput
   rotate_right
   · cases hput
   rename_i hlw
   obtain rfl := Option.some.inj hput
   refine Calls_W 102 Try.f53 ?_
   have T0 : Sm Nix h h := .refl
   refine W_seq (W_region ?_)
   have m122 : ¬ (Gh.mut G) h.next ∧ ¬ (Gh.ro G) h.next := ⟨(R.ext T0).op.new (Nat.le_refl _), (R.ext T0).op.newr (Nat.le_refl _)⟩
   refine L_nwc [nv e.src, nv e.ctx, nv e.tag, nv e.size, nv e.parts] .ptr rfl rfl kr fun h122 c122 t122 n122 => ?_
   have T122 := T0.ext t122
   have N122 := T122.nx
   refine L_nil (W_sg 3 kr (L_ld _ rfl rfl kr ((R.ext T122).wdL.ld (o := 1) kr rfl) (L_g 1 kr ?_)))
   obtain ⟨b1, o1, i1, l1⟩ := (R.ext T122).prsAt (P := Try.prog) (T := 74) (el := 77) kr kr kr hp
   refine L_ix _ rfl rfl kr kr (i1) (L_ld _ rfl rfl kr (l1) (L_g 1 kr (L_nil (W_block (W_sg 3 kr (L_ld _ rfl rfl kr ((c0.ext T122).ld (o := 1) kr rfl) (L_i ((W.rq p no).peer) (-2) (.bool false) rfl rfl kr kr rfl (by simp; omega) (L_g 1 kr (L_nil ?_)))))))))
   refine W_cond false kr (fun e => by cases e) (fun _ => ?_)
   refine W_seq (W_drawn kr (D_l (l := [0,1,2,3,4,5,6,7,8,9,10,11,12,13,14,15,16,17,18,19,20,21,22,23,24,25,26,27,28,29,30,31,32,33]) kr kr Rk_nil (NS_b 3 kr (NS_ld _ rfl rfl kr kr kr (((c0.ext T122).ld (o := 6) kr (by rw [← hs]; rfl) : aLoad Try.prog 4 ⟨G.B (.rq p no), 6, none⟩ h122 = some (.bool false))) (NS_b 4 kr (NS_ld _ rfl rfl kr kr kr ((c0.ext T122).ld (o := 10) kr rfl) (NS_i (((W.rq p no).parts : Int)) (0) (.bool true) rfl rfl kr kr kr kr rfl (by simp; omega) (NS_b 24 kr (NS_nil ?_)))))))))
   refine W_cond true kr (fun _ => ?_) (fun e => by cases e)
   refine W_drawn kr (D_e (e := 13) (l := [0,1,2,3,4,5,6,7,8,9,10,11,12]) (s' := []) kr kr rfl kr Rk_nil (NS_b 5 kr (NS_ld _ rfl rfl kr kr kr ((c0.ext T122).ld (o := 1) kr rfl) (NS_ld _ rfl rfl kr kr kr (Cl.allN (n := 5) c122 rfl kr) (NS_b 3 kr (NS_ld _ rfl rfl kr kr kr ((c0.ext T122).ld (o := 0) kr rfl) (NS_b 2 kr (NS_nil (L_c rfl rfl kr (put_ok (R.ext T122) (x := .ask e (W.rq p no).no) rfl hlw) ?_)))))))))
   rintro v123 h123 N123
   dsimp only at N123
   obtain ⟨S123, C123, ro123, R123, Y123⟩ := N123
   have X123 := ((Gx.refl).trans (Gx.of T122)).trans Y123
   have hr_123 := (Y123.keep _ hr).1
   have m122_123 : ¬ (Gh.mut ⟨Gh.B G, S123, C123, ro123⟩) (h.next) ∧ ¬ (Gh.ro ⟨Gh.B G, S123, C123, ro123⟩) (h.next) := ⟨fun hm => (Y123.mu _ hm).elim m122.1 (fun e => by have := c122.lt; omega), fun hm => (Y123.ron _ hm).elim m122.2 (fun e => by have := c122.lt; omega)⟩
   have T123 : Sm (Ow h (⟨Gh.B G, S123, C123, ro123⟩ : Gh)) h123 h123 := .refl
   refine L_nil ⟨rfl, ?_⟩
   refine D_l (l := []) kr kr Rk_nil (NS_nil ?_)
   repeat with_reducible refine blk_norm ?_
   refine done_of (v := .tuple ⟨[]⟩) (.inr rfl) kr ?_
   exact ⟨_, _, _, (R123.ow T123), ((X123).ow T123)⟩
 · obtain ⟨h1, hs, hpp, hll, hput⟩ := hc
   unfold Wd.put at hput
   split at hput
   rotate_right
   · cases hput
   rename_i hlw
   obtain rfl := Option.some.inj hput
   refine Calls_W 102 Try.f53 ?_
   have T0 : Sm Nix h h := .refl
   refine W_seq (W_region ?_)
   have m124 : ¬ (Gh.mut G) h.next ∧ ¬ (Gh.ro G) h.next := ⟨(R.ext T0).op.new (Nat.le_refl _), (R.ext T0).op.newr (Nat.le_refl _)⟩
   refine L_nwc [nv e.src, nv e.ctx, nv e.tag, nv e.size, nv e.parts] .ptr rfl rfl kr fun h124 c124 t124 n124 => ?_
   have T124 := T0.ext t124
   have N124 := T124.nx
   refine L_nil (W_sg 3 kr (L_ld _ rfl rfl kr ((R.ext T124).wdL.ld (o := 1) kr rfl) (L_g 1 kr ?_)))
   obtain ⟨b1, o1, i1, l1⟩ := (R.ext T124).prsAt (P := Try.prog) (T := 74) (el := 77) kr kr kr hp
   refine L_ix _ rfl rfl kr kr (i1) (L_ld _ rfl rfl kr (l1) (L_g 1 kr (L_nil (W_block (W_sg 3 kr (L_ld _ rfl rfl kr ((c0.ext T124).ld (o := 1) kr rfl) (L_i ((W.rq p no).peer) (-2) (.bool false) rfl rfl kr kr rfl (by simp; omega) (L_g 1 kr (L_nil ?_)))))))))
   refine W_cond false kr (fun e => by cases e) (fun _ => ?_)
   refine W_seq (W_drawn kr (D_l (l := [0,1,2,3,4,5,6,7,8,9,10,11,12,13,14,15,16,17,18,19,20,21,22,23,24,25,26,27,28,29,30,31,32,33]) kr kr Rk_nil (NS_b 3 kr (NS_ld _ rfl rfl kr kr kr (((c0.ext T124).ld (o := 6) kr (by rw [← hs]; rfl) : aLoad Try.prog 4 ⟨G.B (.rq p no), 6, none⟩ h124 = some (.bool false))) (NS_b 4 kr (NS_ld _ rfl rfl kr kr kr ((c0.ext T124).ld (o := 10) kr rfl) (NS_i (((W.rq p no).parts : Int)) (0) (.bool false) rfl rfl kr kr kr kr rfl (by simp; omega) (NS_b 3 kr (NS_ld _ rfl rfl kr kr kr (c124.ld (o := 3) kr rfl) (NS_b 3 kr (NS_ld _ rfl rfl kr kr kr ((R.ext T124).wdL.ld (o := 0) kr rfl) ?_)))))))))))
   refine NS_i (e.size) (W.lim) (.bool true) rfl rfl kr kr kr kr rfl (by simp; omega) (NS_b 15 kr (NS_nil ?_))
   refine W_cond true kr (fun _ => ?_) (fun e => by cases e)
   refine W_drawn kr (D_e (e := 13) (l := [0,1,2,3,4,5,6,7,8,9,10,11,12]) (s' := []) kr kr rfl kr Rk_nil (NS_b 5 kr (NS_ld _ rfl rfl kr kr kr ((c0.ext T124).ld (o := 1) kr rfl) (NS_ld _ rfl rfl kr kr kr (Cl.allN (n := 5) c124 rfl kr) (NS_b 3 kr (NS_ld _ rfl rfl kr kr kr ((c0.ext T124).ld (o := 0) kr rfl) (NS_b 2 kr (NS_nil (L_c rfl rfl kr (put_ok (R.ext T124) (x := .ask e (W.rq p no).no) rfl hlw) ?_)))))))))
   rintro v125 h125 N125
   dsimp only at N125
   obtain ⟨S125, C125, ro125, R125, Y125⟩ := N125
   have X125 := ((Gx.refl).trans (Gx.of T124)).trans Y125
   have hr_125 := (Y125.keep _ hr).1
   have m124_125 : ¬ (Gh.mut ⟨Gh.B G, S125, C125, ro125⟩) (h.next) ∧ ¬ (Gh.ro ⟨Gh.B G, S125, C125, ro125⟩) (h.next) := ⟨fun hm => (Y125.mu _ hm).elim m124.1 (fun e => by have := c124.lt; omega), fun hm => (Y125.ron _ hm).elim m124.2 (fun e => by have := c124.lt; omega)⟩
   have T125 : Sm (Ow h (⟨Gh.B G, S125, C125, ro125⟩ : Gh)) h125 h125 := .refl
   refine L_nil ⟨rfl, ?_⟩
   refine D_l (l := []) kr kr Rk_nil (NS_nil ?_)
   repeat with_reducible refine blk_norm ?_
   refine done_of (v := .tuple ⟨[]⟩) (.inr rfl) kr ?_
   exact ⟨_, _, _, (R125.ow T125), ((X125).ow T125)⟩
 · obtain ⟨i, hpi, hi, hs, hpp, hll, hz, hput⟩ := hc
   unfold Wd.put at hput
   split at hput
   rotate_right
   · cases hput
   rename_i hlw
   obtain rfl := Option.some.inj hput
   refine Calls_W 102 Try.f53 ?_
   have T0 : Sm Nix h h := .refl
   refine W_seq (W_region ?_)
   have m126 : ¬ (Gh.mut G) h.next ∧ ¬ (Gh.ro G) h.next := ⟨(R.ext T0).op.new (Nat.le_refl _), (R.ext T0).op.newr (Nat.le_refl _)⟩
   refine L_nwc [nv e.src, nv e.ctx, nv e.tag, nv e.size, nv e.parts] .ptr rfl rfl kr fun h126 c126 t126 n126 => ?_
   have T126 := T0.ext t126
   have N126 := T126.nx
   refine L_nil (W_sg 3 kr (L_ld _ rfl rfl kr ((R.ext T126).wdL.ld (o := 1) kr rfl) (L_g 1 kr ?_)))
   obtain ⟨b1, o1, i1, l1⟩ := (R.ext T126).prsAt (P := Try.prog) (T := 74) (el := 77) kr kr kr hp
   refine L_ix _ rfl rfl kr kr (i1) (L_ld _ rfl rfl kr (l1) (L_g 1 kr (L_nil (W_block (W_sg 3 kr (L_ld _ rfl rfl kr ((c0.ext T126).ld (o := 1) kr rfl) (L_i ((W.rq p no).peer) (-2) (.bool false) rfl rfl kr kr rfl (by simp; omega) (L_g 1 kr (L_nil ?_)))))))))
   refine W_cond false kr (fun e => by cases e) (fun _ => ?_)
   refine W_seq (W_drawn kr (D_l (l := [0,1,2,3,4,5,6,7,8,9,10,11,12,13,14,15,16,17,18,19,20,21,22,23,24,25,26,27,28,29,30,31,32,33]) kr kr Rk_nil (NS_b 3 kr (NS_ld _ rfl rfl kr kr kr (((c0.ext T126).ld (o := 6) kr (by rw [← hs]; rfl) : aLoad Try.prog 4 ⟨G.B (.rq p no), 6, none⟩ h126 = some (.bool false))) (NS_b 4 kr (NS_ld _ rfl rfl kr kr kr ((c0.ext T126).ld (o := 10) kr rfl) (NS_i (((W.rq p no).parts : Int)) (0) (.bool false) rfl rfl kr kr kr kr rfl (by simp; omega) (NS_b 3 kr (NS_ld _ rfl rfl kr kr kr (c126.ld (o := 3) kr rfl) (NS_b 3 kr (NS_ld _ rfl rfl kr kr kr ((R.ext T126).wdL.ld (o := 0) kr rfl) ?_)))))))))))
   refine NS_i (e.size) (W.lim) (.bool false) rfl rfl kr kr kr kr rfl (by simp; omega) (NS_b 5 kr (NS_ld _ rfl rfl kr kr kr (((R.ext T126).prL hp).ld (o := 6) kr rfl) (NS_b 3 kr (NS_ld _ rfl rfl kr kr kr (((c0.ext T126).ld (o := 1) kr (by rw [← hpi]; rfl) : aLoad Try.prog 3 ⟨G.B (.rq p no), 1, none⟩ h126 = some (nv (i : Int)))) ?_))))
   have hci : ((W.pr p).crds.map nv)[i]? = some (nv ((W.pr p).crds.getD i 0)) := by rw [List.getElem?_map, List.getElem?_eq_getElem hi, List.getD_eq_getElem?_getD, List.getElem?_eq_getElem hi]; rfl
   obtain ⟨pa, xa, i1, i2, i3, i4, i5⟩ := ((R.ext T126).crd hp).elem (P := Try.prog) (T := 29) (el := 3) kr kr kr hi .i64
   obtain rfl : xa = nv ((W.pr p).crds.getD i 0) := Option.some.inj (i2.symm.trans hci)
   refine NS_ix _ rfl rfl kr kr kr kr (i1) (NS_ld _ rfl rfl kr kr kr (i3) ?_)
   refine NS_i (((W.pr p).crds.getD i 0)) (0) (.bool true) rfl rfl kr kr kr kr rfl (by simp [-List.getD_eq_getElem?_getD]; omega) ?_
   refine NS_b 2 kr (NS_nil ?_)
   refine W_cond true kr (fun _ => ?_) (fun e => by cases e)
   refine W_drawn kr (D_e (e := 13) (l := [0,1,2,3,4,5,6,7,8,9,10,11,12]) (s' := []) kr kr rfl kr Rk_nil (NS_b 5 kr (NS_ld _ rfl rfl kr kr kr ((c0.ext T126).ld (o := 1) kr rfl) (NS_ld _ rfl rfl kr kr kr (Cl.allN (n := 5) c126 rfl kr) (NS_b 3 kr (NS_ld _ rfl rfl kr kr kr ((c0.ext T126).ld (o := 0) kr rfl) (NS_b 2 kr (NS_nil (L_c rfl rfl kr (put_ok (R.ext T126) (x := .ask e (W.rq p no).no) rfl hlw) ?_)))))))))
   rintro v127 h127 N127
   dsimp only at N127
   obtain ⟨S127, C127, ro127, R127, Y127⟩ := N127
   have X127 := ((Gx.refl).trans (Gx.of T126)).trans Y127
   have hr_127 := (Y127.keep _ hr).1
   have m126_127 : ¬ (Gh.mut ⟨Gh.B G, S127, C127, ro127⟩) (h.next) ∧ ¬ (Gh.ro ⟨Gh.B G, S127, C127, ro127⟩) (h.next) := ⟨fun hm => (Y127.mu _ hm).elim m126.1 (fun e => by have := c126.lt; omega), fun hm => (Y127.ron _ hm).elim m126.2 (fun e => by have := c126.lt; omega)⟩
   have T127 : Sm (Ow h (⟨Gh.B G, S127, C127, ro127⟩ : Gh)) h127 h127 := .refl
   refine L_nil ⟨rfl, ?_⟩
   refine D_l (l := []) kr kr Rk_nil (NS_nil ?_)
   repeat with_reducible refine blk_norm ?_
   refine done_of (v := .tuple ⟨[]⟩) (.inr rfl) kr ?_
   exact ⟨_, _, _, (R127.ow T127), ((X127).ow T127)⟩
 · obtain ⟨i, W1, hpi, hi, hs, hpp, hll, hz1, hz2, hput, rfl⟩ := hc
   unfold Wd.put at hput
   split at hput
   rotate_right
   · cases hput
   rename_i hlw
   obtain rfl := Option.some.inj hput
   refine Calls_W 102 Try.f53 ?_
   have T0 : Sm Nix h h := .refl
   refine W_seq (W_region ?_)
   have m128 : ¬ (Gh.mut G) h.next ∧ ¬ (Gh.ro G) h.next := ⟨(R.ext T0).op.new (Nat.le_refl _), (R.ext T0).op.newr (Nat.le_refl _)⟩
   refine L_nwc [nv e.src, nv e.ctx, nv e.tag, nv e.size, nv e.parts] .ptr rfl rfl kr fun h128 c128 t128 n128 => ?_
   have T128 := T0.ext t128
   have N128 := T128.nx
   refine L_nil (W_sg 3 kr (L_ld _ rfl rfl kr ((R.ext T128).wdL.ld (o := 1) kr rfl) (L_g 1 kr ?_)))
   obtain ⟨b1, o1, i1, l1⟩ := (R.ext T128).prsAt (P := Try.prog) (T := 74) (el := 77) kr kr kr hp
   refine L_ix _ rfl rfl kr kr (i1) (L_ld _ rfl rfl kr (l1) (L_g 1 kr (L_nil (W_block (W_sg 3 kr (L_ld _ rfl rfl kr ((c0.ext T128).ld (o := 1) kr rfl) (L_i ((W.rq p no).peer) (-2) (.bool false) rfl rfl kr kr rfl (by simp; omega) (L_g 1 kr (L_nil ?_)))))))))
   refine W_cond false kr (fun e => by cases e) (fun _ => ?_)
   refine W_seq (W_drawn kr (D_l (l := [0,1,2,3,4,5,6,7,8,9,10,11,12,13,14,15,16,17,18,19,20,21,22,23,24,25,26,27,28,29,30,31,32,33]) kr kr Rk_nil (NS_b 3 kr (NS_ld _ rfl rfl kr kr kr (((c0.ext T128).ld (o := 6) kr (by rw [← hs]; rfl) : aLoad Try.prog 4 ⟨G.B (.rq p no), 6, none⟩ h128 = some (.bool false))) (NS_b 4 kr (NS_ld _ rfl rfl kr kr kr ((c0.ext T128).ld (o := 10) kr rfl) (NS_i (((W.rq p no).parts : Int)) (0) (.bool false) rfl rfl kr kr kr kr rfl (by simp; omega) (NS_b 3 kr (NS_ld _ rfl rfl kr kr kr (c128.ld (o := 3) kr rfl) (NS_b 3 kr (NS_ld _ rfl rfl kr kr kr ((R.ext T128).wdL.ld (o := 0) kr rfl) ?_)))))))))))
   refine NS_i (e.size) (W.lim) (.bool false) rfl rfl kr kr kr kr rfl (by simp; omega) (NS_b 5 kr (NS_ld _ rfl rfl kr kr kr (((R.ext T128).prL hp).ld (o := 6) kr rfl) (NS_b 3 kr (NS_ld _ rfl rfl kr kr kr (((c0.ext T128).ld (o := 1) kr (by rw [← hpi]; rfl) : aLoad Try.prog 3 ⟨G.B (.rq p no), 1, none⟩ h128 = some (nv (i : Int)))) ?_))))
   have hci : ((W.pr p).crds.map nv)[i]? = some (nv ((W.pr p).crds.getD i 0)) := by rw [List.getElem?_map, List.getElem?_eq_getElem hi, List.getD_eq_getElem?_getD, List.getElem?_eq_getElem hi]; rfl
   obtain ⟨pa, xa, i1, i2, i3, i4, i5⟩ := ((R.ext T128).crd hp).elem (P := Try.prog) (T := 29) (el := 3) kr kr kr hi .i64
   obtain rfl : xa = nv ((W.pr p).crds.getD i 0) := Option.some.inj (i2.symm.trans hci)
   refine NS_ix _ rfl rfl kr kr kr kr (i1) (NS_ld _ rfl rfl kr kr kr (i3) ?_)
   refine NS_i (((W.pr p).crds.getD i 0)) (0) (.bool false) rfl rfl kr kr kr kr rfl (by simp [-List.getD_eq_getElem?_getD]; omega) ?_
   refine NS_b 2 kr (NS_nil ?_)
   refine W_cond false kr (fun e => by cases e) (fun _ => ?_)
   refine W_seq (W_drawn kr (D_e (e := 12) (l := [0,1,2,3,4,5,6,7,8,9,10,11]) (s' := []) kr kr rfl kr Rk_nil (NS_b 3 kr (NS_ld _ rfl rfl kr kr kr (((R.ext T128).prL hp).ld (o := 6) kr rfl) (NS_b 3 kr (NS_ld _ rfl rfl kr kr kr (((c0.ext T128).ld (o := 1) kr (by rw [← hpi]; rfl) : aLoad Try.prog 3 ⟨G.B (.rq p no), 1, none⟩ h128 = some (nv (i : Int)))) ?_))))))
   have hci : ((W.pr p).crds.map nv)[i]? = some (nv ((W.pr p).crds.getD i 0)) := by rw [List.getElem?_map, List.getElem?_eq_getElem hi, List.getD_eq_getElem?_getD, List.getElem?_eq_getElem hi]; rfl
   obtain ⟨pb, xb, j1, j2, j3, j4, j5⟩ := ((R.ext T128).crd hp).elem (P := Try.prog) (T := 29) (el := 3) kr kr kr hi .i64
   obtain rfl : xb = nv ((W.pr p).crds.getD i 0) := Option.some.inj (j2.symm.trans hci)
   refine NS_ix _ rfl rfl kr kr kr kr (j1) (NS_ld _ rfl rfl kr kr kr (j3) (NS_i (((W.pr p).crds.getD i 0)) (1) (nv (((W.pr p).crds.getD i 0) - 1)) rfl rfl kr kr kr kr rfl (dec_int hz1 hz2) (NS_ix _ rfl rfl kr kr kr kr (j1) (NS_nil ?_))))
   obtain ⟨h129, e129, w129, t129, n129⟩ := j5 (nv (((W.pr p).crds.getD i 0) - 1)) rfl rfl
   have N129 : Nxt (W.setPr p { W.pr p with crds := (W.pr p).crds.set i (((W.pr p).crds.getD i 0) - 1) }) G h128 h129 := (R.ext T128).setCrd hp (by rw [List.length_set, List.map_set]; exact w129) t129
   refine L_st _ rfl rfl rfl kr kr (e129) ?_
   obtain ⟨S129, C129, ro129, R129, Y129⟩ := N129
   have X129 := ((Gx.refl).trans (Gx.of T128)).trans Y129
   have hr_129 := (Y129.keep _ hr).1
   have m128_129 : ¬ (Gh.mut ⟨Gh.B G, S129, C129, ro129⟩) (h.next) ∧ ¬ (Gh.ro ⟨Gh.B G, S129, C129, ro129⟩) (h.next) := ⟨fun hm => (Y129.mu _ hm).elim m128.1 (fun e => by have := c128.lt; omega), fun hm => (Y129.ron _ hm).elim m128.2 (fun e => by have := c128.lt; omega)⟩
   replace c128 := c128.sm Y129.sm m128.1
   have T129 : Sm (Ow h (⟨Gh.B G, S129, C129, ro129⟩ : Gh)) h129 h129 := .refl
   obtain ⟨dvz, hdz, cz⟩ := R129.rqL (p := p) hp hr_129
   replace cz : Arm.Cl h129 (G.B (.rq p no)) [nk (W.rq p no).no, nv (W.rq p no).peer, nv (W.rq p no).ctx, nv (W.rq p no).tag, nv (W.rq p no).room, .bool (W.rq p no).send, .bool (W.rq p no).sync, .bool (W.rq p no).pers, .bool (W.rq p no).act, .bool (W.rq p no).done, nk (W.rq p no).parts, nk (W.rq p no).size, dvz, (⟨G.B, S129, C129, ro129⟩ : Gh).S (.pcs p no), nk (W.rq p no).gone, (⟨G.B, S129, C129, ro129⟩ : Gh).S (.snt p no), .bool (W.rq p no).clr, nv (W.rq p no).st.src, nv (W.rq p no).st.tag, nv (W.rq p no).st.size, nv (W.rq p no).st.err] := cz
   obtain ⟨da, dc, rfl⟩ := hdz.1.form
   refine L_nil ⟨rfl, ?_⟩
   refine D_l (l := []) kr kr Rk_nil (NS_nil (W_seq (W_drawn kr (D_e (e := 13) (l := [0,1,2,3,4,5,6,7,8,9,10,11,12]) (s' := []) kr kr rfl kr Rk_nil (NS_b 5 kr (NS_ld _ rfl rfl kr kr kr ((cz.sm T129 (fun hx => hx.2.1 ⟨.rq p no, hr_129, rfl⟩)).ld (o := 1) kr rfl) (NS_ld _ rfl rfl kr kr kr (Cl.allN (n := 5) c128 rfl kr) (NS_b 3 kr (NS_ld _ rfl rfl kr kr kr ((cz.sm T129 (fun hx => hx.2.1 ⟨.rq p no, hr_129, rfl⟩)).ld (o := 12) kr rfl) (NS_b 2 kr (NS_nil ?_)))))))))))
   refine L_c rfl rfl kr (put_ok (R129.ow T129) (x := .eager e (W.rq p no).data) ⟨_, hdz.ext3 T129, rfl⟩ hlw) ?_
   rintro v130 h130 N130
   dsimp only at N130
   obtain ⟨S130, C130, ro130, R130, Y130⟩ := N130
   have X130 := ((X129).ow T129).trans Y130
   have hr_130 := (Y130.keep _ hr_129).1
   have m128_129_130 : ¬ (Gh.mut ⟨Gh.B G, S130, C130, ro130⟩) (h.next) ∧ ¬ (Gh.ro ⟨Gh.B G, S130, C130, ro130⟩) (h.next) := ⟨fun hm => (Y130.mu _ hm).elim m128_129.1 (fun e => by have := c128.lt; omega), fun hm => (Y130.ron _ hm).elim m128_129.2 (fun e => by have := c128.lt; omega)⟩
   replace c128 := c128.sm Y130.sm m128_129.1
   have T130 : Sm (Ow h (⟨Gh.B G, S130, C130, ro130⟩ : Gh)) h130 h130 := .refl
   refine L_nil ⟨rfl, ?_⟩
   refine D_l (l := []) kr kr Rk_nil (NS_nil (W_region (L_g 3 kr ?_)))
   obtain ⟨dv9, hd9, c9⟩ := (R130.ow T130).rqL hp hr_130
   replace c9 : Cl h130 (Gh.B G (.rq p no)) [nk ((A17x1 W e i no p).rq p no).no, nv ((A17x1 W e i no p).rq p no).peer, nv ((A17x1 W e i no p).rq p no).ctx, nv ((A17x1 W e i no p).rq p no).tag, nv ((A17x1 W e i no p).rq p no).room, .bool ((A17x1 W e i no p).rq p no).send, .bool ((A17x1 W e i no p).rq p no).sync, .bool ((A17x1 W e i no p).rq p no).pers, .bool ((A17x1 W e i no p).rq p no).act, .bool ((A17x1 W e i no p).rq p no).done, nk ((A17x1 W e i no p).rq p no).parts, nk ((A17x1 W e i no p).rq p no).size, dv9, (⟨Gh.B G, S130, C130, ro130⟩ : Gh).S (.pcs p no), nk ((A17x1 W e i no p).rq p no).gone, (⟨Gh.B G, S130, C130, ro130⟩ : Gh).S (.snt p no), .bool ((A17x1 W e i no p).rq p no).clr, nv ((A17x1 W e i no p).rq p no).st.src, nv ((A17x1 W e i no p).rq p no).st.tag, nv ((A17x1 W e i no p).rq p no).st.size, nv ((A17x1 W e i no p).rq p no).st.err] := c9
   obtain ⟨h131, e131, d131, t131, n131⟩ := c9.s1 4 9 (.bool true)
   have N131 : Nxt ((A17x1 W e i no p).setRq p no { ((A17x1 W e i no p).rq p no) with done := true }) (⟨Gh.B G, S130, C130, ro130⟩ : Gh) h130 h131 := (R130.ow T130).stRq hp hr_130 (r := { ((A17x1 W e i no p).rq p no) with done := true }) hd9 d131 t131 rfl rfl rfl
   clear hd9
   refine L_st _ rfl rfl rfl kr kr (e131) ?_
   obtain ⟨S131, C131, ro131, R131, Y131⟩ := N131
   have X131 := ((X130).ow T130).trans Y131
   have hr_131 := (Y131.keep _ hr_130).1
   have m128_129_130_131 : ¬ (Gh.mut ⟨Gh.B G, S131, C131, ro131⟩) (h.next) ∧ ¬ (Gh.ro ⟨Gh.B G, S131, C131, ro131⟩) (h.next) := ⟨fun hm => (Y131.mu _ hm).elim m128_129_130.1 (fun e => by have := c128.lt; omega), fun hm => (Y131.ron _ hm).elim m128_129_130.2 (fun e => by have := c128.lt; omega)⟩
   have T131 : Sm (Ow h (⟨Gh.B G, S131, C131, ro131⟩ : Gh)) h131 h131 := .refl
   refine L_nil ?_
   repeat with_reducible refine blk_norm ?_
   refine done_of (v := .tuple ⟨[]⟩) (.inr rfl) kr ?_
   exact ⟨_, _, _, (R131.ow T131), ((X131).ow T131)⟩
end
end Go.Proofs.Ytmehemeoaplepaa
namespace Go.Proofs.Ytmehemeoaplepaa
noncomputable section
open Go Go.X Go.Arm Go.Mt
abbrev A18x1 (W : Wd) (d : By) (no : Nat) (p : Nat) : Wd := W.setRq p no { W.rq p no with act := true, done := false, st := St.z, data := d }
abbrev A18x2 (W : Wd) (no : Nat) (p : Nat) : Wd := W.setRq p no { (W.rq p no) with act := true }
abbrev A18x3 (G : Gh) (d : By) (va133 : Option Addr) (vc133 : Nat) : Gh := Gh.more G (fun b => vb (Value.slice va133 (List.map bv d).length vc133) = some b)
abbrev A18x4 (W : Wd) (no : Nat) (p : Nat) : Wd := (A18x2 W no p).setRq p no { ((A18x2 W no p).rq p no) with done := false }
abbrev A18x5 (W : Wd) (d : By) (no : Nat) (p : Nat) : Rq := ((A18x1 W d no p).setRq p no { ((A18x1 W d no p).rq p no) with st := ⟨-2, -1, 0, 0⟩ }).rq p no
abbrev A18x6 (W : Wd) (no : Nat) (p : Nat) : Rq := ((A18x4 W no p).setRq p no { ((A18x4 W no p).rq p no) with st := St.z }).rq p no
theorem sum_nat {a b : Nat} {d : By} (h : a * b < big) (hl : d.length < big) : Value.int .i64 (IntKind.i64.wrap (((List.map bv d).length : Int) + IntKind.i64.wrap ((a : Int) * (b : Int)))) = nv ((d.length + a * b : Nat) : Int) := by
 have h1 : a * b < 1000000000 := h
 have hl : d.length < 1000000000 := hl
 rw [wrap_nat h, List.length_map]
 have : IntKind.i64.wrap ((d.length : Int) + ((a * b : Nat) : Int)) = ((d.length + a * b : Nat) : Int) := by rw [IntKind.wrap_i64]; omega
 rw [this]; rfl
set_option maxHeartbeats 4000000 in
theorem start_ok {W : Wd} {G : Gh} {h : AH} {p no : Nat} {d : By} {s : Value} {W' : Wd} (R : Rep W G h) (hp : p < W.n) (hr : G.C (.rq p no) ≠ .no) (H : Rb h s (d.map bv)) (he : W.start p no d = some W') :
   Arm.Calls Try.prog 45 [ptr (G.B .wd), nv (p : Int), ptr (G.B (.rq p no)), s] h (fun r => Nxt W' G h r.2) := by
 unfold Wd.start at he
 dsimp only at he
 split at he
 · cases he
 rename_i hguard
 obtain ⟨hsm, hld, hlm, hroom⟩ := Classical.not_not.1 hguard
 have hsm : (W.rq p no).parts * (W.rq p no).size < big := hsm
 refine Calls_W 116 Try.f45 ?_
 have T0 : Sm Nix h h := .refl
 refine W_seq (W_region ?_)
 have m132 : ¬ (Gh.mut G) h.next ∧ ¬ (Gh.ro G) h.next := ⟨(R.ext T0).op.new (Nat.le_refl _), (R.ext T0).op.newr (Nat.le_refl _)⟩
 refine L_nwc [ptr (G.B (.rq p no))] .ptr rfl rfl kr fun h132 c132 t132 n132 => ?_
 have T132 := T0.ext t132
 have N132 := T132.nx
 refine L_nil (W_seq (W_drawn kr (D_e (e := 6) (l := [0,1,2,3,4,5]) (s' := [0,1,2,3,4]) kr kr rfl kr Rk_nil (NS_ld _ rfl rfl kr kr kr (c132.ld (o := 0) kr rfl) (NS_ld _ rfl rfl kr kr kr (c132.ld (o := 0) kr rfl) (NS_ld _ rfl rfl kr kr kr (c132.ld (o := 0) kr rfl) (NS_ld _ rfl rfl kr kr kr (c132.ld (o := 0) kr rfl) (NS_b 2 kr (NS_nil (L_c rfl rfl kr (clone_by (H.ext T132) (bv_one d) (by rw [List.length_map]; exact hld)) ?_))))))))))
 rintro v133 h133 ⟨r133, k133, t133, f133, s133⟩
 dsimp only at r133 k133 t133 f133 s133
 obtain ⟨R133, X133⟩ := (R.ext T132).more (Q := fun b => vb v133 = some b) t133 (fun b hb => (f133 b hb).1) (fun b hb => (f133 b hb).2)
 obtain ⟨va133, vc133, ev133⟩ := r133.form
 subst ev133
 have hdv : Dr h133 (G.more (fun b => vb (Value.slice va133 (List.map bv d).length vc133) = some b)).ro (.slice va133 (List.map bv d).length vc133) d := ⟨r133, fun b hb => .inr hb⟩
 have mZ6 : ¬ (Gh.mut (G.more (fun b => vb (Value.slice va133 (List.map bv d).length vc133) = some b))) (h.next) ∧ ¬ (Gh.ro (G.more (fun b => vb (Value.slice va133 (List.map bv d).length vc133) = some b))) (h.next) := ⟨fun hm => by obtain ⟨r, q1, q2⟩ := hm; rw [V_more] at q2; exact m132.1 ⟨r, q1, q2⟩, fun hm => hm.elim m132.2 (fun e => by have := (f133 _ e).1; have := c132.lt; omega)⟩
 have X133x := (Gx.of T132).trans X133
 replace c132 := c132.ext t133
 have T133 : Sm Nix h133 h133 := .refl
 refine L_nil ⟨rfl, ?_⟩
 refine D_e (e := 9) (l := [7,8]) (s' := [1,2,3,4]) kr kr rfl kr (Rk_ld _ rfl rfl rfl kr (c132.ld (o := 0) kr rfl) kr (Rk_ld _ rfl rfl rfl kr (c132.ld (o := 0) kr rfl) kr (Rk_ld _ rfl rfl rfl kr (c132.ld (o := 0) kr rfl) kr (Rk_ld _ rfl rfl rfl kr (c132.ld (o := 0) kr rfl) kr (Rk_1 rfl rfl Rk_nil))))) (NS_b 2 kr (NS_nil ?_))
 obtain ⟨dv9, hd9, c9⟩ := (R133.ext T133).rqL hp hr
 replace c9 : Cl h133 (Gh.B (A18x3 G d va133 vc133) (.rq p no)) [nk (W.rq p no).no, nv (W.rq p no).peer, nv (W.rq p no).ctx, nv (W.rq p no).tag, nv (W.rq p no).room, .bool (W.rq p no).send, .bool (W.rq p no).sync, .bool (W.rq p no).pers, .bool (W.rq p no).act, .bool (W.rq p no).done, nk (W.rq p no).parts, nk (W.rq p no).size, dv9, (A18x3 G d va133 vc133).S (.pcs p no), nk (W.rq p no).gone, (A18x3 G d va133 vc133).S (.snt p no), .bool (W.rq p no).clr, nv (W.rq p no).st.src, nv (W.rq p no).st.tag, nv (W.rq p no).st.size, nv (W.rq p no).st.err] := c9
 obtain ⟨h134, e134, d134, t134, n134⟩ := c9.s1 4 8 (.bool true)
 have N134 : Nxt (A18x2 W no p) (A18x3 G d va133 vc133) h133 h134 := (R133.ext T133).stRq hp hr (r := { (W.rq p no) with act := true }) hd9 d134 t134 rfl rfl rfl
 clear hd9
 refine L_st _ rfl rfl rfl kr kr (e134) ?_
 obtain ⟨S134, C134, ro134, R134, Y134⟩ := N134
 have X134 := ((X133x).trans (Gx.of T133)).trans Y134
 have hr_134 := (Y134.keep _ hr).1
 have hdv_134 := Dr.mono0 hdv (Gx.dr Y134 (R133.ext T133).op)
 have mZ6_134 : ¬ (Gh.mut ⟨Gh.B (A18x3 G d va133 vc133), S134, C134, ro134⟩) (h.next) ∧ ¬ (Gh.ro ⟨Gh.B (A18x3 G d va133 vc133), S134, C134, ro134⟩) (h.next) := ⟨fun hm => (Y134.mu _ hm).elim mZ6.1 (fun e => by have := c132.lt; omega), fun hm => (Y134.ron _ hm).elim mZ6.2 (fun e => by have := c132.lt; omega)⟩
 replace c132 := c132.sm Y134.sm mZ6.1
 have T134 : Sm (Ow h (⟨Gh.B (A18x3 G d va133 vc133), S134, C134, ro134⟩ : Gh)) h134 h134 := .refl
 refine L_nil ⟨rfl, ?_⟩
 refine D_e (e := 12) (l := [10,11]) (s' := [2,3,4]) kr kr rfl kr (Rk_ld _ rfl rfl rfl kr (c132.ld (o := 0) kr rfl) kr (Rk_ld _ rfl rfl rfl kr (c132.ld (o := 0) kr rfl) kr (Rk_ld _ rfl rfl rfl kr (c132.ld (o := 0) kr rfl) kr (Rk_1 rfl rfl Rk_nil)))) (NS_b 2 kr (NS_nil ?_))
 obtain ⟨dv9, hd9, c9⟩ := (R134.ow T134).rqL hp hr_134
 replace c9 : Cl h134 (Gh.B (A18x3 G d va133 vc133) (.rq p no)) [nk ((A18x2 W no p).rq p no).no, nv ((A18x2 W no p).rq p no).peer, nv ((A18x2 W no p).rq p no).ctx, nv ((A18x2 W no p).rq p no).tag, nv ((A18x2 W no p).rq p no).room, .bool ((A18x2 W no p).rq p no).send, .bool ((A18x2 W no p).rq p no).sync, .bool ((A18x2 W no p).rq p no).pers, .bool ((A18x2 W no p).rq p no).act, .bool ((A18x2 W no p).rq p no).done, nk ((A18x2 W no p).rq p no).parts, nk ((A18x2 W no p).rq p no).size, dv9, (⟨Gh.B (A18x3 G d va133 vc133), S134, C134, ro134⟩ : Gh).S (.pcs p no), nk ((A18x2 W no p).rq p no).gone, (⟨Gh.B (A18x3 G d va133 vc133), S134, C134, ro134⟩ : Gh).S (.snt p no), .bool ((A18x2 W no p).rq p no).clr, nv ((A18x2 W no p).rq p no).st.src, nv ((A18x2 W no p).rq p no).st.tag, nv ((A18x2 W no p).rq p no).st.size, nv ((A18x2 W no p).rq p no).st.err] := c9
 obtain ⟨h135, e135, d135, t135, n135⟩ := c9.s1 4 9 (.bool false)
 have N135 : Nxt (A18x4 W no p) (⟨Gh.B (A18x3 G d va133 vc133), S134, C134, ro134⟩ : Gh) h134 h135 := (R134.ow T134).stRq hp hr_134 (r := { ((A18x2 W no p).rq p no) with done := false }) hd9 d135 t135 rfl rfl rfl
 clear hd9
 refine L_st _ rfl rfl rfl kr kr (e135) ?_
 obtain ⟨S135, C135, ro135, R135, Y135⟩ := N135
 have X135 := ((X134).ow T134).trans Y135
 have hr_135 := (Y135.keep _ hr_134).1
 have hdv_135 := Dr.mono0 hdv_134 (Gx.dr Y135 (R134.ow T134).op)
 have mZ6_134_135 : ¬ (Gh.mut ⟨Gh.B (A18x3 G d va133 vc133), S135, C135, ro135⟩) (h.next) ∧ ¬ (Gh.ro ⟨Gh.B (A18x3 G d va133 vc133), S135, C135, ro135⟩) (h.next) := ⟨fun hm => (Y135.mu _ hm).elim mZ6_134.1 (fun e => by have := c132.lt; omega), fun hm => (Y135.ron _ hm).elim mZ6_134.2 (fun e => by have := c132.lt; omega)⟩
 replace c132 := c132.sm Y135.sm mZ6_134.1
 have T135 : Sm (Ow h (⟨Gh.B (A18x3 G d va133 vc133), S135, C135, ro135⟩ : Gh)) h135 h135 := .refl
 refine L_nil ⟨rfl, ?_⟩
 refine D_e (e := 15) (l := [13,14]) (s' := [3]) kr kr rfl kr (Rk_ld _ rfl rfl rfl kr (c132.ld (o := 0) kr rfl) kr (Rk_ld _ rfl rfl rfl kr (c132.ld (o := 0) kr rfl) kr (Rk_1 rfl rfl Rk_nil))) (NS_b 2 kr (NS_nil ?_))
 obtain ⟨dv9, hd9, c9⟩ := (R135.ow T135).rqL hp hr_135
 replace c9 : Cl h135 (Gh.B (A18x3 G d va133 vc133) (.rq p no)) [nk ((A18x4 W no p).rq p no).no, nv ((A18x4 W no p).rq p no).peer, nv ((A18x4 W no p).rq p no).ctx, nv ((A18x4 W no p).rq p no).tag, nv ((A18x4 W no p).rq p no).room, .bool ((A18x4 W no p).rq p no).send, .bool ((A18x4 W no p).rq p no).sync, .bool ((A18x4 W no p).rq p no).pers, .bool ((A18x4 W no p).rq p no).act, .bool ((A18x4 W no p).rq p no).done, nk ((A18x4 W no p).rq p no).parts, nk ((A18x4 W no p).rq p no).size, dv9, (⟨Gh.B (A18x3 G d va133 vc133), S135, C135, ro135⟩ : Gh).S (.pcs p no), nk ((A18x4 W no p).rq p no).gone, (⟨Gh.B (A18x3 G d va133 vc133), S135, C135, ro135⟩ : Gh).S (.snt p no), .bool ((A18x4 W no p).rq p no).clr, nv ((A18x4 W no p).rq p no).st.src, nv ((A18x4 W no p).rq p no).st.tag, nv ((A18x4 W no p).rq p no).st.size, nv ((A18x4 W no p).rq p no).st.err] := c9
 obtain ⟨h136, e136, d136, t136, n136⟩ := c9.storeAt (P := Try.prog) (T := 43) (o := 17) (v := .agg ⟨[nv 0, nv 0, nv 0, nv 0]⟩) (vs := [nv 0, nv 0, nv 0, nv 0]) kr rfl (by simp) (List.all_eq_true.1 rfl)
 have N136 : Nxt ((A18x4 W no p).setRq p no { ((A18x4 W no p).rq p no) with st := St.z }) (⟨Gh.B (A18x3 G d va133 vc133), S135, C135, ro135⟩ : Gh) h135 h136 := (R135.ow T135).stRq hp hr_135 (r := { ((A18x4 W no p).rq p no) with st := St.z }) hd9 d136 t136 rfl rfl rfl
 clear hd9
 refine L_st _ rfl rfl rfl kr kr (e136) ?_
 obtain ⟨S136, C136, ro136, R136, Y136⟩ := N136
 have X136 := ((X135).ow T135).trans Y136
 have hr_136 := (Y136.keep _ hr_135).1
 have hdv_136 := Dr.mono0 hdv_135 (Gx.dr Y136 (R135.ow T135).op)
 have mZ6_134_135_136 : ¬ (Gh.mut ⟨Gh.B (A18x3 G d va133 vc133), S136, C136, ro136⟩) (h.next) ∧ ¬ (Gh.ro ⟨Gh.B (A18x3 G d va133 vc133), S136, C136, ro136⟩) (h.next) := ⟨fun hm => (Y136.mu _ hm).elim mZ6_134_135.1 (fun e => by have := c132.lt; omega), fun hm => (Y136.ron _ hm).elim mZ6_134_135.2 (fun e => by have := c132.lt; omega)⟩
 replace c132 := c132.sm Y136.sm mZ6_134_135.1
 have T136 : Sm (Ow h (⟨Gh.B (A18x3 G d va133 vc133), S136, C136, ro136⟩ : Gh)) h136 h136 := .refl
 refine L_nil ⟨rfl, ?_⟩
 refine D_e (e := 18) (l := [16,17]) (s' := []) kr kr rfl kr (Rk_ld _ rfl rfl rfl kr (c132.ld (o := 0) kr rfl) kr Rk_nil) (NS_b 2 kr (NS_nil ?_))
 obtain ⟨dv9, hd9, c9⟩ := (R136.ow T136).rqL hp hr_136
 replace c9 : Arm.Cl h136 (Gh.B (A18x3 G d va133 vc133) (.rq p no)) [nk (A18x6 W no p).no, nv (A18x6 W no p).peer, nv (A18x6 W no p).ctx, nv (A18x6 W no p).tag, nv (A18x6 W no p).room, .bool (A18x6 W no p).send, .bool (A18x6 W no p).sync, .bool (A18x6 W no p).pers, .bool (A18x6 W no p).act, .bool (A18x6 W no p).done, nk (A18x6 W no p).parts, nk (A18x6 W no p).size, dv9, (⟨Gh.B (A18x3 G d va133 vc133), S136, C136, ro136⟩ : Gh).S (.pcs p no), nk (A18x6 W no p).gone, (⟨Gh.B (A18x3 G d va133 vc133), S136, C136, ro136⟩ : Gh).S (.snt p no), .bool (A18x6 W no p).clr, nv (A18x6 W no p).st.src, nv (A18x6 W no p).st.tag, nv (A18x6 W no p).st.size, nv (A18x6 W no p).st.err] := c9
 obtain ⟨h137, e137, d137, t137, n137⟩ := c9.s1 23 12 (.slice va133 (List.map bv d).length vc133)
 have N137 : Nxt ((((A18x4 W no p).setRq p no { ((A18x4 W no p).rq p no) with st := St.z }).setRq p no { (A18x6 W no p) with data := d })) (⟨Gh.B (A18x3 G d va133 vc133), S136, C136, ro136⟩ : Gh) h136 h137 := by
   have := (R136.ow T136).setRq hp hr_136 (r := { (A18x6 W no p) with data := d }) (dv := .slice va133 (List.map bv d).length vc133) d137 t137 (fun k hk => .inl hk) (((R136.ow T136).op.dr (t137.mono fun k hk => ⟨.rq p no, hr_136, by subst hk; rfl⟩)) _ _ hdv_136) rfl rfl
   exact ⟨_, _, _, this⟩
 clear hd9
 refine L_st _ rfl rfl rfl kr kr (e137) ?_
 obtain ⟨S137, C137, ro137, R137, Y137⟩ := N137
 have X137 := ((X136).ow T136).trans Y137
 have hr_137 := (Y137.keep _ hr_136).1
 have hdv_137 := Dr.mono0 hdv_136 (Gx.dr Y137 (R136.ow T136).op)
 have mZ6_134_135_136_137 : ¬ (Gh.mut ⟨Gh.B (A18x3 G d va133 vc133), S137, C137, ro137⟩) (h.next) ∧ ¬ (Gh.ro ⟨Gh.B (A18x3 G d va133 vc133), S137, C137, ro137⟩) (h.next) := ⟨fun hm => (Y137.mu _ hm).elim mZ6_134_135_136.1 (fun e => by have := c132.lt; omega), fun hm => (Y137.ron _ hm).elim mZ6_134_135_136.2 (fun e => by have := c132.lt; omega)⟩
 replace c132 := c132.sm Y137.sm mZ6_134_135_136.1
 have T137 : Sm (Ow h (⟨Gh.B (A18x3 G d va133 vc133), S137, C137, ro137⟩ : Gh)) h137 h137 := .refl
 have eW : (((A18x4 W no p).setRq p no { ((A18x4 W no p).rq p no) with st := St.z }).setRq p no { (A18x6 W no p) with data := d }) = W.setRq p no { W.rq p no with act := true, done := false, st := St.z, data := d } := by simp only [Wd.setRq_at, Wd.setRq_setRq]
 rw [eW] at R137
 have eR : (A18x1 W d no p).rq p no = { W.rq p no with act := true, done := false, st := St.z, data := d } := Wd.setRq_at _ _ _ _
 obtain ⟨dvz, hdz, cz⟩ := R137.rqL (p := p) hp hr_137
 rw [eR] at hdz cz
 replace cz : Arm.Cl h137 (G.B (.rq p no)) [nk (W.rq p no).no, nv (W.rq p no).peer, nv (W.rq p no).ctx, nv (W.rq p no).tag, nv (W.rq p no).room, .bool (W.rq p no).send, .bool (W.rq p no).sync, .bool (W.rq p no).pers, .bool true, .bool false, nk (W.rq p no).parts, nk (W.rq p no).size, dvz, (⟨G.B, S137, C137, ro137⟩ : Gh).S (.pcs p no), nk (W.rq p no).gone, (⟨G.B, S137, C137, ro137⟩ : Gh).S (.snt p no), .bool (W.rq p no).clr, nv 0, nv 0, nv 0, nv 0] := cz
 have l6 := c132.lt
 refine L_nil ⟨rfl, ?_⟩
 refine D_l (l := []) kr kr Rk_nil (NS_nil (W_seq (W_drawn kr (D_e (e := 27) (l := [0,1,2,3,4,5,6,7,8,9,10,11,12,13,14,15,16,17,18,19,20,21,22,23,24,25,26]) (s' := []) kr kr rfl kr Rk_nil (NS_b 1 kr (NS_ld _ rfl rfl kr kr kr (c132.ld (o := 0) kr rfl) (NS_b 2 kr (NS_ld _ rfl rfl kr kr kr ((cz.sm T137 (fun hx => hx.2.1 ⟨.rq p no, hr_137, rfl⟩)).ld (o := 2) kr rfl) (NS_ld _ rfl rfl kr kr kr (c132.ld (o := 0) kr rfl) (NS_b 2 kr (NS_ld _ rfl rfl kr kr kr ((cz.sm T137 (fun hx => hx.2.1 ⟨.rq p no, hr_137, rfl⟩)).ld (o := 3) kr rfl) ?_)))))))))))
 refine NS_b 1 kr (NS_ln _ rfl rfl kr kr kr (H.lenA (T := 23) (el := 5) kr _) (NS_ld _ rfl rfl kr kr kr (c132.ld (o := 0) kr rfl) (NS_b 2 kr (NS_ld _ rfl rfl kr kr kr ((cz.sm T137 (fun hx => hx.2.1 ⟨.rq p no, hr_137, rfl⟩)).ld (o := 10) kr rfl) (NS_ld _ rfl rfl kr kr kr (c132.ld (o := 0) kr rfl) (NS_b 2 kr (NS_ld _ rfl rfl kr kr kr ((cz.sm T137 (fun hx => hx.2.1 ⟨.rq p no, hr_137, rfl⟩)).ld (o := 11) kr rfl) (NS_v (.int .i64 (IntKind.i64.wrap (((W.rq p no).parts : Int) * ((W.rq p no).size : Int)))) rfl kr rfl kr kr (NS_i (((List.map bv d).length : Int)) (IntKind.i64.wrap (((W.rq p no).parts : Int) * ((W.rq p no).size : Int))) (nv ((d.length + (W.rq p no).parts * (W.rq p no).size : Nat) : Int)) rfl rfl kr kr kr kr rfl (sum_nat hsm hld) (NS_ld _ rfl rfl kr kr kr (c132.ld (o := 0) kr rfl) (NS_b 2 kr ?_)))))))))))
 refine NS_ld _ rfl rfl kr kr kr ((cz.sm T137 (fun hx => hx.2.1 ⟨.rq p no, hr_137, rfl⟩)).ld (o := 10) kr rfl) (NS_b 1 kr ?_)
 have m138 : ¬ (Gh.mut (⟨Gh.B (A18x3 G d va133 vc133), S137, C137, ro137⟩ : Gh)) h137.next ∧ ¬ (Gh.ro (⟨Gh.B (A18x3 G d va133 vc133), S137, C137, ro137⟩ : Gh)) h137.next := ⟨(R137.ow T137).op.new (Nat.le_refl _), (R137.ow T137).op.newr (Nat.le_refl _)⟩
 refine NS_newR (Al.cells [nv 0, nv 0, nv 0, nv 0, nv 0]) .ptr rfl kr rfl rfl kr (Rk_1 rfl rfl (Rk_ld _ rfl rfl rfl kr ((c132.ext (.push h137 _)).ld (o := 0) kr rfl) kr (Rk_1 rfl rfl (Rk_1 rfl rfl (Rk_ld _ rfl rfl rfl kr ((cz.sm (T137.ext (.push h137 _)) (fun hx => hx.2.1 ⟨.rq p no, hr_137, rfl⟩)).ld (o := 2) kr rfl) kr (Rk_ld _ rfl rfl rfl kr ((c132.ext (.push h137 _)).ld (o := 0) kr rfl) kr (Rk_1 rfl rfl (Rk_1 rfl rfl (Rk_ld _ rfl rfl rfl kr ((cz.sm (T137.ext (.push h137 _)) (fun hx => hx.2.1 ⟨.rq p no, hr_137, rfl⟩)).ld (o := 3) kr rfl) kr (Rk_1 rfl rfl (Rk_ln _ rfl rfl rfl kr (H.lenA (T := 23) (el := 5) kr _) kr (Rk_ld _ rfl rfl rfl kr ((c132.ext (.push h137 _)).ld (o := 0) kr rfl) kr (Rk_1 rfl rfl (Rk_1 rfl rfl (Rk_ld _ rfl rfl rfl kr ((cz.sm (T137.ext (.push h137 _)) (fun hx => hx.2.1 ⟨.rq p no, hr_137, rfl⟩)).ld (o := 10) kr rfl) kr (Rk_ld _ rfl rfl rfl kr ((c132.ext (.push h137 _)).ld (o := 0) kr rfl) kr (Rk_1 rfl rfl (Rk_1 rfl rfl (Rk_ld _ rfl rfl rfl kr ((cz.sm (T137.ext (.push h137 _)) (fun hx => hx.2.1 ⟨.rq p no, hr_137, rfl⟩)).ld (o := 11) kr rfl) kr (Rk_v (v := (.int .i64 (IntKind.i64.wrap (((W.rq p no).parts : Int) * ((W.rq p no).size : Int))))) rfl rfl kr kr (Rk_i (((List.map bv d).length : Int)) (IntKind.i64.wrap (((W.rq p no).parts : Int) * ((W.rq p no).size : Int))) (nv ((d.length + (W.rq p no).parts * (W.rq p no).size : Nat) : Int)) rfl rfl rfl kr kr rfl (sum_nat hsm hld) kr (Rk_ld _ rfl rfl rfl kr ((c132.ext (.push h137 _)).ld (o := 0) kr rfl) kr (Rk_1 rfl rfl (Rk_1 rfl rfl (Rk_ld _ rfl rfl rfl kr ((cz.sm (T137.ext (.push h137 _)) (fun hx => hx.2.1 ⟨.rq p no, hr_137, rfl⟩)).ld (o := 10) kr rfl) kr (Rk_1 rfl rfl (Rk_1 rfl rfl Rk_nil))))))))))))))))))))))))))) ?_
 have l138_t6 := c132.lt
 have c138 : Cl (h137.push (Al.cells [nv 0, nv 0, nv 0, nv 0, nv 0]).obj) h137.next [nv 0, nv 0, nv 0, nv 0, nv 0] := Cl.new h137 _
 have t138 : Sm Nix h137 (h137.push (Al.cells [nv 0, nv 0, nv 0, nv 0, nv 0]).obj) := .push h137 _
 have n138 : (h137.push (Al.cells [nv 0, nv 0, nv 0, nv 0, nv 0]).obj).next = h137.next + 1 := rfl
 generalize h137.push (Al.cells [nv 0, nv 0, nv 0, nv 0, nv 0]).obj = h138 at c138 t138 n138 ⊢
 replace c132 := c132.ext t138
 have T138 : Sm (Ow h (⟨Gh.B (A18x3 G d va133 vc133), S137, C137, ro137⟩ : Gh)) h137 h138 := T137.ext t138
 have N138 := T138.nx
 refine NS_nil ?_
 obtain ⟨h139, e139, d139, t139, n139⟩ := c138.sA 115 [nv (p : Int), nv (W.rq p no).ctx, nv (W.rq p no).tag, nv ((d.length + (W.rq p no).parts * (W.rq p no).size : Nat) : Int), nk (W.rq p no).parts]
 replace c132 := c132.sn t139
 replace c138 := d139
 have T139 : Sm (Ow h (⟨Gh.B (A18x3 G d va133 vc133), S137, C137, ro137⟩ : Gh)) h137 h139 := T138.trans t139 (fun x hx => by have hx : x = h137.next := hx; subst hx; first | exact .inr (by omega) | exact .inl ⟨by omega, m138.1, m138.2⟩ | exact .inl rfl)
 have N139 := T139.nx
 refine L_st _ rfl rfl rfl kr kr (e139) ?_
 refine L_nil ⟨rfl, ?_⟩
 refine D_l (l := []) kr kr Rk_nil (NS_nil (W_block (W_seq ?_)))
 split at he
 ·
   rename_i hsend
   have hsend : (W.rq p no).send = true := hsend
   refine W_region (L_ld _ rfl rfl kr (c132.ld (o := 0) kr rfl) (L_g 2 kr (L_ld _ rfl rfl kr (((cz.sm T139 (fun hx => hx.2.1 ⟨.rq p no, hr_137, rfl⟩)).ld (o := 5) kr (by rw [← hsend]; rfl) : aLoad Try.prog 4 ⟨G.B (.rq p no), 5, none⟩ h139 = some (.bool true))) (L_g 1 kr (L_nil ?_)))))
   refine W_cond true kr (fun _ => ?_) (fun e => by cases e)
   refine W_seq (W_drawn kr (D_e (e := 14) (l := [0,1,2,3,4,5,6,7,8,9,10,11,12,13]) (s' := []) kr kr rfl kr Rk_nil (NS_ld _ rfl rfl kr kr kr (c132.ld (o := 0) kr rfl) (NS_ld _ rfl rfl kr kr kr (c132.ld (o := 0) kr rfl) (NS_b 2 kr (NS_ld _ rfl rfl kr kr kr ((cz.sm T139 (fun hx => hx.2.1 ⟨.rq p no, hr_137, rfl⟩)).ld (o := 1) kr rfl) (NS_ld _ rfl rfl kr kr kr (c132.ld (o := 0) kr rfl) (NS_b 2 kr (NS_ld _ rfl rfl kr kr kr ((cz.sm T139 (fun hx => hx.2.1 ⟨.rq p no, hr_137, rfl⟩)).ld (o := 3) kr rfl) (NS_b 1 kr (NS_ld _ rfl rfl kr kr kr (c138.ld (o := 3) kr rfl) ?_)))))))))))
   refine NS_b 3 kr (NS_nil ?_)
   obtain ⟨dv9, hd9, c9⟩ := (R137.ow T139).rqL hp hr_137
   replace c9 : Cl h139 (Gh.B (A18x3 G d va133 vc133) (.rq p no)) [nk ((A18x1 W d no p).rq p no).no, nv ((A18x1 W d no p).rq p no).peer, nv ((A18x1 W d no p).rq p no).ctx, nv ((A18x1 W d no p).rq p no).tag, nv ((A18x1 W d no p).rq p no).room, .bool ((A18x1 W d no p).rq p no).send, .bool ((A18x1 W d no p).rq p no).sync, .bool ((A18x1 W d no p).rq p no).pers, .bool ((A18x1 W d no p).rq p no).act, .bool ((A18x1 W d no p).rq p no).done, nk ((A18x1 W d no p).rq p no).parts, nk ((A18x1 W d no p).rq p no).size, dv9, (⟨Gh.B (A18x3 G d va133 vc133), S137, C137, ro137⟩ : Gh).S (.pcs p no), nk ((A18x1 W d no p).rq p no).gone, (⟨Gh.B (A18x3 G d va133 vc133), S137, C137, ro137⟩ : Gh).S (.snt p no), .bool ((A18x1 W d no p).rq p no).clr, nv ((A18x1 W d no p).rq p no).st.src, nv ((A18x1 W d no p).rq p no).st.tag, nv ((A18x1 W d no p).rq p no).st.size, nv ((A18x1 W d no p).rq p no).st.err] := c9
   obtain ⟨h140, e140, d140, t140, n140⟩ := c9.storeAt (P := Try.prog) (T := 43) (o := 17) (v := .agg ⟨[nv (W.rq p no).peer, nv (W.rq p no).tag, nv ((d.length + (W.rq p no).parts * (W.rq p no).size : Nat) : Int), nv 0]⟩) (vs := [nv (W.rq p no).peer, nv (W.rq p no).tag, nv ((d.length + (W.rq p no).parts * (W.rq p no).size : Nat) : Int), nv 0]) kr rfl (by simp) (List.all_eq_true.1 rfl)
   have N140 : Nxt ((A18x1 W d no p).setRq p no { ((A18x1 W d no p).rq p no) with st := ⟨(W.rq p no).peer, (W.rq p no).tag, (⟨p, (W.rq p no).ctx, (W.rq p no).tag, ((d.length + (W.rq p no).parts * (W.rq p no).size : Nat) : Int), (W.rq p no).parts⟩ : En).size, 0⟩ }) (⟨Gh.B (A18x3 G d va133 vc133), S137, C137, ro137⟩ : Gh) h139 h140 := (R137.ow T139).stRq hp hr_137 (r := { ((A18x1 W d no p).rq p no) with st := ⟨(W.rq p no).peer, (W.rq p no).tag, (⟨p, (W.rq p no).ctx, (W.rq p no).tag, ((d.length + (W.rq p no).parts * (W.rq p no).size : Nat) : Int), (W.rq p no).parts⟩ : En).size, 0⟩ }) hd9 d140 t140 rfl rfl rfl
   clear hd9
   refine L_st _ rfl rfl rfl kr kr (e140) ?_
   obtain ⟨S140, C140, ro140, R140, Y140⟩ := N140
   have X140 := ((X137).ow T139).trans Y140
   have hr_140 := (Y140.keep _ hr_137).1
   have mZ6_134_135_136_137_140 : ¬ (Gh.mut ⟨Gh.B (A18x3 G d va133 vc133), S140, C140, ro140⟩) (h.next) ∧ ¬ (Gh.ro ⟨Gh.B (A18x3 G d va133 vc133), S140, C140, ro140⟩) (h.next) := ⟨fun hm => (Y140.mu _ hm).elim mZ6_134_135_136_137.1 (fun e => by have := c132.lt; omega), fun hm => (Y140.ron _ hm).elim mZ6_134_135_136_137.2 (fun e => by have := c132.lt; omega)⟩
   replace c132 := c132.sm Y140.sm mZ6_134_135_136_137.1
   have m138_140 : ¬ (Gh.mut ⟨Gh.B (A18x3 G d va133 vc133), S140, C140, ro140⟩) (h137.next) ∧ ¬ (Gh.ro ⟨Gh.B (A18x3 G d va133 vc133), S140, C140, ro140⟩) (h137.next) := ⟨fun hm => (Y140.mu _ hm).elim m138.1 (fun e => by have := c138.lt; omega), fun hm => (Y140.ron _ hm).elim m138.2 (fun e => by have := c138.lt; omega)⟩
   replace c138 := c138.sm Y140.sm m138.1
   have T140 : Sm (Ow h (⟨Gh.B (A18x3 G d va133 vc133), S140, C140, ro140⟩ : Gh)) h140 h140 := .refl
   have eW2 : ((A18x1 W d no p).setRq p no { ((A18x1 W d no p).rq p no) with st := ⟨(W.rq p no).peer, (W.rq p no).tag, (⟨p, (W.rq p no).ctx, (W.rq p no).tag, ((d.length + (W.rq p no).parts * (W.rq p no).size : Nat) : Int), (W.rq p no).parts⟩ : En).size, 0⟩ }) = W.setRq p no { { W.rq p no with act := true, done := false, st := St.z, data := d } with st := ⟨(W.rq p no).peer, (W.rq p no).tag, (⟨p, (W.rq p no).ctx, (W.rq p no).tag, ((d.length + (W.rq p no).parts * (W.rq p no).size : Nat) : Int), (W.rq p no).parts⟩ : En).size, 0⟩ } := by rw [Wd.setRq_at, Wd.setRq_setRq]
   rw [eW2] at R140
   refine L_nil ⟨rfl, ?_⟩
   refine D_l (l := []) kr kr Rk_nil (NS_nil (W_rg 2 kr (L_ld _ rfl rfl kr (c132.ld (o := 0) kr rfl) (L_ld _ rfl rfl kr (Cl.allN (n := 5) c138 rfl kr) (L_c rfl rfl kr (send_ok (e := (⟨p, (W.rq p no).ctx, (W.rq p no).tag, ((d.length + (W.rq p no).parts * (W.rq p no).size : Nat) : Int), (W.rq p no).parts⟩ : En)) (R140.ow T140) hp hr_140 he) ?_)))))
   rintro v141 h141 N141
   dsimp only at N141
   obtain ⟨S141, C141, ro141, R141, Y141⟩ := N141
   have X141 := ((X140).ow T140).trans Y141
   have hr_141 := (Y141.keep _ hr_140).1
   have mZ6_134_135_136_137_140_141 : ¬ (Gh.mut ⟨Gh.B (A18x3 G d va133 vc133), S141, C141, ro141⟩) (h.next) ∧ ¬ (Gh.ro ⟨Gh.B (A18x3 G d va133 vc133), S141, C141, ro141⟩) (h.next) := ⟨fun hm => (Y141.mu _ hm).elim mZ6_134_135_136_137_140.1 (fun e => by have := c132.lt; omega), fun hm => (Y141.ron _ hm).elim mZ6_134_135_136_137_140.2 (fun e => by have := c132.lt; omega)⟩
   have m138_140_141 : ¬ (Gh.mut ⟨Gh.B (A18x3 G d va133 vc133), S141, C141, ro141⟩) (h137.next) ∧ ¬ (Gh.ro ⟨Gh.B (A18x3 G d va133 vc133), S141, C141, ro141⟩) (h137.next) := ⟨fun hm => (Y141.mu _ hm).elim m138_140.1 (fun e => by have := c138.lt; omega), fun hm => (Y141.ron _ hm).elim m138_140.2 (fun e => by have := c138.lt; omega)⟩
   have T141 : Sm (Ow h (⟨Gh.B (A18x3 G d va133 vc133), S141, C141, ro141⟩ : Gh)) h141 h141 := .refl
   refine L_nil ?_
   repeat with_reducible refine blk_norm ?_
   refine done_of (v := .tuple ⟨[]⟩) (.inr rfl) kr ?_
   exact ⟨_, _, _, (R141.ow T141), ((X141).ow T141)⟩
 ·
   rename_i hsend
   have hsend : (W.rq p no).send = false := by simpa using hsend
   refine W_region (L_ld _ rfl rfl kr (c132.ld (o := 0) kr rfl) (L_g 2 kr (L_ld _ rfl rfl kr (((cz.sm T139 (fun hx => hx.2.1 ⟨.rq p no, hr_137, rfl⟩)).ld (o := 5) kr (by rw [← hsend]; rfl) : aLoad Try.prog 4 ⟨G.B (.rq p no), 5, none⟩ h139 = some (.bool false))) (L_g 1 kr (L_nil ?_)))))
   refine W_cond false kr (fun e => by cases e) (fun _ => ?_)
   refine W_seq ?_
   split at he
   ·
    rename_i hpeer
    have hpeer : (W.rq p no).peer = -2 := hpeer
    obtain rfl := Option.some.inj he
    refine W_region (L_ld _ rfl rfl kr (c132.ld (o := 0) kr rfl) (L_g 2 kr (L_ld _ rfl rfl kr ((cz.sm T139 (fun hx => hx.2.1 ⟨.rq p no, hr_137, rfl⟩)).ld (o := 1) kr rfl) (L_i ((W.rq p no).peer) (-2) (.bool true) rfl rfl kr kr rfl (by simp; omega) (L_g 1 kr (L_nil ?_))))))
    refine W_cond true kr (fun _ => ?_) (fun e => by cases e)
    refine W_drawn kr (D_e (e := 5) (l := [0,1,2,3,4]) (s' := [1]) kr kr rfl kr Rk_nil (NS_ld _ rfl rfl kr kr kr (c132.ld (o := 0) kr rfl) (NS_ld _ rfl rfl kr kr kr (c132.ld (o := 0) kr rfl) (NS_b 3 kr (NS_nil ?_)))))
    obtain ⟨dv9, hd9, c9⟩ := (R137.ow T139).rqL hp hr_137
    replace c9 : Cl h139 (Gh.B (A18x3 G d va133 vc133) (.rq p no)) [nk ((A18x1 W d no p).rq p no).no, nv ((A18x1 W d no p).rq p no).peer, nv ((A18x1 W d no p).rq p no).ctx, nv ((A18x1 W d no p).rq p no).tag, nv ((A18x1 W d no p).rq p no).room, .bool ((A18x1 W d no p).rq p no).send, .bool ((A18x1 W d no p).rq p no).sync, .bool ((A18x1 W d no p).rq p no).pers, .bool ((A18x1 W d no p).rq p no).act, .bool ((A18x1 W d no p).rq p no).done, nk ((A18x1 W d no p).rq p no).parts, nk ((A18x1 W d no p).rq p no).size, dv9, (⟨Gh.B (A18x3 G d va133 vc133), S137, C137, ro137⟩ : Gh).S (.pcs p no), nk ((A18x1 W d no p).rq p no).gone, (⟨Gh.B (A18x3 G d va133 vc133), S137, C137, ro137⟩ : Gh).S (.snt p no), .bool ((A18x1 W d no p).rq p no).clr, nv ((A18x1 W d no p).rq p no).st.src, nv ((A18x1 W d no p).rq p no).st.tag, nv ((A18x1 W d no p).rq p no).st.size, nv ((A18x1 W d no p).rq p no).st.err] := c9
    obtain ⟨h142, e142, d142, t142, n142⟩ := c9.storeAt (P := Try.prog) (T := 43) (o := 17) (v := .agg ⟨[nv (-2), nv (-1), nv 0, nv 0]⟩) (vs := [nv (-2), nv (-1), nv 0, nv 0]) kr rfl (by simp) (List.all_eq_true.1 rfl)
    have N142 : Nxt ((A18x1 W d no p).setRq p no { ((A18x1 W d no p).rq p no) with st := ⟨-2, -1, 0, 0⟩ }) (⟨Gh.B (A18x3 G d va133 vc133), S137, C137, ro137⟩ : Gh) h139 h142 := (R137.ow T139).stRq hp hr_137 (r := { ((A18x1 W d no p).rq p no) with st := ⟨-2, -1, 0, 0⟩ }) hd9 d142 t142 rfl rfl rfl
    clear hd9
    refine L_st _ rfl rfl rfl kr kr (e142) ?_
    obtain ⟨S142, C142, ro142, R142, Y142⟩ := N142
    have X142 := ((X137).ow T139).trans Y142
    have hr_142 := (Y142.keep _ hr_137).1
    have mZ6_134_135_136_137_142 : ¬ (Gh.mut ⟨Gh.B (A18x3 G d va133 vc133), S142, C142, ro142⟩) (h.next) ∧ ¬ (Gh.ro ⟨Gh.B (A18x3 G d va133 vc133), S142, C142, ro142⟩) (h.next) := ⟨fun hm => (Y142.mu _ hm).elim mZ6_134_135_136_137.1 (fun e => by have := c132.lt; omega), fun hm => (Y142.ron _ hm).elim mZ6_134_135_136_137.2 (fun e => by have := c132.lt; omega)⟩
    replace c132 := c132.sm Y142.sm mZ6_134_135_136_137.1
    have m138_142 : ¬ (Gh.mut ⟨Gh.B (A18x3 G d va133 vc133), S142, C142, ro142⟩) (h137.next) ∧ ¬ (Gh.ro ⟨Gh.B (A18x3 G d va133 vc133), S142, C142, ro142⟩) (h137.next) := ⟨fun hm => (Y142.mu _ hm).elim m138.1 (fun e => by have := c138.lt; omega), fun hm => (Y142.ron _ hm).elim m138.2 (fun e => by have := c138.lt; omega)⟩
    replace c138 := c138.sm Y142.sm m138.1
    have T142 : Sm (Ow h (⟨Gh.B (A18x3 G d va133 vc133), S142, C142, ro142⟩ : Gh)) h142 h142 := .refl
    refine L_nil ⟨rfl, ?_⟩
    refine D_e (e := 8) (l := [6,7]) (s' := []) kr kr rfl kr (Rk_ld _ rfl rfl rfl kr (c132.ld (o := 0) kr rfl) kr Rk_nil) (NS_b 2 kr (NS_nil ?_))
    obtain ⟨dv9, hd9, c9⟩ := (R142.ow T142).rqL hp hr_142
    replace c9 : Cl h142 (Gh.B (A18x3 G d va133 vc133) (.rq p no)) [nk (A18x5 W d no p).no, nv (A18x5 W d no p).peer, nv (A18x5 W d no p).ctx, nv (A18x5 W d no p).tag, nv (A18x5 W d no p).room, .bool (A18x5 W d no p).send, .bool (A18x5 W d no p).sync, .bool (A18x5 W d no p).pers, .bool (A18x5 W d no p).act, .bool (A18x5 W d no p).done, nk (A18x5 W d no p).parts, nk (A18x5 W d no p).size, dv9, (⟨Gh.B (A18x3 G d va133 vc133), S142, C142, ro142⟩ : Gh).S (.pcs p no), nk (A18x5 W d no p).gone, (⟨Gh.B (A18x3 G d va133 vc133), S142, C142, ro142⟩ : Gh).S (.snt p no), .bool (A18x5 W d no p).clr, nv (A18x5 W d no p).st.src, nv (A18x5 W d no p).st.tag, nv (A18x5 W d no p).st.size, nv (A18x5 W d no p).st.err] := c9
    obtain ⟨h143, e143, d143, t143, n143⟩ := c9.s1 4 9 (.bool true)
    have N143 : Nxt (((A18x1 W d no p).setRq p no { ((A18x1 W d no p).rq p no) with st := ⟨-2, -1, 0, 0⟩ }).setRq p no { (A18x5 W d no p) with done := true }) (⟨Gh.B (A18x3 G d va133 vc133), S142, C142, ro142⟩ : Gh) h142 h143 := (R142.ow T142).stRq hp hr_142 (r := { (A18x5 W d no p) with done := true }) hd9 d143 t143 rfl rfl rfl
    clear hd9
    refine L_st _ rfl rfl rfl kr kr (e143) ?_
    obtain ⟨S143, C143, ro143, R143, Y143⟩ := N143
    have X143 := ((X142).ow T142).trans Y143
    have hr_143 := (Y143.keep _ hr_142).1
    have mZ6_134_135_136_137_142_143 : ¬ (Gh.mut ⟨Gh.B (A18x3 G d va133 vc133), S143, C143, ro143⟩) (h.next) ∧ ¬ (Gh.ro ⟨Gh.B (A18x3 G d va133 vc133), S143, C143, ro143⟩) (h.next) := ⟨fun hm => (Y143.mu _ hm).elim mZ6_134_135_136_137_142.1 (fun e => by have := c132.lt; omega), fun hm => (Y143.ron _ hm).elim mZ6_134_135_136_137_142.2 (fun e => by have := c132.lt; omega)⟩
    have m138_142_143 : ¬ (Gh.mut ⟨Gh.B (A18x3 G d va133 vc133), S143, C143, ro143⟩) (h137.next) ∧ ¬ (Gh.ro ⟨Gh.B (A18x3 G d va133 vc133), S143, C143, ro143⟩) (h137.next) := ⟨fun hm => (Y143.mu _ hm).elim m138_142.1 (fun e => by have := c138.lt; omega), fun hm => (Y143.ron _ hm).elim m138_142.2 (fun e => by have := c138.lt; omega)⟩
    have T143 : Sm (Ow h (⟨Gh.B (A18x3 G d va133 vc133), S143, C143, ro143⟩ : Gh)) h143 h143 := .refl
    simp only [Wd.setRq_at, Wd.setRq_setRq] at R143
    refine L_nil ⟨rfl, ?_⟩
    refine D_l (l := []) kr kr Rk_nil (NS_nil ?_)
    repeat with_reducible refine blk_norm ?_
    refine done_of (v := .tuple ⟨[]⟩) (.inr rfl) kr ?_
    exact ⟨_, _, _, (R143.ow T143), ((X143).ow T143)⟩
   ·
    rename_i hpeer
    have hpeer : ¬ (W.rq p no).peer = -2 := hpeer
    have hsm9 : ((A18x1 W d no p).rq p no).small := by rw [Wd.setRq_at]; exact hsm
    refine W_region (L_ld _ rfl rfl kr (c132.ld (o := 0) kr rfl) (L_g 2 kr (L_ld _ rfl rfl kr ((cz.sm T139 (fun hx => hx.2.1 ⟨.rq p no, hr_137, rfl⟩)).ld (o := 1) kr rfl) (L_i ((W.rq p no).peer) (-2) (.bool false) rfl rfl kr kr rfl (by simp; omega) (L_g 1 kr (L_nil ?_))))))
    refine W_cond false kr (fun e => by cases e) (fun _ => ?_)
    refine W_seq ?_
    split at he
    ·
     rename_i i hf
     have hf9 : ((A18x1 W d no p).pr p).msgs.findIdx? (fun m => ((A18x1 W d no p).rq p no).fits m.en) = some i := by rw [Wd.setRq_at]; exact hf
     obtain ⟨x, hx⟩ : ∃ x, (W.pr p).msgs[i]? = some x := ⟨_, List.getElem?_eq_getElem (find_lt hf)⟩
     rw [List.getD_eq_getElem?_getD, hx, Option.getD_some] at he
     refine W_rg 3 kr (L_ld _ rfl rfl kr ((R137.ow T139).wdL.ld (o := 1) kr rfl) (L_g 1 kr ?_))
     obtain ⟨b1, o1, i1, l1⟩ := (R137.ow T139).prsAt (P := Try.prog) (T := 74) (el := 77) kr kr kr hp
     refine L_ix _ rfl rfl kr kr (i1) (L_ld _ rfl rfl kr (l1) (L_g 1 kr (L_nil (W_seq (W_region (L_g 4 kr ?_))))))
     refine L_c rfl rfl kr (take_ms (R137.ow T139) hp (pr := fun m => ((A18x1 W d no p).rq p no).fits m.en) hlm (fun _ _ => rfl) (fun x v hv h' t => by
       obtain ⟨ty, u, rfl⟩ := hv.iface
       exact st1_ok (e := x.en) ((R137.ow T139).ext t) hp hr_137 hsm9 ((c132.ext t))) hf9 hx) ?_
     rintro v144 h144 ⟨v9144, hv144, e144, N144⟩
     dsimp only at hv144 e144 N144
     subst e144
     obtain ⟨ty, u, rfl⟩ := hv144.iface
     obtain ⟨S144, C144, ro144, R144, Y144⟩ := N144
     have X144 := ((X137).ow T139).trans Y144
     have hr_144 := (Y144.keep _ hr_137).1
     have mZ6_134_135_136_137_144 : ¬ (Gh.mut ⟨Gh.B (A18x3 G d va133 vc133), S144, C144, ro144⟩) (h.next) ∧ ¬ (Gh.ro ⟨Gh.B (A18x3 G d va133 vc133), S144, C144, ro144⟩) (h.next) := ⟨fun hm => (Y144.mu _ hm).elim mZ6_134_135_136_137.1 (fun e => by have := c132.lt; omega), fun hm => (Y144.ron _ hm).elim mZ6_134_135_136_137.2 (fun e => by have := c132.lt; omega)⟩
     replace c132 := c132.sm Y144.sm mZ6_134_135_136_137.1
     have m138_144 : ¬ (Gh.mut ⟨Gh.B (A18x3 G d va133 vc133), S144, C144, ro144⟩) (h137.next) ∧ ¬ (Gh.ro ⟨Gh.B (A18x3 G d va133 vc133), S144, C144, ro144⟩) (h137.next) := ⟨fun hm => (Y144.mu _ hm).elim m138.1 (fun e => by have := c138.lt; omega), fun hm => (Y144.ron _ hm).elim m138.2 (fun e => by have := c138.lt; omega)⟩
     replace c138 := c138.sm Y144.sm m138.1
     have T144 : Sm (Ow h (⟨Gh.B (A18x3 G d va133 vc133), S144, C144, ro144⟩ : Gh)) h144 h144 := .refl
     have hv9 := hv144.mono (Gx.dr Y144 (R137.ow T139).op)
     refine L_g 3 kr ?_
     have m145 : ¬ (Gh.mut (⟨Gh.B (A18x3 G d va133 vc133), S144, C144, ro144⟩ : Gh)) h144.next ∧ ¬ (Gh.ro (⟨Gh.B (A18x3 G d va133 vc133), S144, C144, ro144⟩ : Gh)) h144.next := ⟨(R144.ow T144).op.new (Nat.le_refl _), (R144.ow T144).op.newr (Nat.le_refl _)⟩
     refine L_nw (Al.cells [nv 0, nv 0, nv 0, nv 0, nv 0, .nilIface]) .ptr rfl rfl kr ?_
     have l145_t6 := c132.lt
     have l145_t8 := c138.lt
     have c145 : Cl (h144.push (Al.cells [nv 0, nv 0, nv 0, nv 0, nv 0, .nilIface]).obj) h144.next [nv 0, nv 0, nv 0, nv 0, nv 0, .nilIface] := Cl.new h144 _
     have t145 : Sm Nix h144 (h144.push (Al.cells [nv 0, nv 0, nv 0, nv 0, nv 0, .nilIface]).obj) := .push h144 _
     have n145 : (h144.push (Al.cells [nv 0, nv 0, nv 0, nv 0, nv 0, .nilIface]).obj).next = h144.next + 1 := rfl
     generalize h144.push (Al.cells [nv 0, nv 0, nv 0, nv 0, nv 0, .nilIface]).obj = h145 at c145 t145 n145 ⊢
     replace c132 := c132.ext t145
     replace c138 := c138.ext t145
     have T145 : Sm (Ow h (⟨Gh.B (A18x3 G d va133 vc133), S144, C144, ro144⟩ : Gh)) h144 h145 := T144.ext t145
     have N145 := T145.nx
     obtain ⟨h146, e146, d146, t146, n146⟩ := c145.sA 117 [nv x.en.src, nv x.en.ctx, nv x.en.tag, nv x.en.size, nv x.en.parts, .iface ty u]
     replace c132 := c132.sn t146
     replace c138 := c138.sn t146
     replace c145 := d146
     have T146 : Sm (Ow h (⟨Gh.B (A18x3 G d va133 vc133), S144, C144, ro144⟩ : Gh)) h144 h146 := T145.trans t146 (fun x hx => by have hx : x = h144.next := hx; subst hx; first | exact .inr (by omega) | exact .inl ⟨by omega, m145.1, m145.2⟩ | exact .inl rfl)
     have N146 := T146.nx
     refine L_st _ rfl rfl rfl kr kr (e146) (L_g 1 kr (L_nil (W_sg 1 kr (L_nil ?_))))
     refine W_cond true kr (fun _ => ?_) (fun e => by cases e)
     refine W_rg 2 kr (L_ld _ rfl rfl kr (c132.ld (o := 0) kr rfl) (L_ld _ rfl rfl kr (Cl.allN (n := 6) c145 rfl kr) (L_c rfl rfl kr (match_ok (v := .iface ty u) (R144.ow T146) hp hr_144 (hv9.mono (fun _ _ z => z.ext3 T146)) he) ?_)))
     rintro v147 h147 N147
     dsimp only at N147
     obtain ⟨S147, C147, ro147, R147, Y147⟩ := N147
     have X147 := ((X144).ow T146).trans Y147
     have hr_147 := (Y147.keep _ hr_144).1
     have mZ6_134_135_136_137_144_147 : ¬ (Gh.mut ⟨Gh.B (A18x3 G d va133 vc133), S147, C147, ro147⟩) (h.next) ∧ ¬ (Gh.ro ⟨Gh.B (A18x3 G d va133 vc133), S147, C147, ro147⟩) (h.next) := ⟨fun hm => (Y147.mu _ hm).elim mZ6_134_135_136_137_144.1 (fun e => by have := c132.lt; omega), fun hm => (Y147.ron _ hm).elim mZ6_134_135_136_137_144.2 (fun e => by have := c132.lt; omega)⟩
     have m138_144_147 : ¬ (Gh.mut ⟨Gh.B (A18x3 G d va133 vc133), S147, C147, ro147⟩) (h137.next) ∧ ¬ (Gh.ro ⟨Gh.B (A18x3 G d va133 vc133), S147, C147, ro147⟩) (h137.next) := ⟨fun hm => (Y147.mu _ hm).elim m138_144.1 (fun e => by have := c138.lt; omega), fun hm => (Y147.ron _ hm).elim m138_144.2 (fun e => by have := c138.lt; omega)⟩
     have m145_147 : ¬ (Gh.mut ⟨Gh.B (A18x3 G d va133 vc133), S147, C147, ro147⟩) (h144.next) ∧ ¬ (Gh.ro ⟨Gh.B (A18x3 G d va133 vc133), S147, C147, ro147⟩) (h144.next) := ⟨fun hm => (Y147.mu _ hm).elim m145.1 (fun e => by have := c145.lt; omega), fun hm => (Y147.ron _ hm).elim m145.2 (fun e => by have := c145.lt; omega)⟩
     have T147 : Sm (Ow h (⟨Gh.B (A18x3 G d va133 vc133), S147, C147, ro147⟩ : Gh)) h147 h147 := .refl
     refine L_nil ?_
     repeat with_reducible refine blk_norm ?_
     refine done_of (v := .tuple ⟨[]⟩) (.inr rfl) kr ?_
     exact ⟨_, _, _, (R147.ow T147), ((X147).ow T147)⟩
    ·
     rename_i hf
     have hf9 : ((A18x1 W d no p).pr p).msgs.findIdx? (fun m => ((A18x1 W d no p).rq p no).fits m.en) = none := by rw [Wd.setRq_at]; exact hf
     split at he
     rotate_right
     · cases he
     rename_i hlr
     obtain rfl := Option.some.inj he
     refine W_rg 3 kr (L_ld _ rfl rfl kr ((R137.ow T139).wdL.ld (o := 1) kr rfl) (L_g 1 kr ?_))
     obtain ⟨b1, o1, i1, l1⟩ := (R137.ow T139).prsAt (P := Try.prog) (T := 74) (el := 77) kr kr kr hp
     refine L_ix _ rfl rfl kr kr (i1) (L_ld _ rfl rfl kr (l1) (L_g 1 kr (L_nil (W_seq (W_region (L_g 4 kr ?_))))))
     refine L_c rfl rfl kr (take_ms_no (R137.ow T139) hp (pr := fun m => ((A18x1 W d no p).rq p no).fits m.en) hlm (fun _ _ => rfl) (fun x v hv h' t => by
       obtain ⟨ty, u, rfl⟩ := hv.iface
       exact st1_ok (e := x.en) ((R137.ow T139).ext t) hp hr_137 hsm9 ((c132.ext t))) hf9) ?_
     rintro v148 h148 ⟨e148, t148⟩
     try dsimp only at e148
     try dsimp only at t148
     subst e148
     replace c132 := c132.ext t148
     replace c138 := c138.ext t148
     have T148 : Sm (Ow h (⟨Gh.B (A18x3 G d va133 vc133), S137, C137, ro137⟩ : Gh)) h137 h148 := T139.ext t148
     have N148 := T148.nx
     have M148 := t148.nx
     refine L_g 3 kr ?_
     have m149 : ¬ (Gh.mut (⟨Gh.B (A18x3 G d va133 vc133), S137, C137, ro137⟩ : Gh)) h148.next ∧ ¬ (Gh.ro (⟨Gh.B (A18x3 G d va133 vc133), S137, C137, ro137⟩ : Gh)) h148.next := ⟨(R137.ow T148).op.new (Nat.le_refl _), (R137.ow T148).op.newr (Nat.le_refl _)⟩
     refine L_nw (Al.cells [nv 0, nv 0, nv 0, nv 0, nv 0, .nilIface]) .ptr rfl rfl kr ?_
     have l149_t6 := c132.lt
     have l149_t8 := c138.lt
     have c149 : Cl (h148.push (Al.cells [nv 0, nv 0, nv 0, nv 0, nv 0, .nilIface]).obj) h148.next [nv 0, nv 0, nv 0, nv 0, nv 0, .nilIface] := Cl.new h148 _
     have t149 : Sm Nix h148 (h148.push (Al.cells [nv 0, nv 0, nv 0, nv 0, nv 0, .nilIface]).obj) := .push h148 _
     have n149 : (h148.push (Al.cells [nv 0, nv 0, nv 0, nv 0, nv 0, .nilIface]).obj).next = h148.next + 1 := rfl
     generalize h148.push (Al.cells [nv 0, nv 0, nv 0, nv 0, nv 0, .nilIface]).obj = h149 at c149 t149 n149 ⊢
     replace c132 := c132.ext t149
     replace c138 := c138.ext t149
     have T149 : Sm (Ow h (⟨Gh.B (A18x3 G d va133 vc133), S137, C137, ro137⟩ : Gh)) h137 h149 := T148.ext t149
     have N149 := T149.nx
     obtain ⟨h150, e150, d150, t150, n150⟩ := c149.sA 117 [.int .i64 0, .int .i64 0, .int .i64 0, .int .i64 0, .int .i64 0, .nilIface]
     replace c132 := c132.sn t150
     replace c138 := c138.sn t150
     replace c149 := d150
     have T150 : Sm (Ow h (⟨Gh.B (A18x3 G d va133 vc133), S137, C137, ro137⟩ : Gh)) h137 h150 := T149.trans t150 (fun x hx => by have hx : x = h148.next := hx; subst hx; first | exact .inr (by omega) | exact .inl ⟨by omega, m149.1, m149.2⟩ | exact .inl rfl)
     have N150 := T150.nx
     refine L_st _ rfl rfl rfl kr kr (e150) (L_g 1 kr (L_nil (W_sg 1 kr (L_nil ?_))))
     refine W_cond false kr (fun e => by cases e) (fun _ => ?_)
     refine W_drawn kr (D_e (e := 4) (l := [0,1,2,3]) (s' := []) kr kr rfl kr Rk_nil (NS_b 3 kr (NS_ld _ rfl rfl kr kr kr (c132.ld (o := 0) kr rfl) (NS_nil (L_c rfl rfl kr (putq_rq (R137.ow T150) hp hr_137 hlr) ?_)))))
     rintro v151 h151 N151
     dsimp only at N151
     obtain ⟨S151, C151, ro151, R151, Y151⟩ := N151
     have X151 := ((X137).ow T150).trans Y151
     have hr_151 := (Y151.keep _ hr_137).1
     have mZ6_134_135_136_137_151 : ¬ (Gh.mut ⟨Gh.B (A18x3 G d va133 vc133), S151, C151, ro151⟩) (h.next) ∧ ¬ (Gh.ro ⟨Gh.B (A18x3 G d va133 vc133), S151, C151, ro151⟩) (h.next) := ⟨fun hm => (Y151.mu _ hm).elim mZ6_134_135_136_137.1 (fun e => by have := c132.lt; omega), fun hm => (Y151.ron _ hm).elim mZ6_134_135_136_137.2 (fun e => by have := c132.lt; omega)⟩
     have m138_151 : ¬ (Gh.mut ⟨Gh.B (A18x3 G d va133 vc133), S151, C151, ro151⟩) (h137.next) ∧ ¬ (Gh.ro ⟨Gh.B (A18x3 G d va133 vc133), S151, C151, ro151⟩) (h137.next) := ⟨fun hm => (Y151.mu _ hm).elim m138.1 (fun e => by have := c138.lt; omega), fun hm => (Y151.ron _ hm).elim m138.2 (fun e => by have := c138.lt; omega)⟩
     have m149_151 : ¬ (Gh.mut ⟨Gh.B (A18x3 G d va133 vc133), S151, C151, ro151⟩) (h148.next) ∧ ¬ (Gh.ro ⟨Gh.B (A18x3 G d va133 vc133), S151, C151, ro151⟩) (h148.next) := ⟨fun hm => (Y151.mu _ hm).elim m149.1 (fun e => by have := c149.lt; omega), fun hm => (Y151.ron _ hm).elim m149.2 (fun e => by have := c149.lt; omega)⟩
     have T151 : Sm (Ow h (⟨Gh.B (A18x3 G d va133 vc133), S151, C151, ro151⟩ : Gh)) h151 h151 := .refl
     refine L_nil ⟨rfl, ?_⟩
     refine D_l (l := []) kr kr Rk_nil (NS_nil ?_)
     repeat with_reducible refine blk_norm ?_
     refine done_of (v := .tuple ⟨[]⟩) (.inr rfl) kr ?_
     exact ⟨_, _, _, (R151.ow T151), ((X151).ow T151)⟩
end
end Go.Proofs.Ytmehemeoaplepaa
namespace Go.Proofs.Ytmehemeoaplepaa
noncomputable section
open Go Go.X Go.Arm Go.Mt
theorem req_ok {W : Wd} {G : Gh} {h : AH} {p no : Nat} (R : Rep W G h) (hp : p < W.n) (hm : no ∈ (W.pr p).reqs) :
  Arm.Calls Try.prog 51 [ptr (G.B .wd), nv (p : Int), nv (no : Int)] h (fun r => r.1 = .tuple ⟨[ptr (G.B (.rq p no)), nv 0]⟩ ∧ Sm Nix h r.2) := by
 refine Calls_W 29 Try.f51 ?_
 have T0 : Sm Nix h h := .refl
 refine W_sg 2 kr (L_nil (W_sg 2 kr (L_c rfl rfl kr (at_ok (R.ext T0) hp) ?_)))
 rintro v152 h152 ⟨e152, t152⟩
 try dsimp only at e152
 try dsimp only at t152
 subst e152
 have T152 := T0.ext t152
 have N152 := T152.nx
 have M152 := t152.nx
 refine L_g 5 kr (L_nil (W_seq (W_sg 2 kr (L_nil ?_))))
 refine W_cond false kr (fun e => by cases e) (fun _ => ?_)
 refine W_skip (W_sg 3 kr (L_ld _ rfl rfl kr (((R.ext T152).prL hp).ld (o := 1) kr rfl) (L_g 1 kr (L_lk _ rfl rfl kr kr (look_rq (R.ext T152) hp hm) (L_g 1 kr (L_nil (W_seq (W_seq (W_region ?_)))))))))
 refine L_g 2 kr (L_nil ?_)
 refine W_cond false kr (fun e => by cases e) (fun _ => ?_)
 refine W_skip (W_sg 3 kr (L_nil (W_ret ?_)))
 repeat first | with_reducible refine then_ret ?_ | with_reducible refine blk_ret ?_
 refine done_of (v := .tuple ⟨[ptr (G.B (.rq p no)), nv 0]⟩) (.inl rfl) kr ?_
 exact ⟨rfl, T152⟩
theorem begun_ok {W : Wd} {G : Gh} {h : AH} {p no : Nat} (R : Rep W G h) (hp : p < W.n) (hm : no ∈ (W.pr p).reqs) (h2 : (W.rq p no).act = true) :
  Arm.Calls Try.prog 35 [ptr (G.B .wd), nv (p : Int), nv (no : Int)] h (fun r => r.1 = .tuple ⟨[ptr (G.B (.rq p no)), nv 0]⟩ ∧ Sm Nix h r.2) := by
 have hr := (R.rel.pr p hp).rqp no hm
 obtain ⟨dv0, hd0, c0⟩ := R.rqL hp hr
 replace c0 : Arm.Cl h (G.B (.rq p no)) [nk (W.rq p no).no, nv (W.rq p no).peer, nv (W.rq p no).ctx, nv (W.rq p no).tag, nv (W.rq p no).room, .bool (W.rq p no).send, .bool (W.rq p no).sync, .bool (W.rq p no).pers, .bool (W.rq p no).act, .bool (W.rq p no).done, nk (W.rq p no).parts, nk (W.rq p no).size, dv0, G.S (.pcs p no), nk (W.rq p no).gone, G.S (.snt p no), .bool (W.rq p no).clr, nv (W.rq p no).st.src, nv (W.rq p no).st.tag, nv (W.rq p no).st.size, nv (W.rq p no).st.err] := c0
 refine Calls_W 28 Try.f35 ?_
 have T0 : Sm Nix h h := .refl
 refine W_sg 2 kr (L_nil (W_sg 3 kr (L_c rfl rfl kr (req_ok (R.ext T0) hp hm) ?_)))
 rintro v158 h158 ⟨e158, t158⟩
 try dsimp only at e158
 try dsimp only at t158
 subst e158
 have T158 := T0.ext t158
 have N158 := T158.nx
 have M158 := t158.nx
 refine L_g 5 kr (L_nil (W_seq (W_block (W_sg 3 kr (L_nil ?_)))))
 refine W_cond false kr (fun e => by cases e) (fun _ => ?_)
 refine W_sg 3 kr (L_ld _ rfl rfl kr (((c0.ext T158).ld (o := 8) kr (by rw [← h2]; rfl) : aLoad Try.prog 4 ⟨G.B (.rq p no), 8, none⟩ h158 = some (.bool true))) (L_g 2 kr (L_nil ?_)))
 refine W_cond false kr (fun e => by cases e) (fun _ => ?_)
 refine W_skip (W_sg 3 kr (L_nil (W_ret ?_)))
 repeat first | with_reducible refine then_ret ?_ | with_reducible refine blk_ret ?_
 refine done_of (v := .tuple ⟨[ptr (G.B (.rq p no)), nv 0]⟩) (.inl rfl) kr ?_
 exact ⟨rfl, T158⟩
theorem chan_ok {W : Wd} {G : Gh} {h : AH} {p q : Nat} (R : Rep W G h) (hp : p < W.n) (hq : q < W.n) :
  Arm.Calls Try.prog 33 [ptr (G.B .wd), nv (p : Int), nv (q : Int)] h (fun r => r.1 = nv 0 ∧ Sm Nix h r.2) := by
 refine Calls_W 27 Try.f33 ?_
 have T0 : Sm Nix h h := .refl
 refine W_sg 1 kr (L_nil (W_seq (W_sg 2 kr (L_c rfl rfl kr (at_ok (R.ext T0) hp) ?_))))
 rintro v161 h161 ⟨e161, t161⟩
 try dsimp only at e161
 try dsimp only at t161
 subst e161
 have T161 := T0.ext t161
 have N161 := T161.nx
 have M161 := t161.nx
 refine L_g 5 kr (L_nil (W_sg 2 kr (L_nil ?_)))
 refine W_cond false kr (fun e => by cases e) (fun _ => ?_)
 refine W_skip (W_sg 2 kr (L_c rfl rfl kr (at_ok (R.ext T161) hq) ?_))
 rintro v162 h162 ⟨e162, t162⟩
 try dsimp only at e162
 try dsimp only at t162
 subst e162
 have T162 := T161.ext t162
 have N162 := T162.nx
 have M162 := t162.nx
 refine L_g 5 kr (L_nil (W_sg 2 kr (L_nil (W_ret ?_))))
 repeat first | with_reducible refine then_ret ?_ | with_reducible refine blk_ret ?_
 refine done_of (v := nv 0) (.inl rfl) kr ?_
 exact ⟨rfl, T162⟩
theorem prog_ok {W : Wd} {G : Gh} {h : AH} {p : Nat} {W' : Wd} (R : Rep W G h) (hp : p < W.n) (he : W.call p = some W') :
  Arm.Calls Try.prog 34 [ptr (G.B .wd), nv (p : Int)] h (fun r => r.1 = .tuple ⟨[nv ((W.pr p).inb.length : Int), nv 0]⟩ ∧ Nxt W' G h r.2) := by
 refine Calls_W 20 Try.f34 ?_
 have T0 : Sm Nix h h := .refl
 refine W_sg 2 kr (L_nil (W_seq (W_sg 2 kr (L_c rfl rfl kr (at_ok (R.ext T0) hp) ?_))))
 rintro v163 h163 ⟨e163, t163⟩
 try dsimp only at e163
 try dsimp only at t163
 subst e163
 have T163 := T0.ext t163
 have N163 := T163.nx
 have M163 := t163.nx
 refine L_g 5 kr (L_nil (W_sg 2 kr (L_nil ?_)))
 refine W_cond false kr (fun e => by cases e) (fun _ => ?_)
 refine W_skip (W_sg 2 kr (L_c rfl rfl kr (call_ok (R.ext T163) hp he) ?_))
 rintro v164 h164 ⟨e164, N164⟩
 dsimp only at e164 N164
 subst e164
 obtain ⟨S164, C164, ro164, R164, Y164⟩ := N164
 have X164 := ((Gx.refl).trans (Gx.of T163)).trans Y164
 have T164 : Sm (Ow h (⟨Gh.B G, S164, C164, ro164⟩ : Gh)) h164 h164 := .refl
 refine L_g 2 kr (L_nil (W_ret ?_))
 repeat first | with_reducible refine then_ret ?_ | with_reducible refine blk_ret ?_
 refine done_of (v := .tuple ⟨[nv ((W.pr p).inb.length : Int), nv 0]⟩) (.inl rfl) kr ?_
 exact ⟨rfl, _, _, _, (R164.ow T164), ((X164).ow T164)⟩
end
end Go.Proofs.Ytmehemeoaplepaa
namespace Go.Proofs.Ytmehemeoaplepaa
noncomputable section
open Go Go.X Go.Arm Go.Mt
theorem kdel_reqs {f : Nat → Value} {l : List Nat} {k : Nat} : kdel (l.map fun (x : Nat) => ((x : Int), f x)) (k : Int) = (l.erase k).map fun (x : Nat) => ((x : Int), f x) := by
 induction l with
 | nil => rfl
 | cons x l ih =>
  rw [List.map_cons]
  unfold kdel
  rw [List.erase_cons]
  by_cases e : x = k
  · subst e; rw [if_pos rfl]; simp
  · rw [if_neg (show ¬ ((x : Int) = (k : Int)) by omega), if_neg (by simpa using e), List.map_cons, ih]
theorem over_ok {W : Wd} {G : Gh} {h : AH} {p no : Nat} (R : Rep W G h) (hp : p < W.n) (hr : G.C (.rq p no) ≠ .no) :
   Arm.Calls Try.prog 37 [ptr (G.B .wd), nv (p : Int), ptr (G.B (.rq p no))] h (fun r => Nxt (W.over p no) G h r.2) := by
 by_cases h1 : (W.rq p no).pers = true
 · have e : W.over p no = W.setRq p no { W.rq p no with act := false } := if_pos h1
   rw [e]
   refine Calls_W 28 Try.f37 ?_
   have T0 : Sm Nix h h := .refl
   refine W_seq (W_region (L_g 3 kr ?_))
   obtain ⟨dv9, hd9, c9⟩ := (R.ext T0).rqL hp hr
   replace c9 : Cl h (Gh.B G (.rq p no)) [nk (W.rq p no).no, nv (W.rq p no).peer, nv (W.rq p no).ctx, nv (W.rq p no).tag, nv (W.rq p no).room, .bool (W.rq p no).send, .bool (W.rq p no).sync, .bool (W.rq p no).pers, .bool (W.rq p no).act, .bool (W.rq p no).done, nk (W.rq p no).parts, nk (W.rq p no).size, dv9, G.S (.pcs p no), nk (W.rq p no).gone, G.S (.snt p no), .bool (W.rq p no).clr, nv (W.rq p no).st.src, nv (W.rq p no).st.tag, nv (W.rq p no).st.size, nv (W.rq p no).st.err] := c9
   obtain ⟨h165, e165, d165, t165, n165⟩ := c9.s1 4 8 (.bool false)
   have N165 : Nxt (W.setRq p no { (W.rq p no) with act := false }) G h h165 := (R.ext T0).stRq hp hr (r := { (W.rq p no) with act := false }) hd9 d165 t165 rfl rfl rfl
   clear hd9
   refine L_st _ rfl rfl rfl kr kr (e165) ?_
   obtain ⟨S165, C165, ro165, R165, Y165⟩ := N165
   have X165 := ((Gx.refl).trans (Gx.of T0)).trans Y165
   have hr_165 := (Y165.keep _ hr).1
   have T165 : Sm (Ow h (⟨Gh.B G, S165, C165, ro165⟩ : Gh)) h165 h165 := .refl
   obtain ⟨dvz, hdz, cz⟩ := R165.rqL (p := p) hp hr_165
   rw [Wd.setRq_at] at hdz cz
   replace cz : Arm.Cl h165 (G.B (.rq p no)) [nk (W.rq p no).no, nv (W.rq p no).peer, nv (W.rq p no).ctx, nv (W.rq p no).tag, nv (W.rq p no).room, .bool (W.rq p no).send, .bool (W.rq p no).sync, .bool (W.rq p no).pers, .bool false, .bool (W.rq p no).done, nk (W.rq p no).parts, nk (W.rq p no).size, dvz, (⟨G.B, S165, C165, ro165⟩ : Gh).S (.pcs p no), nk (W.rq p no).gone, (⟨G.B, S165, C165, ro165⟩ : Gh).S (.snt p no), .bool (W.rq p no).clr, nv (W.rq p no).st.src, nv (W.rq p no).st.tag, nv (W.rq p no).st.size, nv (W.rq p no).st.err] := cz
   refine L_nil (W_sg 3 kr (L_ld _ rfl rfl kr (((cz.sm T165 (fun hx => hx.2.1 ⟨.rq p no, hr_165, rfl⟩)).ld (o := 7) kr (by rw [← h1]; rfl) : aLoad Try.prog 4 ⟨G.B (.rq p no), 7, none⟩ h165 = some (.bool true))) (L_g 1 kr (L_nil ?_))))
   refine W_cond false kr (fun e => by cases e) (fun _ => ?_)
   refine W_skip ?_
   repeat with_reducible refine blk_norm ?_
   refine done_of (v := .tuple ⟨[]⟩) (.inr rfl) kr ?_
   exact ⟨_, _, _, (R165.ow T165), ((X165).ow T165)⟩
 · have e : W.over p no = (W.setRq p no { W.rq p no with act := false }).setPr p { W.pr p with reqs := (W.pr p).reqs.erase (W.rq p no).no } := if_neg h1
   rw [e]
   have h1 : (W.rq p no).pers = false := by simpa using h1
   refine Calls_W 28 Try.f37 ?_
   have T0 : Sm Nix h h := .refl
   refine W_seq (W_region (L_g 3 kr ?_))
   obtain ⟨dv9, hd9, c9⟩ := (R.ext T0).rqL hp hr
   replace c9 : Cl h (Gh.B G (.rq p no)) [nk (W.rq p no).no, nv (W.rq p no).peer, nv (W.rq p no).ctx, nv (W.rq p no).tag, nv (W.rq p no).room, .bool (W.rq p no).send, .bool (W.rq p no).sync, .bool (W.rq p no).pers, .bool (W.rq p no).act, .bool (W.rq p no).done, nk (W.rq p no).parts, nk (W.rq p no).size, dv9, G.S (.pcs p no), nk (W.rq p no).gone, G.S (.snt p no), .bool (W.rq p no).clr, nv (W.rq p no).st.src, nv (W.rq p no).st.tag, nv (W.rq p no).st.size, nv (W.rq p no).st.err] := c9
   obtain ⟨h166, e166, d166, t166, n166⟩ := c9.s1 4 8 (.bool false)
   have N166 : Nxt (W.setRq p no { (W.rq p no) with act := false }) G h h166 := (R.ext T0).stRq hp hr (r := { (W.rq p no) with act := false }) hd9 d166 t166 rfl rfl rfl
   clear hd9
   refine L_st _ rfl rfl rfl kr kr (e166) ?_
   obtain ⟨S166, C166, ro166, R166, Y166⟩ := N166
   have X166 := ((Gx.refl).trans (Gx.of T0)).trans Y166
   have hr_166 := (Y166.keep _ hr).1
   have T166 : Sm (Ow h (⟨Gh.B G, S166, C166, ro166⟩ : Gh)) h166 h166 := .refl
   obtain ⟨dvz, hdz, cz⟩ := R166.rqL (p := p) hp hr_166
   rw [Wd.setRq_at] at hdz cz
   replace cz : Arm.Cl h166 (G.B (.rq p no)) [nk (W.rq p no).no, nv (W.rq p no).peer, nv (W.rq p no).ctx, nv (W.rq p no).tag, nv (W.rq p no).room, .bool (W.rq p no).send, .bool (W.rq p no).sync, .bool (W.rq p no).pers, .bool false, .bool (W.rq p no).done, nk (W.rq p no).parts, nk (W.rq p no).size, dvz, (⟨G.B, S166, C166, ro166⟩ : Gh).S (.pcs p no), nk (W.rq p no).gone, (⟨G.B, S166, C166, ro166⟩ : Gh).S (.snt p no), .bool (W.rq p no).clr, nv (W.rq p no).st.src, nv (W.rq p no).st.tag, nv (W.rq p no).st.size, nv (W.rq p no).st.err] := cz
   refine L_nil (W_sg 3 kr (L_ld _ rfl rfl kr (((cz.sm T166 (fun hx => hx.2.1 ⟨.rq p no, hr_166, rfl⟩)).ld (o := 7) kr (by rw [← h1]; rfl) : aLoad Try.prog 4 ⟨G.B (.rq p no), 7, none⟩ h166 = some (.bool false))) (L_g 1 kr (L_nil ?_))))
   refine W_cond true kr (fun _ => ?_) (fun e => by cases e)
   refine W_drawn kr (D_e (e := 14) (l := [0,1,2,3,4,5,6,7,8,9,10,11,12,13]) (s' := []) kr kr rfl kr Rk_nil (NS_b 3 kr (NS_ld _ rfl rfl kr kr kr ((R166.ow T166).wdL.ld (o := 1) kr rfl) (NS_b 1 kr ?_))))
   obtain ⟨b1, o1, i1, l1⟩ := (R166.ow T166).prsAt (P := Try.prog) (T := 74) (el := 77) kr kr kr hp
   refine NS_ix _ rfl rfl kr kr kr kr (i1) (NS_ld _ rfl rfl kr kr kr (l1) (NS_b 2 kr (NS_ld _ rfl rfl kr kr kr (((R166.ow T166).prL hp).ld (o := 1) kr rfl) (NS_b 3 kr (NS_ld _ rfl rfl kr kr kr ((cz.sm T166 (fun hx => hx.2.1 ⟨.rq p no, hr_166, rfl⟩)).ld (o := 0) kr rfl) (NS_nil ?_))))))
   have hE := (R166.ow T166).rqs (p := p) hp
   obtain ⟨h167, e167, mp167, t167, n167⟩ := hE.1.delete (P := Try.prog) (T := 78) (el := 103) kr kNum ((W.rq p no).no : Int)
   have e9 := kdel_reqs (f := fun k => ptr (Gh.B (⟨Gh.B G, S166, C166, ro166⟩ : Gh) (.rq p k))) (l := (W.pr p).reqs) (k := (W.rq p no).no)
   have mp9167 : Mp h167 (Gh.B (⟨Gh.B G, S166, C166, ro166⟩ : Gh) (.rqs p)) nv Eq (((W.pr p).reqs.erase (W.rq p no).no).map fun (k : Nat) => ((k : Int), ptr (Gh.B (⟨Gh.B G, S166, C166, ro166⟩ : Gh) (.rq p k)))) := e9 ▸ mp167
   have N167 : Nxt ((W.setRq p no { W.rq p no with act := false }).setPr p { W.pr p with reqs := (W.pr p).reqs.erase (W.rq p no).no }) (⟨Gh.B G, S166, C166, ro166⟩ : Gh) h166 h167 := (R166.ow T166).setRqs (p := p) hp (fun k hk => ((R166.ow T166).rel.pr p hp).rqp k (List.mem_of_mem_erase hk)) mp9167 (hE.2.delete e167) t167
   refine L_bi _ _ rfl rfl kr kr (bi_delete e167) ?_
   obtain ⟨S167, C167, ro167, R167, Y167⟩ := N167
   have X167 := ((X166).ow T166).trans Y167
   have hr_167 := (Y167.keep _ hr_166).1
   have T167 : Sm (Ow h (⟨Gh.B (⟨Gh.B G, S166, C166, ro166⟩ : Gh), S167, C167, ro167⟩ : Gh)) h167 h167 := .refl
   refine L_nil ⟨rfl, ?_⟩
   refine D_l (l := []) kr kr Rk_nil (NS_nil ?_)
   repeat with_reducible refine blk_norm ?_
   refine done_of (v := .tuple ⟨[]⟩) (.inr rfl) kr ?_
   exact ⟨_, _, _, (R167.ow T167), ((X167).ow T167)⟩
end
end Go.Proofs.Ytmehemeoaplepaa
namespace Go.Proofs.Ytmehemeoaplepaa
noncomputable section
open Go Go.X Go.Arm Go.Mt
theorem check_qt {W : Wd} {G : Gh} {h : AH} {p : Nat} {q : Nat} {ctx : Int} {tag : Int} {wild : Bool} (R : Rep W G h) (hp : p < W.n) (hq : q < W.n) (hc0 : 0 ≤ ctx) (hc1 : ctx ≤ 1048576) (ht0 : 0 ≤ tag) (ht1 : tag ≤ 1048576) :
  Arm.Calls Try.prog 30 [ptr (G.B .wd), nv (p : Int), nv (q : Int), nv ctx, nv tag, .bool wild] h (fun r => r.1 = nv 0 ∧ Sm Nix h r.2) := by
 refine Calls_W 69 Try.f30 ?_
 have T0 : Sm Nix h h := .refl
 refine W_sg 1 kr (L_nil (W_seq (W_sg 2 kr (L_c rfl rfl kr (at_ok (R.ext T0) hp) ?_))))
 rintro v184 h184 ⟨e184, t184⟩
 try dsimp only at e184
 try dsimp only at t184
 subst e184
 have T184 := T0.ext t184
 have N184 := T184.nx
 have M184 := t184.nx
 refine L_g 5 kr (L_nil (W_sg 2 kr (L_nil ?_)))
 refine W_cond false kr (fun e => by cases e) (fun _ => ?_)
 refine W_skip (W_seq (W_sg 2 kr (L_c rfl rfl kr (at_ok (R.ext T184) hq) ?_)))
 rintro v185 h185 ⟨e185, t185⟩
 try dsimp only at e185
 try dsimp only at t185
 subst e185
 have T185 := T184.ext t185
 have N185 := T185.nx
 have M185 := t185.nx
 refine L_g 5 kr (L_nil (W_sg 14 kr (L_nil ?_)))
 refine W_cond false kr (fun e => by cases e) (fun _ => ?_)
 refine W_skip (W_seq (W_block (W_sg 1 kr (L_i (ctx) (0) (.bool false) rfl rfl kr kr rfl (by first | (simp; done) | (simp; omega)) (L_g 2 kr (L_want kr (L_i (ctx) (1048576) (.bool false) rfl rfl kr kr rfl (by first | (simp; done) | (simp; omega)) (L_g 2 kr (L_nil ?_)))))))))
 refine W_cond false kr (fun e => by cases e) (fun _ => ?_)
 refine W_sg 1 kr (L_i (tag) (0) (.bool false) rfl rfl kr kr rfl (by first | (simp; done) | (simp; omega)) (L_g 2 kr (L_want kr (L_i (tag) (1048576) (.bool false) rfl rfl kr kr rfl (by first | (simp; done) | (simp; omega)) (L_g 10 kr (L_nil ?_))))))
 refine W_cond false kr (fun e => by cases e) (fun _ => ?_)
 refine W_skip (W_sg 1 kr (L_nil (W_ret ?_)))
 repeat first | with_reducible refine then_ret ?_ | with_reducible refine blk_ret ?_
 refine done_of (v := nv 0) (.inl rfl) kr ?_
 exact ⟨rfl, T185⟩
end
end Go.Proofs.Ytmehemeoaplepaa


