/- Worlds of the program and walks of its functions. -/
import Derived.Test.YtmehemeoaplepaaZp
import Derived.Test.YtmehemeoaplepaaZj
import Derived.Test.YtmehemeoaplepaaZl
import Derived.Test.YtmehemeoaplepaaZn
namespace Go.Proofs.Ytmehemeoaplepaa
noncomputable section
open Go Go.X Go.Arm Go.Mt
theorem look_way {W : Wd} {G : Gh} {h : AH} {a b : Int} (R : Rep W G h) : aLookup Try.prog 73 (.map (some (G.B .ways))) (k2 (a, b)) false h = some (G.S (.way a b)) := by
 obtain ⟨m, hm, hmb, hmC, hmS⟩ := R.ways
 rcases hm.lookup (P := Try.prog) (T := 73) (kt := 96) (el := 97) (z := .slice none 0 0) kr k_way kr (a, b) false with ⟨h1, h2⟩ | ⟨v, y, h1, h2, h3⟩
 · rw [← hmS a b, h1]; exact h2
 · rw [← hmS a b, h1, ← h2]; exact h3
theorem deliver_no {W : Wd} {G : Gh} {h : AH} {a b : Nat} (R : Rep W G h) (ha : a < W.n) (hb : b < W.n) (hw : W.way a b = []) :
  Arm.Calls Try.prog 13 [ptr (G.B .wd), nv (a : Int), nv (b : Int)] h (fun r => r.1 = .tuple ⟨[.bool false, nv 0]⟩ ∧ Sm Nix h r.2) := by
 obtain ⟨csg, hgw, lsg⟩ := R.way (a : Int) (b : Int)
 refine Calls_of_W (n := 71) (fn := Try.f13) kr rfl rfl (Nat.le_of_ble_eq_true rfl) trivial ⟨.inr (by simp), rfl⟩ ?_
 have T0 : Sm Nix h h := .refl
 refine W_seq ?_
 refine W_region ?_
 refine L_g 2 kr ?_
 refine L_nil ?_
 refine W_seq ?_
 refine W_seq ?_
 refine W_region ?_
 refine L_g 3 kr ?_
 refine L_c rfl rfl kr (chan_ok (R.ext T0) ha hb) ?_
 rintro v261 h261 ⟨e261, t261⟩
 try dsimp only at e261
 try dsimp only at t261
 subst e261
 have T261 : Sm Nix h h261 := T0.ext t261
 have N261 := T261.nx
 have M261 := t261.nx
 refine L_g 1 kr ?_
 refine L_nil ?_
 refine W_seq ?_
 refine W_region ?_
 refine L_g 2 kr ?_
 refine L_nil ?_
 refine W_cond false kr (fun e => by cases e) (fun _ => ?_)
 refine W_skip ?_
 refine W_seq ?_
 refine W_region ?_
 refine L_g 3 kr ?_
 refine L_nw (Al.cells [nv 0, nv 0]) .ptr rfl rfl kr ?_
 have m262 : ¬ (Gh.mut G) h261.next ∧ ¬ (Gh.ro G) h261.next := ⟨(R.ext T261).op.new (Nat.le_refl _), (R.ext T261).op.newr (Nat.le_refl _)⟩
 have c262 : Cl (h261.push (Al.cells [nv 0, nv 0]).obj) h261.next [nv 0, nv 0] := Cl.new h261 _
 have t262 : Sm Nix h261 (h261.push (Al.cells [nv 0, nv 0]).obj) := .push h261 _
 have n262 : (h261.push (Al.cells [nv 0, nv 0]).obj).next = h261.next + 1 := rfl
 generalize h261.push (Al.cells [nv 0, nv 0]).obj = h262 at c262 t262 n262 ⊢
 have T262 : Sm Nix h h262 := T261.ext t262
 have N262 := T262.nx
 obtain ⟨h263, e263, d263, t263, n263⟩ := Cl.storeN (P := Try.prog) (T := 96) (n := 2) (v := .agg ⟨[nv (a : Int), nv (b : Int)]⟩) (cs := [nv (a : Int), nv (b : Int)]) c262 rfl kr rfl rfl (List.all_eq_true.1 rfl)
 replace c262 := d263
 have T263 : Sm Nix h h263 := T262.trans t263 (fun x hx => by have hx : x = h261.next := hx; first | exact .inr (by omega) | exact .inl (by subst hx; first | rfl | exact .inl rfl | exact .inr rfl | exact .inr (.inl rfl) | exact .inr (.inr rfl) | (show _ < _; omega)))
 have N263 := T263.nx
 refine L_st _ rfl rfl rfl kr kr (e263) ?_
 refine L_nil ?_
 refine W_seq ?_
 refine W_seq ?_
 refine W_drawn kr ?_
 refine D_l (l := [0, 1, 2, 3, 4, 5, 6, 7]) kr kr Rk_nil ?_
 refine NS_b 3 kr ?_
 refine NS_ld _ rfl rfl kr kr kr ((R.ext T263).wdL.ld (o := 2) kr rfl) ?_
 refine NS_ld _ rfl rfl kr kr kr (Cl.allN (n := 2) c262 rfl kr) ?_
 refine NS_lk _ rfl rfl kr kr kr kr (look_way (a := (a : Int)) (b := (b : Int)) (R.ext T263)) ?_
 refine NS_ln _ rfl rfl kr kr kr ((hgw.ext T263).lenV (T := 97) (el := 99) kr) ?_
 refine NS_i (((W.way a b).length : Int)) (0) (.bool true) rfl rfl kr kr kr kr rfl (by rw [hw]; rfl) ?_
 refine NS_nil ?_
 refine W_cond true kr (fun _ => ?_) (fun e => by cases e)
 refine W_seq ?_
 refine W_region ?_
 refine L_g 2 kr ?_
 refine L_nil ?_
 refine W_ret ?_
 repeat first | with_reducible refine then_ret ?_ | with_reducible refine blk_ret ?_
 refine done_of (v := .tuple ⟨[.bool false, nv 0]⟩) (.inl rfl) kr ?_
 exact ⟨rfl, T263⟩
set_option maxHeartbeats 1000000 in
theorem deliver_ok {W : Wd} {G : Gh} {h : AH} {a b : Nat} {x : Pk} {l : List Pk} (R : Rep W G h) (ha : a < W.n) (hb : b < W.n) (hw : W.way a b = x :: l) (hbig : (W.pr b).inb.length < big) :
  Arm.Calls Try.prog 13 [ptr (G.B .wd), nv (a : Int), nv (b : Int)] h (fun r => r.1 = .tuple ⟨[.bool true, nv 0]⟩ ∧ Nxt ((W.setWay a b l).setPr b { W.pr b with inb := (W.pr b).inb ++ [((a : Int), x)] }) G h r.2) := by
 have hbig : (W.pr b).inb.length < 1000000000 := hbig
 obtain ⟨csg, hgw, lsg⟩ := R.way (a : Int) (b : Int)
 obtain ⟨c0, ⟨v0, hv0, rfl⟩, hcl0, hcc0⟩ := lsg.get (i := 0) (x := x) (by rw [hw]; rfl)
 obtain ⟨ty, u, rfl⟩ := hv0.iface
 have hc0 : csg[0 * 1 + 0]? = some (Value.iface ty u) := hcc0 0 (by decide)
 refine Calls_of_W (n := 71) (fn := Try.f13) kr rfl rfl (Nat.le_of_ble_eq_true rfl) trivial ⟨.inr (by simp), rfl⟩ ?_
 have T0 : Sm Nix h h := .refl
 refine W_seq ?_
 refine W_region ?_
 refine L_g 2 kr ?_
 refine L_nil ?_
 refine W_seq ?_
 refine W_seq ?_
 refine W_region ?_
 refine L_g 3 kr ?_
 refine L_c rfl rfl kr (chan_ok (R.ext T0) ha hb) ?_
 rintro v264 h264 ⟨e264, t264⟩
 try dsimp only at e264
 try dsimp only at t264
 subst e264
 have T264 : Sm Nix h h264 := T0.ext t264
 have N264 := T264.nx
 have M264 := t264.nx
 refine L_g 1 kr ?_
 refine L_nil ?_
 refine W_seq ?_
 refine W_region ?_
 refine L_g 2 kr ?_
 refine L_nil ?_
 refine W_cond false kr (fun e => by cases e) (fun _ => ?_)
 refine W_skip ?_
 refine W_seq ?_
 refine W_region ?_
 refine L_g 3 kr ?_
 refine L_nw (Al.cells [nv 0, nv 0]) .ptr rfl rfl kr ?_
 have m265 : ¬ (Gh.mut G) h264.next ∧ ¬ (Gh.ro G) h264.next := ⟨(R.ext T264).op.new (Nat.le_refl _), (R.ext T264).op.newr (Nat.le_refl _)⟩
 have c265 : Cl (h264.push (Al.cells [nv 0, nv 0]).obj) h264.next [nv 0, nv 0] := Cl.new h264 _
 have t265 : Sm Nix h264 (h264.push (Al.cells [nv 0, nv 0]).obj) := .push h264 _
 have n265 : (h264.push (Al.cells [nv 0, nv 0]).obj).next = h264.next + 1 := rfl
 generalize h264.push (Al.cells [nv 0, nv 0]).obj = h265 at c265 t265 n265 ⊢
 have T265 : Sm Nix h h265 := T264.ext t265
 have N265 := T265.nx
 obtain ⟨h266, e266, d266, t266, n266⟩ := Cl.storeN (P := Try.prog) (T := 96) (n := 2) (v := .agg ⟨[nv (a : Int), nv (b : Int)]⟩) (cs := [nv (a : Int), nv (b : Int)]) c265 rfl kr rfl rfl (List.all_eq_true.1 rfl)
 replace c265 := d266
 have T266 : Sm Nix h h266 := T265.trans t266 (fun x hx => by have hx : x = h264.next := hx; first | exact .inr (by omega) | exact .inl (by subst hx; first | rfl | exact .inl rfl | exact .inr rfl | exact .inr (.inl rfl) | exact .inr (.inr rfl) | (show _ < _; omega)))
 have N266 := T266.nx
 refine L_st _ rfl rfl rfl kr kr (e266) ?_
 refine L_nil ?_
 refine W_seq ?_
 refine W_seq ?_
 refine W_drawn kr ?_
 refine D_l (l := [0, 1, 2, 3, 4, 5, 6, 7]) kr kr Rk_nil ?_
 refine NS_b 3 kr ?_
 refine NS_ld _ rfl rfl kr kr kr ((R.ext T266).wdL.ld (o := 2) kr rfl) ?_
 refine NS_ld _ rfl rfl kr kr kr (Cl.allN (n := 2) c265 rfl kr) ?_
 refine NS_lk _ rfl rfl kr kr kr kr (look_way (a := (a : Int)) (b := (b : Int)) (R.ext T266)) ?_
 refine NS_ln _ rfl rfl kr kr kr ((hgw.ext T266).lenV (T := 97) (el := 99) kr) ?_
 refine NS_i (((W.way a b).length : Int)) (0) (.bool false) rfl rfl kr kr kr kr rfl (by rw [hw]; simp; omega) ?_
 refine NS_nil ?_
 refine W_cond false kr (fun e => by cases e) (fun _ => ?_)
 refine W_skip ?_
 refine W_seq ?_
 refine W_drawn kr ?_
 refine D_e (e := 28) (l := [0, 1, 2, 3, 4, 5, 6, 7, 8, 9, 10, 11, 12, 13, 14, 15, 16, 17, 18, 19, 20, 21, 22, 23, 24, 25, 26, 27]) (s' := [0, 1, 2, 3, 4, 5, 6]) kr kr rfl kr Rk_nil ?_
 refine NS_b 3 kr ?_
 refine NS_ld _ rfl rfl kr kr kr ((R.ext T266).wdL.ld (o := 1) kr rfl) ?_
 refine NS_b 1 kr ?_
 obtain ⟨b1, o1, i1, l1, v1⟩ := (R.ext T266).prsAt2 (P := Try.prog) (T := 74) (el := 77) kr kr kr hb
 have lt1 := (R.ext T266).prsL.lt v1
 refine NS_ix _ rfl rfl kr kr kr kr (i1) ?_
 refine NS_ld _ rfl rfl kr kr kr (l1) ?_
 refine NS_b 3 kr ?_
 refine NS_ld _ rfl rfl kr kr kr ((R.ext T266).wdL.ld (o := 1) kr rfl) ?_
 refine NS_b 1 kr ?_
 refine NS_ix _ rfl rfl kr kr kr kr (i1) ?_
 refine NS_ld _ rfl rfl kr kr kr (l1) ?_
 refine NS_b 2 kr ?_
 refine NS_ld _ rfl rfl kr kr kr (((R.ext T266).prL hb).ld (o := 3) kr rfl) ?_
 refine NS_b 4 kr ?_
 refine NS_ld _ rfl rfl kr kr kr ((R.ext T266).wdL.ld (o := 2) kr rfl) ?_
 refine NS_ld _ rfl rfl kr kr kr (Cl.allN (n := 2) c265 rfl kr) ?_
 refine NS_lk _ rfl rfl kr kr kr kr (look_way (a := (a : Int)) (b := (b : Int)) (R.ext T266)) ?_
 obtain ⟨b9, o9, v9, i9, l9⟩ := (hgw.sd.ext T266).at (P := Try.prog) (T := 97) (el := 99) kr kr (show 0 < (W.way a b).length by rw [hw]; simp) .i64
 have lt9 := (hgw.ext T266).lt v9
 refine NS_ix _ rfl rfl kr kr kr kr (i9) ?_
 refine NS_ld _ rfl rfl kr kr kr (ld_cell kr (by have := l9 0 (by decide); rw [this]; exact hc0)) ?_
 refine NS_b 1 kr ?_
 refine NS_newR (Al.cells [nv (a : Int), .iface ty u]) (.sl 1 1) rfl kr rfl rfl kr (Rk_1 rfl rfl (Rk_1 rfl rfl (Rk_1 rfl rfl (Rk_ld _ rfl rfl rfl kr ((R.ext (T266.ext (.push h266 _))).wdL.ld (o := 1) kr rfl) kr (Rk_1 rfl rfl (Rk_1 rfl rfl (Rk_ld _ rfl rfl rfl kr (ldx (l1) (lt1) (.push h266 _)) kr (Rk_1 rfl rfl (Rk_1 rfl rfl (Rk_1 rfl rfl (Rk_ld _ rfl rfl rfl kr ((R.ext (T266.ext (.push h266 _))).wdL.ld (o := 1) kr rfl) kr (Rk_1 rfl rfl (Rk_1 rfl rfl (Rk_ld _ rfl rfl rfl kr (ldx (l1) (lt1) (.push h266 _)) kr (Rk_1 rfl rfl (Rk_1 rfl rfl (Rk_ld _ rfl rfl rfl kr (((R.ext (T266.ext (.push h266 _))).prL hb).ld (o := 3) kr rfl) kr (Rk_1 rfl rfl (Rk_1 rfl rfl (Rk_1 rfl rfl (Rk_1 rfl rfl (Rk_ld _ rfl rfl rfl kr ((R.ext (T266.ext (.push h266 _))).wdL.ld (o := 2) kr rfl) kr (Rk_ld _ rfl rfl rfl kr (Cl.allN (n := 2) (c265.ext (.push h266 _)) rfl kr) kr (Rk_lk _ rfl rfl rfl kr kr (look_way (a := (a : Int)) (b := (b : Int)) (R.ext (T266.ext (.push h266 _)))) kr (Rk_1 rfl rfl (Rk_ld _ rfl rfl rfl kr (ldx (ld_cell kr (by have := l9 0 (by decide); rw [this]; exact hc0)) (lt9) (.push h266 _)) kr (Rk_1 rfl rfl (Rk_1 rfl rfl Rk_nil)))))))))))))))))))))))))))) ?_
 have m267 : ¬ (Gh.mut G) h266.next ∧ ¬ (Gh.ro G) h266.next := ⟨(R.ext T266).op.new (Nat.le_refl _), (R.ext T266).op.newr (Nat.le_refl _)⟩
 have c267 : Cl (h266.push (Al.cells [nv (a : Int), .iface ty u]).obj) h266.next [nv (a : Int), .iface ty u] := Cl.new h266 _
 have t267 : Sm Nix h266 (h266.push (Al.cells [nv (a : Int), .iface ty u]).obj) := .push h266 _
 have n267 : (h266.push (Al.cells [nv (a : Int), .iface ty u]).obj).next = h266.next + 1 := rfl
 generalize h266.push (Al.cells [nv (a : Int), .iface ty u]).obj = h267 at c267 t267 n267 ⊢
 replace c265 := c265.ext t267
 have T267 : Sm Nix h h267 := T266.ext t267
 have N267 := T267.nx
 refine NS_nil ?_
 obtain ⟨csi, gi, lsi⟩ := (R.ext T267).inb hb
 obtain ⟨v268, h268, e268, g268, t268, f268⟩ := gi.append (P := Try.prog) (sT := 81) (xT := 81) (el := 101) (by_ := 24) (z := (.agg ⟨[.int .i64 0, .nilIface]⟩)) (m := 1) (ds := [nv (a : Int), .iface ty u]) kr kr kr kr kr rfl (by decide) (cl_sdk 2 c267 rfl) (List.all_eq_true.1 rfl) (by omega)
 obtain ⟨va, vc, rfl⟩ := g268.sd.form
 have l9' := c265.lt
 have inbC : G.C (.inb b) ≠ .no := by obtain ⟨cs, e, _⟩ := (R.rel.pr b hb).inb; rw [e]; simp
 have hnw1 : ¬ vb (G.S (.inb b)) = some (G.B .wd) := fun e => R.op.ne (r := .inb b) (r' := .wd) inbC (by rw [R.rel.wd]; simp) (by simp) (vb_vbx e) rfl
 have hnw2 : ∀ x, vb (G.S (.inb b)) = some x → ¬ vb (G.S .prs) = some x := fun x e e2 => R.op.ne (r := .inb b) (r' := .prs) inbC (by rw [R.rel.prs]; simp) (by simp) (vb_vbx e) (vb_vbx e2)
 have mK9 := m265
 have mK5 := m267
 refine L_bi (.slice va ((W.pr b).inb.length + 1) vc) h268 rfl rfl kr (vs := [G.S (.inb b), .slice (some ⟨h266.next, 0, none⟩) 1 1]) kr (bi_append e268) ?_
 replace c265 := c265.sm t268 (by first | exact fun e => mK9.1 ⟨.inb b, inbC, vb_vbx e⟩ | exact fun e => mK5.1 ⟨.inb b, inbC, vb_vbx e⟩)
 replace c267 := c267.sm t268 (by first | exact fun e => mK9.1 ⟨.inb b, inbC, vb_vbx e⟩ | exact fun e => mK5.1 ⟨.inb b, inbC, vb_vbx e⟩)
 have T268 : Sm (fun c => vb (G.S (.inb b)) = some c) h267 h268 := t268
 have N268 := T268.nx
 refine L_nil ⟨rfl, ?_⟩
 refine D_e (e := 31) (l := [29, 30]) (s' := []) kr kr rfl kr (Rk_1 rfl rfl (Rk_1 rfl rfl (Rk_1 rfl rfl (Rk_ld _ rfl rfl rfl kr (((R.ext T267).wdL.sm T268 hnw1).ld (o := 1) kr rfl) kr (Rk_1 rfl rfl (Rk_1 rfl rfl (Rk_ld _ rfl rfl rfl kr (ld_sm kr (ld_sm kr l1 t267 lt1 (fun x => x)) T268 (Nat.lt_of_lt_of_le lt1 (t267).nx) (fun e => hnw2 b1 e v1)) kr Rk_nil))))))) ?_
 refine NS_b 2 kr ?_
 refine NS_nil ?_
 have Rb := R.ext T267
 have hnw : ¬ vb (G.S (.inb b)) = some (G.B (.pr b)) := fun e => Rb.op.ne (r := .inb b) (r' := .pr b) (by obtain ⟨cs, e, _⟩ := (Rb.rel.pr b hb).inb; rw [e]; simp) (by rw [(Rb.rel.pr b hb).pr]; simp) (by simp) (vb_vbx e) rfl
 obtain ⟨h269, e269, d269, t269, n269⟩ := ((Rb.prL hb).sm T268 hnw).store (P := Try.prog) (T := 81) (o := 3) (v := .slice va ((W.pr b).inb.length + 1) vc) kr rfl rfl (by simp [prC])
 have hlen : ((W.pr b).inb ++ [((a : Int), x)]).length = (W.pr b).inb.length + 1 := by simp
 rw [← hlen] at d269
 have hN := Rb.setInb hb (l := (W.pr b).inb ++ [((a : Int), x)]) (lsi.app (Ls.one ⟨_, hv0.mono (R.op.dr (T267).of), rfl⟩ rfl)) (by rw [hlen]; exact g268) T268 (fun c hc => .inl hc) (fun c hc => by rw [hlen] at hc; exact f268 c hc) d269 t269
 obtain ⟨S9, C9, ro9, R9, Y9⟩ := hN
 have X9 := (Gx.of T267).trans Y9
 have l99 := c265.lt
 have mA9 : ¬ (Gh.mut ⟨G.B, S9, C9, ro9⟩) (h264.next) ∧ ¬ ro9 (h264.next) := ⟨fun hm => (Y9.mu _ hm).elim mK9.1 (fun e => by omega), fun hm => (Y9.ron _ hm).elim mK9.2 (fun e => by omega)⟩
 have hpl := R.prLt hb
 refine L_st _ rfl rfl rfl kr kr (e269) ?_
 replace c265 := c265.sm t269 (show ¬ _ = _ by omega)
 have T269 : Sm (Ow h ⟨G.B, S9, C9, ro9⟩) h269 h269 := .refl
 refine L_nil ⟨rfl, ?_⟩
 refine D_l (l := []) kr kr Rk_nil ?_
 refine NS_nil ?_
 refine W_seq ?_
 refine W_drawn kr ?_
 refine D_e (e := 12) (l := [0, 1, 2, 3, 4, 5, 6, 7, 8, 9, 10, 11]) (s' := []) kr kr rfl kr Rk_nil ?_
 refine NS_b 3 kr ?_
 refine NS_ld _ rfl rfl kr kr kr ((R9.ow T269).wdL.ld (o := 2) kr rfl) ?_
 refine NS_ld _ rfl rfl kr kr kr (Cl.allN (n := 2) c265 rfl kr) ?_
 refine NS_b 3 kr ?_
 refine NS_ld _ rfl rfl kr kr kr ((R9.ow T269).wdL.ld (o := 2) kr rfl) ?_
 refine NS_ld _ rfl rfl kr kr kr (Cl.allN (n := 2) c265 rfl kr) ?_
 refine NS_lk _ rfl rfl kr kr kr kr (look_way (a := (a : Int)) (b := (b : Int)) (R9.ow T269)) ?_
 obtain ⟨csw, gw, lsw⟩ := (R9.ow T269).way (a : Int) (b : Int)
 have gw : Gr h269 1 (S9 (.way (a : Int) (b : Int))) (W.way a b).length csw := gw
 have lsw : Ls (RPk h269 ro9) 1 (W.way a b) csw := lsw
 rw [hw] at gw lsw
 obtain ⟨vt, et, gt, bt⟩ := gw.tailK (P := Try.prog) (T := 97) (el := 99) kr kr
 obtain ⟨cw, _, hcl9, _, lst⟩ := lsw.tail
 refine NS_sl _ rfl rfl kr kr kr kr kr kr (et) ?_
 refine NS_nil ?_
 obtain ⟨m9, hm9, hmb9, hmC9, hmN9, hmS9⟩ := (R9.ow T269).waysN
 obtain ⟨h270, e270, mp270, t270, n270⟩ := hm9.update (P := Try.prog) (T := 73) (el := 97) kr k_way ((a : Int), (b : Int)) (v := vt) (y := vt) rfl
 have N270 : Nxt ((W.setPr b { W.pr b with inb := (W.pr b).inb ++ [((a : Int), x)] }).setWay a b l) (⟨G.B, S9, C9, ro9⟩ : Gh) h269 h270 := (R9.ow T269).setWay a b (l := l) (v := vt) (kset_nodup hmN9 _ _) (hw_kset (G := (⟨G.B, S9, C9, ro9⟩ : Gh)) hmS9) lst gt Sm.refl (fun c hc => (show False from hc).elim) (fun c hc => .inl (bt ▸ hc)) mp270 (hmb9.update e270) t270
 refine L_mu _ rfl rfl rfl kr kr kr e270 ?_
 obtain ⟨S270, C270, ro270, R270, Y270⟩ := N270
 have X270 := ((X9).ow T269).trans Y270
 have mA9_270 : ¬ (Gh.mut ⟨Gh.B (⟨G.B, S9, C9, ro9⟩ : Gh), S270, C270, ro270⟩) (h264.next) ∧ ¬ (Gh.ro ⟨Gh.B (⟨G.B, S9, C9, ro9⟩ : Gh), S270, C270, ro270⟩) (h264.next) := ⟨fun hm => (Y270.mu _ hm).elim mA9.1 (fun e => by have := c265.lt; omega), fun hm => (Y270.ron _ hm).elim mA9.2 (fun e => by have := c265.lt; omega)⟩
 replace c265 := c265.sm Y270.sm mA9.1
 have T270 : Sm (Ow h (⟨Gh.B (⟨G.B, S9, C9, ro9⟩ : Gh), S270, C270, ro270⟩ : Gh)) h270 h270 := .refl
 refine L_nil ⟨rfl, ?_⟩
 refine D_l (l := []) kr kr Rk_nil ?_
 refine NS_nil ?_
 refine W_seq ?_
 refine W_region ?_
 refine L_g 2 kr ?_
 refine L_nil ?_
 refine W_ret ?_
 repeat first | with_reducible refine then_ret ?_ | with_reducible refine blk_ret ?_
 refine done_of (v := .tuple ⟨[.bool true, nv 0]⟩) (.inl rfl) kr ?_
 have ew : (W.setPr b { W.pr b with inb := (W.pr b).inb ++ [((a : Int), x)] }).setWay (a : Int) (b : Int) l = (W.setWay (a : Int) (b : Int) l).setPr b { W.pr b with inb := (W.pr b).inb ++ [((a : Int), x)] } := rfl
 exact ⟨rfl, _, _, _, ew ▸ (R270.ow T270), ((X270).ow T270)⟩
end
end Go.Proofs.Ytmehemeoaplepaa
namespace Go.Proofs.Ytmehemeoaplepaa
noncomputable section
open Go Go.X Go.Arm Go.Mt
theorem gt_nat (n : Nat) : Value.bool (decide ((0 : Int) < (n : Int))) = Value.bool (decide (0 < n)) := by
 congr 1; by_cases h : 0 < n <;> simp [h]
theorem kget_memk {κ β : Type} [DecidableEq κ] {l : List (κ × β)} {k : κ} {n : β} (h : kget l k = some n) : ∃ x, x ∈ l ∧ x.1 = k := by
 induction l with
 | nil => cases h
 | cons y l ih =>
  unfold kget at h
  split at h
  · rename_i e; exact ⟨y, List.mem_cons.2 (.inl rfl), e⟩
  · obtain ⟨x, h1, h2⟩ := ih h; exact ⟨x, List.mem_cons_of_mem _ h1, h2⟩
theorem quiet_iff {W : Wd} (hw : ∀ a b, W.way a b = []) : (!((List.range W.n).findIdx? (fun p => decide (0 < (W.pr p).inb.length))).isSome) = true ↔ W.quiet := by
 cases hf : (List.range W.n).findIdx? (fun p => decide (0 < (W.pr p).inb.length)) with
 | none =>
  refine ⟨fun _ => ⟨hw, fun p hp => ?_⟩, fun _ => rfl⟩
  have := List.findIdx?_eq_none_iff.1 hf p (List.mem_range.2 hp)
  have h0 : ¬ 0 < (W.pr p).inb.length := by simpa using this
  exact List.length_eq_zero_iff.1 (by omega)
 | some i =>
  refine ⟨(fun h => by cases h), fun hq => ?_⟩
  rw [List.findIdx?_eq_some_iff_getElem] at hf
  obtain ⟨h1, h2, _⟩ := hf
  simp at h1 h2
  have := hq.2 i h1
  rw [this] at h2; simp at h2
theorem ixf_pr {h : AH} {s : Value} {g : FuncId} {cs : List Value} {α : Type} {l : List α} {pr : α → Bool} (H : Sd h 1 s l.length cs) (hl : l.length < big) (hg : ∀ vs h, aCallX Try.prog g vs h = some [(.enter g vs, h)])
  (hc : ∀ (i : Nat) x, l[i]? = some x → ∃ v, cs[i]? = some v ∧ ∀ h', Sm Nix h h' → Arm.Calls Try.prog g [v] h' (fun r => r.1 = .bool (pr x) ∧ Sm Nix h' r.2)) :
  Arm.Calls Try.prog 58 [s, .func (.func g) ⟨[]⟩ ⟨[]⟩] h (fun r => r.1 = nv (match l.findIdx? pr with | some i => (i : Int) | none => -1) ∧ Sm Nix h r.2) := by
 have hl : l.length < 1000000000 := hl
 refine Calls_of_W (n := 19) (fn := Try.f58) kr rfl rfl (Nat.le_of_ble_eq_true rfl) trivial ⟨.inr (by simp), rfl⟩ ?_
 have T0 : Sm Nix h h := .refl
 refine W_seq ?_
 refine W_region ?_
 refine L_g 1 kr ?_
 refine L_nil ?_
 refine W_seq ?_
 refine W_seq ?_
 refine W_region ?_
 refine L_g 1 kr ?_
 refine L_ln _ rfl rfl kr ((H.ext T0).len (T := 74) (el := 77) kr) ?_
 refine L_g 1 kr ?_
 refine L_nil ?_
 refine W_block ?_
 refine W_loop (fun mm fr hh => ∃ (k : Nat), (k ≤ l.length) ∧ (l.findIdx? pr = ((l.drop k).findIdx? pr).map (· + k)) ∧ mm = l.length - k ∧ fr 0 = s ∧ fr 1 = .func (.func g) ⟨[]⟩ ⟨[]⟩ ∧ fr 7 = nv (l.length : Int) ∧ fr 8 = nv (k : Int) ∧ Sm Nix h hh) (l.length) ?_ ?_
 ·
  exact ⟨0, Nat.zero_le _, by simp, rfl, kr, kr, kr, kr, T0⟩
 rintro mm278 fr278 h278 ⟨k, hk, hf, hm278, y278_0, y278_1, y278_7, y278_8, T278⟩
 have N278 := T278.nx
 refine W_set (k := 0) y278_0 ?_
 refine W_set (k := 1) y278_1 ?_
 refine W_set (k := 7) y278_7 ?_
 refine W_set (k := 8) y278_8 ?_
 refine W_seq ?_
 refine W_region ?_
 refine L_g 1 kr ?_
 refine L_nil ?_
 refine W_seq ?_
 refine W_cond (decide ((k : Int) < (l.length : Nat))) kr (fun hb => ?_) (fun hb => ?_)
 ·
  have hlt : k < l.length := by simp at hb; omega
  obtain ⟨x, hx⟩ : ∃ x, l[k]? = some x := ⟨_, List.getElem?_eq_getElem hlt⟩
  have hdr : l.drop k = x :: l.drop (k + 1) := by rw [List.drop_eq_getElem_cons hlt]; congr 1; exact (List.getElem?_eq_some_iff.1 hx).2
  obtain ⟨v, hv, hcall⟩ := hc k x hx
  obtain ⟨b9, o9, _, i9, l9⟩ := (H.ext T278).at (P := Try.prog) (T := 74) (el := 77) kr kr hlt .i64
  refine W_skip ?_
  refine W_seq ?_
  refine W_block ?_
  refine W_seq ?_
  refine W_region ?_
  refine L_g 2 kr ?_
  refine L_nil ?_
  refine W_seq ?_
  refine W_region ?_
  refine L_g 3 kr ?_
  refine L_ix _ rfl rfl kr kr (i9) ?_
  refine L_ld _ rfl rfl kr (ld_cell kr (by have := l9 0 (by decide); rw [Nat.add_zero, Nat.mul_one, Nat.add_zero] at this; rw [this]; exact hv)) ?_
  refine L_c rfl rfl (Eq.trans (b := aCallX Try.prog g [v] h278) kr (hg _ _)) (hcall _ T278) ?_
  rintro v279 h279 ⟨e279, t279⟩
  try dsimp only at e279
  try dsimp only at t279
  subst e279
  have T279 : Sm Nix h h279 := T278.ext t279
  have N279 := T279.nx
  have M279 := t279.nx
  refine L_nil ?_
  refine W_cond (pr x) kr (fun hb => ?_) (fun hb => ?_)
  ·
   have hres : nv (match l.findIdx? pr with | some i => (i : Int) | none => -1) = nv (k : Int) := by rw [hf, hdr, List.findIdx?_cons, hb]; simp
   rw [hres]
   refine W_seq ?_
   refine W_region ?_
   refine L_g 2 kr ?_
   refine L_nil ?_
   refine W_ret ?_
   repeat first | with_reducible refine then_ret ?_ | with_reducible refine blk_ret ?_
   refine done_of (v := nv (k : Int)) (.inl rfl) kr ?_
   exact ⟨rfl, T279⟩
  ·
   have hfb : pr x = false := hb
   refine W_skip ?_
   refine W_region ?_
   refine L_i ((k : Int)) (1) (nv ((k + 1 : Nat) : Int)) rfl rfl kr kr rfl (inc_ok (by omega)) ?_
   refine L_g 1 kr ?_
   refine L_nil ?_
   exact ⟨l.length - (k + 1), by omega, k + 1, by omega, find_step hf hdr hfb, rfl, kr, kr, kr, kr, T279⟩
 ·
  have hge : k = l.length := by simp at hb; omega
  have hres : nv (match l.findIdx? pr with | some i => (i : Int) | none => -1) = nv (-1) := by rw [hf, hge]; simp
  rw [hres]
  refine W_exit ?_
  repeat with_reducible refine then_exit ?_
  refine exit_here ?_
  refine W_seq ?_
  refine W_region ?_
  refine L_g 1 kr ?_
  refine L_nil ?_
  refine W_ret ?_
  repeat first | with_reducible refine then_ret ?_ | with_reducible refine blk_ret ?_
  refine done_of (v := nv (-1)) (.inl rfl) kr ?_
  exact ⟨rfl, T278⟩
theorem quiet1_ok {W : Wd} {G : Gh} {h : AH} {p : Nat} (R : Rep W G h) (hp : p < W.n) :
  Arm.Calls Try.prog 49 [ptr (G.B (.pr p))] h (fun r => r.1 = .bool (decide (0 < (W.pr p).inb.length)) ∧ Sm Nix h r.2) := by
 obtain ⟨cs, g0, ls⟩ := R.inb hp
 refine Calls_of_W (n := 9) (fn := Try.f49) kr rfl rfl (Nat.le_of_ble_eq_true rfl) trivial ⟨.inr (by simp), rfl⟩ ?_
 have T0 : Sm Nix h h := .refl
 refine W_seq ?_
 refine W_region ?_
 refine L_g 1 kr ?_
 refine L_nil ?_
 refine W_seq ?_
 refine W_region ?_
 refine L_g 3 kr ?_
 refine L_ld _ rfl rfl kr (((R.ext T0).prL hp).ld (o := 3) kr rfl) ?_
 refine L_ln _ rfl rfl kr ((g0.ext T0).lenV (T := 81) (el := 101) kr) ?_
 refine L_i (((W.pr p).inb.length : Int)) (0) (.bool (decide (0 < (W.pr p).inb.length))) rfl rfl kr kr rfl (gt_nat _) ?_
 refine L_g 1 kr ?_
 refine L_nil ?_
 refine W_ret ?_
 repeat first | with_reducible refine then_ret ?_ | with_reducible refine blk_ret ?_
 refine done_of (v := .bool (decide (0 < (W.pr p).inb.length))) (.inl rfl) kr ?_
 exact ⟨rfl, T0⟩
theorem qcf_ok {W : Wd} {G : Gh} {h : AH} (R : Rep W G h) (hn : W.n < big) :
  Arm.Calls Try.prog 48 [G.S .prs, .func (.func 49) ⟨[]⟩ ⟨[]⟩] h (fun r => r.1 = .bool ((List.range W.n).findIdx? (fun p => decide (0 < (W.pr p).inb.length))).isSome ∧ Sm Nix h r.2) := by
 have hix := ixf_pr (pr := fun p => decide (0 < (W.pr p).inb.length)) (l := List.range W.n) (by rw [List.length_range]; exact R.prsL) (by rw [List.length_range]; exact hn) (g := 49) (fun _ _ => rfl) (fun i x hx => by
  obtain ⟨hl, e⟩ := List.getElem?_eq_some_iff.1 hx
  simp at hl e; subst e
  exact ⟨_, by rw [List.getElem?_map, List.getElem?_range hl]; rfl, fun h' t => quiet1_ok (R.ext t) hl⟩)
 cases hf : (List.range W.n).findIdx? (fun p => decide (0 < (W.pr p).inb.length)) with
 | none =>
  rw [hf] at hix
  refine Calls_of_W (n := 9) (fn := Try.f48) kr rfl rfl (Nat.le_of_ble_eq_true rfl) trivial ⟨.inr (by simp), rfl⟩ ?_
  have T0 : Sm Nix h h := .refl
  refine W_seq ?_
  refine W_region ?_
  refine L_g 1 kr ?_
  refine L_nil ?_
  refine W_seq ?_
  refine W_region ?_
  refine L_g 2 kr ?_
  refine L_c rfl rfl kr (hix) ?_
  rintro v271 h271 ⟨e271, t271⟩
  try dsimp only at e271
  try dsimp only at t271
  subst e271
  have T271 : Sm Nix h h271 := T0.ext t271
  have N271 := T271.nx
  have M271 := t271.nx
  refine L_i (-1) (0) (.bool false) rfl rfl kr kr rfl (by first | (simp; done) | (simp; omega)) ?_
  refine L_g 1 kr ?_
  refine L_nil ?_
  refine W_ret ?_
  repeat first | with_reducible refine then_ret ?_ | with_reducible refine blk_ret ?_
  refine done_of (v := .bool false) (.inl rfl) kr ?_
  exact ⟨rfl, T271⟩
 | some i =>
  rw [hf] at hix
  refine Calls_of_W (n := 9) (fn := Try.f48) kr rfl rfl (Nat.le_of_ble_eq_true rfl) trivial ⟨.inr (by simp), rfl⟩ ?_
  have T0 : Sm Nix h h := .refl
  refine W_seq ?_
  refine W_region ?_
  refine L_g 1 kr ?_
  refine L_nil ?_
  refine W_seq ?_
  refine W_region ?_
  refine L_g 2 kr ?_
  refine L_c rfl rfl kr (hix) ?_
  rintro v272 h272 ⟨e272, t272⟩
  try dsimp only at e272
  try dsimp only at t272
  subst e272
  have T272 : Sm Nix h h272 := T0.ext t272
  have N272 := T272.nx
  have M272 := t272.nx
  refine L_i ((i : Int)) (0) (.bool true) rfl rfl kr kr rfl (by first | (simp; done) | (simp; omega)) ?_
  refine L_g 1 kr ?_
  refine L_nil ?_
  refine W_ret ?_
  repeat first | with_reducible refine then_ret ?_ | with_reducible refine blk_ret ?_
  refine done_of (v := .bool true) (.inl rfl) kr ?_
  exact ⟨rfl, T272⟩
theorem quiet_ok {W : Wd} {G : Gh} {h : AH} (R : Rep W G h) (hn : W.n < big) :
  Arm.Calls Try.prog 28 [ptr (G.B .wd)] h (fun r => ∃ b, r.1 = .bool b ∧ (b = true ↔ W.quiet) ∧ Sm Nix h r.2) := by
 obtain ⟨m, hm, hmb, hmC, hmN, hmS⟩ := R.waysN
 have hwl := R.waysLt
 refine Calls_of_W (n := 26) (fn := Try.f28) kr rfl rfl (Nat.le_of_ble_eq_true rfl) trivial ⟨.inr (by simp), rfl⟩ ?_
 have T0 : Sm Nix h h := .refl
 refine W_seq ?_
 refine W_region ?_
 refine L_g 1 kr ?_
 refine L_nil ?_
 refine W_seq ?_
 refine W_seq ?_
 refine W_region ?_
 refine L_g 1 kr ?_
 refine L_c rfl rfl kr (valid_ok (R.ext T0)) ?_
 rintro v273 h273 ⟨e273, t273⟩
 try dsimp only at e273
 try dsimp only at t273
 subst e273
 have T273 : Sm Nix h h273 := T0.ext t273
 have N273 := T273.nx
 have M273 := t273.nx
 refine L_g 1 kr ?_
 refine L_nil ?_
 refine W_cond false kr (fun e => by cases e) (fun _ => ?_)
 refine W_skip ?_
 refine W_seq ?_
 refine W_seq ?_
 refine W_region ?_
 refine L_g 3 kr ?_
 refine L_ld _ rfl rfl kr ((R.ext T273).wdL.ld (o := 2) kr rfl) ?_
 obtain ⟨h274, e274, ⟨c0, hI0⟩, t274, n274⟩ := Itr.start (P := Try.prog) (T := 73) (kt := 96) (el := 97) kr (hm.sm T273 (fun x => x) (fun _ _ e => e)) (hmb.sm T273 hm.1 (fun x => x))
 refine L_rg _ rfl rfl kr e274 ?_
 have T274 : Sm Nix h h274 := T273.ext t274
 have N274 := T274.nx
 refine L_nil ?_
 refine W_block ?_
 refine W_loop (fun mm fr hh => ∃ dn : Nat → Prop, Itr hh h273.next (G.B .ways) k2 Eq m dn mm ∧ Sm Nix h hh ∧ (∀ i x, m[i]? = some x → dn i → W.way x.1.1 x.1.2 = []) ∧ fr 0 = ptr (G.B .wd) ∧ fr 12 = .pointer (some ⟨h273.next, 0, none⟩)) (c0) ?_ ?_
 ·
  exact ⟨_, hI0, T274, fun i x _ hd => hd.elim, kr, kr⟩
 clear hI0
 rintro mm fr hh ⟨dn, hI, TL, hdn, y0, y12⟩
 refine W_set (k := 0) y0 ?_
 refine W_set (k := 12) y12 ?_
 have NL := TL.nx
 refine W_seq ?_
 refine W_region ?_
 refine L_nx rfl rfl kr hI (fun hall => ?_) (fun ie e vnx cnx hnx hie hndn hRv hcl hInx tnx nnx henx => ?_)
 ·
  have hway : ∀ a b, W.way a b = [] := by
   intro a b
   cases hk : kget m (a, b) with
   | none =>
    obtain ⟨csw, gw, _⟩ := R.way a b
    have hs := hmS a b
    rw [hk] at hs
    rw [← hs] at gw
    obtain ⟨a', c', e'⟩ := gw.sd.form
    have e' : Value.slice none 0 0 = Value.slice a' (W.way a b).length c' := e'
    cases hw : W.way a b with
    | nil => rfl
    | cons y l => rw [hw] at e'; cases e'
   | some v =>
    obtain ⟨x, hx, hxv⟩ := kget_memk hk
    obtain ⟨i, hi, hie⟩ := List.getElem_of_mem hx
    have := hdn i x (by rw [List.getElem?_eq_getElem hi, hie]) (hall i hi)
    rw [hxv] at this; exact this
  refine L_g 1 kr ?_
  refine L_nil ?_
  refine W_seq ?_
  refine W_cond false kr (fun e => by cases e) (fun _ => ?_)
  refine W_exit ?_
  repeat with_reducible refine then_exit ?_
  refine exit_here ?_
  refine W_seq ?_
  refine W_region ?_
  refine L_g 3 kr ?_
  refine L_ld _ rfl rfl kr ((R.ext TL).wdL.ld (o := 1) kr rfl) ?_
  refine L_c rfl rfl kr (qcf_ok (R.ext TL) hn) ?_
  rintro v276 h276 ⟨e276, t276⟩
  try dsimp only at e276
  try dsimp only at t276
  subst e276
  have T276 : Sm Nix h h276 := TL.ext t276
  have N276 := T276.nx
  have M276 := t276.nx
  refine L_g 2 kr ?_
  refine L_nil ?_
  refine W_ret ?_
  repeat first | with_reducible refine then_ret ?_ | with_reducible refine blk_ret ?_
  refine done_of (v := .bool (!((List.range W.n).findIdx? (fun p => decide (0 < (W.pr p).inb.length))).isSome)) (.inl rfl) kr ?_
  exact ⟨_, rfl, quiet_iff hway, T276⟩
 ·
  have Tnx : Sm Nix h hnx := TL.trans tnx (fun b hb => .inr (by have hb : b = h273.next := hb; omega))
  have Nnx := Tnx.nx
  have hge := kget_nodup hmN (List.mem_of_getElem? hie)
  have hse := hmS e.1.1 e.1.2
  rw [hge] at hse
  obtain ⟨csw, gw, _⟩ := R.way e.1.1 e.1.2
  rw [← hse, show (some e.2).getD nilS = vnx from hRv.symm] at gw
  refine L_g 1 kr ?_
  refine L_nil ?_
  refine W_seq ?_
  refine W_cond true kr (fun _ => ?_) (fun e => by cases e)
  refine W_skip ?_
  refine W_block ?_
  refine W_seq ?_
  refine W_region ?_
  refine L_p (.tuple ⟨[k2 e.1, vnx]⟩) rfl (by exact henx) ?_
  refine L_g 2 kr ?_
  refine L_nil ?_
  refine W_seq ?_
  by_cases hemp : W.way e.1.1 e.1.2 = []
  ·
   refine W_region ?_
   refine L_g 1 kr ?_
   refine L_ln _ rfl rfl kr ((gw.ext Tnx).lenV (T := 97) (el := 99) kr) ?_
   refine L_i (((W.way e.1.1 e.1.2).length : Int)) (0) (.bool false) rfl rfl kr kr rfl (by rw [hemp]; rfl) ?_
   refine L_nil ?_
   refine W_cond false kr (fun e => by cases e) (fun _ => ?_)
   refine W_skip ?_
   exact ⟨cnx, hcl, _, hInx, Tnx, fun i x hx hd => by
    rcases hd with rfl | hd
    · rw [hx] at hie; cases hie; exact hemp
    · exact hdn i x hx hd, kr, kr⟩
  ·
   refine W_region ?_
   refine L_g 1 kr ?_
   refine L_ln _ rfl rfl kr ((gw.ext Tnx).lenV (T := 97) (el := 99) kr) ?_
   refine L_i (((W.way e.1.1 e.1.2).length : Int)) (0) (.bool true) rfl rfl kr kr rfl (by have := List.length_pos_iff.2 hemp; simp; omega) ?_
   refine L_nil ?_
   refine W_cond true kr (fun _ => ?_) (fun e => by cases e)
   refine W_seq ?_
   refine W_region ?_
   refine L_g 1 kr ?_
   refine L_nil ?_
   refine W_ret ?_
   repeat first | with_reducible refine then_ret ?_ | with_reducible refine blk_ret ?_
   refine done_of (v := .bool false) (.inl rfl) kr ?_
   exact ⟨_, rfl, ⟨(fun e9 => by cases e9), fun hq => (hemp (hq.1 _ _)).elim⟩, Tnx⟩
end
end Go.Proofs.Ytmehemeoaplepaa
namespace Go.Arm
section
variable {N p i : Nat} {L : Lf} {x : TE}
end
end Go.Arm
namespace Go.Arm
section
variable {N : Nat} {L : Lf} {C : TC} {S : Sf}
theorem Inv.all (hC : Okc C) (hL : Okl N L) : ∀ (k : Nat) {S : Sf}, Inv N L S → Inv N L (allR N L C k S)
 | 0, S, I => I
 | k + 1, S, I => by
  unfold allR
  have h1 := (I.rnd hC hL N (Nat.le_refl _)).1
  split
  · exact Inv.all hC hL k h1
  · exact h1
structure Good (N : Nat) (L : Lf) (C : TC) : Prop where
 n0 : 0 < N
 n1 : N ≤ 64
 len : ∀ p, p < N → (L p).length ≤ 10000
 c : Okc C
 d : Dn N L (timesS N L C)
theorem Dn.at (D : Dn N L S) {p i : Nat} (h : i < (S p).length) : ∃ x s, (L p)[i]? = some x ∧ (S p)[i]? = some s ∧ okE N ((L p).take i) x = true ∧ p < N ∧
   (s.y = 0 ∧ s.w = 0 ∨ s.y = 1 ∧ x.k = 2 ∧ (∃ q j : Nat, x.p = (q : Int) ∧ q < N ∧ fnd (L q) 1 p x.n = some j ∧ j < (S q).length) ∨ s.y = 2 ∧ x.k = 3 ∧ ∃ c, opn L S x.n N = some (some c) ∧ c.2.1 < N ∧ c.2.2 < (S c.2.1).length) := by
 have hl : i < (L p).length := by rw [← D.d]; exact h
 have hx : (L p)[i]? = some (L p)[i] := List.getElem?_eq_getElem hl
 have hs : (S p)[i]? = some (S p)[i] := List.getElem?_eq_getElem h
 generalize (L p)[i] = x at hx
 generalize (S p)[i] = s at hs
 obtain ⟨rk, R⟩ := D.r
 have hp : p < N := by
   refine Nat.lt_of_not_le fun hle => ?_
   rw [D.g.hi p hle] at h; simp at h
 have hok := D.l.ev p i x hx
 refine ⟨x, s, hx, hs, hok, hp, ?_⟩
 obtain ⟨y1, y2, y3, y4⟩ := R.y1 p i x s hs hx
 rcases y3 with h0 | h1 | h2
 · exact .inl ⟨h0, y4 h0⟩
 · have hk := y1 h1
   refine .inr (.inl ⟨h1, hk, ?_⟩)
   unfold okE at hok
   rw [if_neg (by omega), if_pos hk] at hok
   simp [peerOk] at hok
   have hq : x.p = ((x.p.toNat : Nat) : Int) := by omega
   have hsn := D.l.snt p x (List.mem_of_getElem? hx) hk
   obtain ⟨j, hj⟩ := Option.isSome_iff_exists.1 hsn
   exact ⟨x.p.toNat, j, hq, by omega, hj, (R.rcv p i x h hx hk j hj).1⟩
 · have hk := y2 h2
   refine .inr (.inr ⟨h2, hk, ?_⟩)
   cases ho : opn L S x.n N with
   | none =>
    exfalso
    have : ∀ k, k ≤ N → opn L S x.n k ≠ none := by
     intro k
     induction k with
     | zero => intro _ h; cases h
     | succ k ih =>
      intro hk2 h3
      unfold opn at h3
      split at h3
      · rename_i h4; exact ih (by omega) h4
      · split at h3
        · cases h3
        · rename_i j hj
          split at h3
          · rename_i h5
            have := (R.mt p i x h hx hk k (by omega) j hj).1
            omega
          · cases h3
    exact this N (Nat.le_refl _) ho
   | some c =>
    cases c with
    | none =>
     exfalso
     have h6 := opn_one N ho p hp
     unfold fnd at h6
     rw [List.findIdx?_eq_none_iff] at h6
     have := h6 x (List.mem_of_getElem? hx)
     simp [fits, hk] at this
    | some c =>
     obtain ⟨_, _, hq, hf, _, hle⟩ := D.g.opn x.n N c ho
     refine ⟨c, rfl, hq, ?_⟩
     have h7 : c.2.2 < (L c.2.1).length := by
      unfold fnd at hf
      exact (List.findIdx?_eq_some_iff_findIdx_eq.1 hf).1
     rw [D.d]; exact h7
end
end Go.Arm
namespace Go.Arm
noncomputable section
open Go Go.X
section
variable {P : Program} {n : Nat} {T el : TypeId}
theorem ev_mkK {f : Fr} {x y : Operand} {m by_ k : Nat} {z : Value} (hT : P.underlying T = some (.slice el)) (hs : szOf P el = some k) (hb : byOf P el = some by_) (hz : zeroOf P el = some z) (hzl : (cellsL z).length = k) (hm : m * (by_ + 1) < 1099511627776)
  (hx : ev n f x = some (.int .i64 (m : Nat))) (hy : ev n f y = some (.int .i64 (m : Nat))) : evAl P n f (.makeSlice T x y) = some (.cells (zrep m (cellsL z)), .sl m m) := by
 have hm2 : m < 1099511627776 := by
  have : m * 1 ≤ m * (by_ + 1) := Nat.mul_le_mul_left _ (by omega)
  omega
 have e0 : evAl0 P n f (.makeSlice T x y) = some (.cells (zrep m (cellsL z)), .sl m m) := by
  unfold evAl0
  simp only [hx, hy, hT, hs, hb, hz]
  rw [if_pos ⟨by omega, by omega, by
   have h9 : ((m * (by_ + 1) : Nat) : Int) < ((1099511627776 : Nat) : Int) := Int.ofNat_lt.2 hm
   rw [Int.natCast_mul, Int.natCast_add] at h9
   exact h9, hzl⟩]
  simp only [Int.toNat_natCast]
 unfold evAl
 rw [e0]
 dsimp only
 rw [if_pos]
 show decide (m < open_) = true
 rw [decide_eq_true_eq]
 have : 1099511627776 < open_ := by decide
 omega
end
end
end Go.Arm
namespace Go.Arm
noncomputable section
open Go Go.X
section
variable {P : Program} {h : AH} {b n k : Nat} {T el : TypeId} {x y : Value}
theorem bnd_nat' (i d : Nat) : bnd (some (.int .i64 (i : Nat))) d = some i := by unfold bnd; simp
theorem slk_lo (hT : P.underlying T = some (.slice el)) (hk : szOf P el = some 1) (hkn : k < n) (hn : n < open_) : aSl P T (.slice (some ⟨b, 0, none⟩) n n) (some (.int .i64 (k : Nat))) none none h = some (.slice (some ⟨b, k, none⟩) (n - k) (n - k)) := by
 have : aSlice P T (.slice (some ⟨b, 0, none⟩) n n) (some (.int .i64 (k : Nat))) none none h = some (.slice (some ⟨b, k, none⟩) (n - k) (n - k)) := by
  unfold aSlice
  rw [if_pos (show mxOk none none = true from rfl)]
  simp only [hT, hk]
  rw [if_neg (by omega)]
  have e1 : bnd none n = some n := rfl
  simp only [e1, bnd_nat']
  rw [if_pos ⟨by omega, by omega, by omega, hn⟩, if_neg (by omega)]
  simp
 unfold aSl; rw [this]
theorem slk_hi (hT : P.underlying T = some (.slice el)) (hk : szOf P el = some 1) (hkn : k ≤ n) (h0 : 0 < n) (hn : n < open_) : aSl P T (.slice (some ⟨b, 0, none⟩) n n) none (some (.int .i64 (k : Nat))) none h = some (.slice (some ⟨b, 0, none⟩) k n) := by
 have : aSlice P T (.slice (some ⟨b, 0, none⟩) n n) none (some (.int .i64 (k : Nat))) none h = some (.slice (some ⟨b, 0, none⟩) k n) := by
  unfold aSlice
  rw [if_pos (show mxOk _ _ = true from rfl)]
  simp only [hT, hk]
  rw [if_neg (by omega)]
  have e1 : bnd none n = some n := rfl
  have e2 : bnd none 0 = some 0 := rfl
  simp only [e1, e2, bnd_nat']
  rw [if_pos ⟨by omega, by omega, by omega, hn⟩, if_neg (by omega)]
  simp
 unfold aSl; rw [this]
def row2 (x y : Value) (k n : Nat) : List Value := List.replicate k x ++ List.replicate (n - k) y
theorem row2_len (hk : k ≤ n) : (row2 x y k n).length = n := by unfold row2; simp; omega
theorem copy_row {o m : Nat} (hT : P.underlying T = some (.slice el)) (hz : szOf P el = some 1) {u : Value} {s : Nat} {dc : Nat} (hc : Cl h b (row2 x y k n)) (hk : k ≤ n) (hx : x.oneCell' = true) (hl : X.lenV u = some s) (hf : aFirst 1 (min s (n - o)) u h = some (List.replicate m x)) (hm : m = min s (n - o)) (ho : o ≤ k) (hon : o < n) (hs : 0 < s) (hkm : o + m ≥ k) (hdc : dc ≠ 0) :
   ∃ h', aCopy P T (.slice (some ⟨b, o, none⟩) (n - o) dc) u h = some (.int .i64 (m : Nat), h') ∧ Cl h' b (row2 x y (o + m) n) ∧ Sm (fun q => q = b) h h' ∧ h'.next = h.next := by
 obtain ⟨h2, e1, c1, s1, n1⟩ := Cl.setcs (o := o) (vs := List.replicate m x) (i := 0) hc (by rw [row2_len hk]; simp; omega) (fun v hv => by rw [(List.mem_replicate.1 hv).2]; exact hx)
 refine ⟨h2, ?_, ?_, s1, n1⟩
 · unfold aCopy
   simp only [hT, hl, hz, Option.getD_some, hf]
   rw [if_neg (by omega), if_neg (by omega), e1, hm]
 · have : row2 x y (o + m) n = (row2 x y k n).take (o + 0) ++ List.replicate m x ++ (row2 x y k n).drop (o + 0 + (List.replicate m x).length) := by
    unfold row2
    rw [Nat.add_zero, List.length_replicate, List.take_append_of_le_length (by simp; omega), List.take_replicate, Nat.min_eq_left ho, List.drop_append, List.length_replicate, List.drop_replicate, List.drop_replicate, show k - (o + m) = 0 by omega, ← List.replicate_append_replicate]
    simp
    omega
   rw [this]; exact c1
theorem first_row (hc : Cl h b (row2 x y k n)) (hk : k ≤ n) {m c : Nat} (hm : m ≤ k) (hc0 : c ≠ 0) : aFirst 1 m (.slice (some ⟨b, 0, none⟩) k c) h = some (List.replicate m x) := by
 by_cases h0 : m = 0
 · subst h0; simp [aFirst]
 · have hcl := hc.cells (o := 0) m 0 (by rw [row2_len hk]; omega)
   have ht : ((row2 x y k n).drop (0 + 0)).take m = List.replicate m x := by
    unfold row2
    rw [List.drop_zero, List.take_append_of_le_length (by simp; omega), List.take_replicate, Nat.min_eq_left hm]
   rw [ht] at hcl
   unfold aFirst
   dsimp only
   rw [if_neg h0, if_neg (by omega), Nat.mul_one]
   exact hcl
theorem zrep_row (n : Nat) (y : Value) : zrep n [y] = row2 x y 0 n := by
 unfold row2
 rw [List.replicate_zero, List.nil_append, Nat.sub_zero]
 induction n with
 | zero => rfl
 | succ n ih => rw [List.replicate_succ, ← ih]; rfl
end
end
end Go.Arm
namespace Go.Proofs.Ytmehemeoaplepaa
noncomputable section
open Go Go.X Go.Arm Go.Mt
theorem bi_copy {P : Program} {T U : TypeId} {d s v : Value} {h h' : AH} (e : aCopy P T d s h = some (v, h')) : aBuiltin P .copy [T, U] [d, s] h = some [(.val v, h')] := by
 show ovh (aCopy P T d s h) = _
 rw [e]; rfl
theorem add_nat {a b : Nat} (h : a + b < 1000000000) : Value.int .i64 (IntKind.i64.wrap ((a : Int) + (b : Int))) = nv ((a + b : Nat) : Int) := by
 have : IntKind.i64.wrap ((a : Int) + (b : Int)) = ((a + b : Nat) : Int) := by rw [IntKind.wrap_i64]; omega
 rw [this]; rfl
theorem mul64_ok {h : AH} {n : Nat} (hn : n = 1 ∨ n = 2 ∨ n = 3 ∨ n = 4 ∨ n = 5 ∨ n = 6 ∨ n = 7 ∨ n = 8) :
  Arm.Calls Try.prog 60 [.int .u64 1, .int .u64 (n : Int)] h (fun r => r.1 = .tuple ⟨[.int .u64 0, .int .u64 (n : Int)]⟩ ∧ Sm Nix h r.2) := by
 rcases hn with rfl | rfl | rfl | rfl | rfl | rfl | rfl | rfl
 all_goals
  refine Calls_of_W (n := 51) (fn := Try.f60) kr rfl rfl (Nat.le_of_ble_eq_true rfl) trivial ⟨.inr (by simp), rfl⟩ ?_
  have T0 : Sm Nix h h := .refl
  refine W_seq ?_
  refine W_region ?_
  refine L_g 2 kr ?_
  refine L_nil ?_
  refine W_seq ?_
  refine W_region ?_
  refine L_g 3 kr ?_
  refine L_nil ?_
  refine W_seq ?_
  refine W_region ?_
  refine L_g 3 kr ?_
  refine L_nil ?_
  refine W_seq ?_
  refine W_region ?_
  refine L_g 3 kr ?_
  refine L_nil ?_
  refine W_seq ?_
  refine W_region ?_
  refine L_g 3 kr ?_
  refine L_nil ?_
  refine W_seq ?_
  refine W_region ?_
  refine L_g 4 kr ?_
  refine L_nil ?_
  refine W_seq ?_
  refine W_region ?_
  refine L_g 7 kr ?_
  refine L_nil ?_
  refine W_seq ?_
  refine W_region ?_
  refine L_g 3 kr ?_
  refine L_nil ?_
  refine W_seq ?_
  refine W_region ?_
  refine L_g 3 kr ?_
  refine L_nil ?_
  refine W_seq ?_
  refine W_region ?_
  refine L_g 6 kr ?_
  refine L_nil ?_
  refine W_seq ?_
  refine W_region ?_
  refine L_g 9 kr ?_
  refine L_nil ?_
  refine W_seq ?_
  refine W_region ?_
  refine L_g 4 kr ?_
  refine L_nil ?_
  refine W_ret ?_
  repeat first | with_reducible refine then_ret ?_ | with_reducible refine blk_ret ?_
  first
   | (refine done_of (v := .tuple ⟨[.int .u64 0, .int .u64 ((1 : Nat) : Int)]⟩) (.inl rfl) kr ?_; exact ⟨rfl, T0⟩)
   | (refine done_of (v := .tuple ⟨[.int .u64 0, .int .u64 ((2 : Nat) : Int)]⟩) (.inl rfl) kr ?_; exact ⟨rfl, T0⟩)
   | (refine done_of (v := .tuple ⟨[.int .u64 0, .int .u64 ((3 : Nat) : Int)]⟩) (.inl rfl) kr ?_; exact ⟨rfl, T0⟩)
   | (refine done_of (v := .tuple ⟨[.int .u64 0, .int .u64 ((4 : Nat) : Int)]⟩) (.inl rfl) kr ?_; exact ⟨rfl, T0⟩)
   | (refine done_of (v := .tuple ⟨[.int .u64 0, .int .u64 ((5 : Nat) : Int)]⟩) (.inl rfl) kr ?_; exact ⟨rfl, T0⟩)
   | (refine done_of (v := .tuple ⟨[.int .u64 0, .int .u64 ((6 : Nat) : Int)]⟩) (.inl rfl) kr ?_; exact ⟨rfl, T0⟩)
   | (refine done_of (v := .tuple ⟨[.int .u64 0, .int .u64 ((7 : Nat) : Int)]⟩) (.inl rfl) kr ?_; exact ⟨rfl, T0⟩)
   | (refine done_of (v := .tuple ⟨[.int .u64 0, .int .u64 ((8 : Nat) : Int)]⟩) (.inl rfl) kr ?_; exact ⟨rfl, T0⟩)
theorem mul_ok {h : AH} {n : Nat} (hn : n = 1 ∨ n = 2 ∨ n = 3 ∨ n = 4 ∨ n = 5 ∨ n = 6 ∨ n = 7 ∨ n = 8) :
  Arm.Calls Try.prog 50 [.int .u64 1, .int .u64 (n : Int)] h (fun r => r.1 = .tuple ⟨[.int .u64 0, .int .u64 (n : Int)]⟩ ∧ Sm Nix h r.2) := by
 refine Calls_of_W (n := 30) (fn := Try.f50) kr rfl rfl (Nat.le_of_ble_eq_true rfl) trivial ⟨.inr (by simp), rfl⟩ ?_
 have T0 : Sm Nix h h := .refl
 refine W_seq ?_
 refine W_region ?_
 refine L_g 2 kr ?_
 refine L_nil ?_
 refine W_seq ?_
 refine W_cond false kr (fun e => by cases e) (fun _ => ?_)
 refine W_skip ?_
 refine W_seq ?_
 refine W_region ?_
 refine L_g 2 kr ?_
 refine L_c rfl rfl kr (mul64_ok hn) ?_
 rintro v280 h280 ⟨e280, t280⟩
 try dsimp only at e280
 try dsimp only at t280
 subst e280
 have T280 : Sm Nix h h280 := T0.ext t280
 have N280 := T280.nx
 have M280 := t280.nx
 refine L_g 5 kr ?_
 refine L_nil ?_
 refine W_seq ?_
 refine W_region ?_
 refine L_g 4 kr ?_
 refine L_nil ?_
 refine W_ret ?_
 repeat first | with_reducible refine then_ret ?_ | with_reducible refine blk_ret ?_
 refine done_of (v := .tuple ⟨[.int .u64 0, .int .u64 (n : Int)]⟩) (.inl rfl) kr ?_
 exact ⟨rfl, T280⟩
theorem repeat_ok {h : AH} {n b0 : Nat} {c : Int} (hc0 : Arm.Cl h b0 [nv c]) (hn : n = 1 ∨ n = 2 ∨ n = 3 ∨ n = 4 ∨ n = 5 ∨ n = 6 ∨ n = 7 ∨ n = 8) :
  Arm.Calls Try.prog 29 [.slice (some ⟨b0, 0, none⟩) 1 1, nv (n : Int)] h (fun r => ∃ bb, h.next ≤ bb ∧ Arm.Cl r.2 bb (List.replicate n (nv c)) ∧ r.1 = .slice (some ⟨bb, 0, none⟩) n n ∧ Sm Nix h r.2) := by
 have hn0 : 0 < n := by omega
 have hn9 : n < 9 := by omega
 have hop : n < open_ := Nat.lt_trans hn9 (by decide)
 have hbl := hc0.lt
 refine Calls_of_W (n := 48) (fn := Try.f29) kr rfl rfl (Nat.le_of_ble_eq_true rfl) trivial ⟨.inr (by simp), rfl⟩ ?_
 have T0 : Sm Nix h h := .refl
 refine W_seq ?_
 refine W_region ?_
 refine L_g 1 kr ?_
 refine L_nil ?_
 refine W_seq ?_
 refine W_seq ?_
 refine W_region ?_
 refine L_g 1 kr ?_
 refine L_i ((n : Int)) (0) (.bool false) rfl rfl kr kr rfl (by first | (simp; done) | (simp; omega)) ?_
 refine L_nil ?_
 refine W_cond false kr (fun e => by cases e) (fun _ => ?_)
 refine W_skip ?_
 refine W_seq ?_
 refine W_region ?_
 refine L_g 4 kr ?_
 refine L_p (.int .u64 (n : Int)) rfl (by rcases hn with rfl | rfl | rfl | rfl | rfl | rfl | rfl | rfl <;> kernel_rfl) ?_
 refine L_c rfl rfl kr (mul_ok hn) ?_
 rintro v281 h281 ⟨e281, t281⟩
 try dsimp only at e281
 try dsimp only at t281
 subst e281
 have T281 : Sm Nix h h281 := T0.ext t281
 have N281 := T281.nx
 have M281 := t281.nx
 refine L_g 5 kr ?_
 refine L_nil ?_
 refine W_seq ?_
 refine W_seq ?_
 refine W_region ?_
 refine L_g 4 kr ?_
 refine L_want kr ?_
 refine L_p (.bool false) rfl (by rcases hn with rfl | rfl | rfl | rfl | rfl | rfl | rfl | rfl <;> kernel_rfl) ?_
 refine L_g 1 kr ?_
 refine L_nil ?_
 refine W_cond false kr (fun e => by cases e) (fun _ => ?_)
 refine W_skip ?_
 refine W_seq ?_
 refine W_region ?_
 refine L_g 1 kr ?_
 refine L_p (nv (n : Int)) rfl (by rcases hn with rfl | rfl | rfl | rfl | rfl | rfl | rfl | rfl <;> kernel_rfl) ?_
 refine L_nw (Al.cells (zrep n [nv 0])) (.sl n n) rfl rfl (ev_mkK (P := Try.prog) (k := 1) (el := 3) (z := nv 0) (by_ := 8) kr kr kr kr rfl (by omega) kr kr) ?_
 have c282 : Cl (h281.push (Al.cells (zrep n [nv 0])).obj) h281.next (zrep n [nv 0]) := Cl.new h281 _
 have t282 : Sm Nix h281 (h281.push (Al.cells (zrep n [nv 0])).obj) := .push h281 _
 have n282 : (h281.push (Al.cells (zrep n [nv 0])).obj).next = h281.next + 1 := rfl
 generalize h281.push (Al.cells (zrep n [nv 0])).obj = h282 at c282 t282 n282 ⊢
 have T282 : Sm Nix h h282 := T281.ext t282
 have N282 := T282.nx
 rw [zrep_row] at c282
 have hN30 : h.next ≤ h281.next := T281.nx
 refine L_g 1 kr ?_
 refine L_nil ?_
 refine W_seq ?_
 refine W_region ?_
 refine L_g 2 kr ?_
 obtain ⟨h283, e283, d283, t283, n283⟩ := copy_row (P := Try.prog) (T := 29) (el := 3) (x := nv c) (y := nv 0) (k := 0) (o := 0) (m := 1) (s := 1) (u := .slice (some ⟨b0, 0, none⟩) 1 1) kr kr c282 (Nat.zero_le _) rfl rfl (by rw [Nat.min_eq_left (by omega)]; exact ((hc0.ext T282).sd (n := 1) rfl).first) (by omega) (Nat.le_refl _) hn0 (by decide) (by omega) (by omega : n ≠ 0)
 refine L_bi (nv (1 : Nat)) h283 rfl rfl kr (vs := [.slice (some ⟨h281.next, 0, none⟩) n n, .slice (some ⟨b0, 0, none⟩) 1 1]) kr (bi_copy e283) ?_
 replace c282 := c282.lt
 have T283 : Sm Nix h h283 := T282.trans t283 (fun x hx => .inr (by have hx : x = _ := hx; omega))
 have N283 := T283.nx
 refine L_g 1 kr ?_
 refine L_nil ?_
 refine W_seq ?_
 refine W_block ?_
 refine W_loop (fun mm fr hh => ∃ k : Nat, mm = n - k ∧ 1 ≤ k ∧ k ≤ n ∧ Arm.Cl hh h281.next (row2 (nv c) (nv 0) k n) ∧ Sm Nix h hh ∧ fr 7 = .slice (some ⟨h281.next, 0, none⟩) n n ∧ fr 8 = nv (k : Int)) (n - 1) ?_ ?_
 ·
  exact ⟨1, rfl, Nat.le_refl _, hn0, d283, T283, kr, kr⟩
 rintro mm fr hh ⟨k, hm, hk1, hkn, hcr, TL, y7, y8⟩
 refine W_set (k := 7) y7 ?_
 refine W_set (k := 8) y8 ?_
 refine W_seq ?_
 refine W_seq ?_
 refine W_region ?_
 refine L_g 3 kr ?_
 refine L_i ((k : Int)) ((n : Int)) (.bool (decide ((k : Int) < (n : Int)))) rfl rfl kr kr rfl (rfl) ?_
 refine L_nil ?_
 refine W_cond (decide ((k : Int) < (n : Int))) kr (fun hb => ?_) (fun hb => ?_)
 ·
  have hlt : k < n := by simp at hb; omega
  refine W_skip ?_
  refine W_block ?_
  refine W_drawn kr ?_
  refine D_e (e := 7) (l := [0, 1, 2, 3, 4, 5, 6]) (s' := [0]) kr kr rfl kr Rk_nil ?_
  refine NS_b 3 kr ?_
  refine NS_sl _ rfl rfl kr kr kr kr kr kr (slk_lo (b := h281.next) (P := Try.prog) (T := 29) (el := 3) kr kr hlt hop) ?_
  refine NS_b 2 kr ?_
  refine NS_sl _ rfl rfl kr kr kr kr kr kr (slk_hi (b := h281.next) (P := Try.prog) (T := 29) (el := 3) kr kr hkn hn0 hop) ?_
  refine NS_nil ?_
  obtain ⟨h284, e284, hcq, t284, n284⟩ := copy_row (P := Try.prog) (T := 29) (el := 3) (x := nv c) (y := nv 0) (k := k) (o := k) (m := min k (n - k)) (s := k) (u := .slice (some ⟨h281.next, 0, none⟩) k n) kr kr hcr hkn rfl rfl (first_row hcr hkn (Nat.min_le_left _ _) (by omega)) rfl (Nat.le_refl _) hlt hk1 (by omega) (by omega : n - k ≠ 0)
  have TQ : Sm Nix h h284 := TL.trans t284 (fun x hx => .inr (by have hx : x = _ := hx; omega))
  refine L_bi (nv ((min k (n - k) : Nat) : Int)) h284 rfl rfl kr (vs := [.slice (some ⟨h281.next, k, none⟩) (n - k) (n - k), .slice (some ⟨h281.next, 0, none⟩) k n]) kr (bi_copy e284) ?_
  have T284 : Sm Nix h h284 := TQ
  have N284 := T284.nx
  refine L_nil ⟨rfl, ?_⟩
  refine D_l (l := [8, 9]) kr kr (Rk_noRead kr) ?_
  refine NS_i ((k : Int)) (((min k (n - k) : Nat) : Int)) (nv ((k + min k (n - k) : Nat) : Int)) rfl rfl kr kr kr kr rfl (add_nat (by omega)) ?_
  refine NS_b 1 kr ?_
  refine NS_nil ?_
  exact ⟨n - (k + min k (n - k)), by omega, k + min k (n - k), rfl, by omega, by omega, hcq, TQ, kr, kr⟩
 ·
  have hge : k = n := by simp at hb; omega
  subst hge
  refine W_exit ?_
  repeat with_reducible refine then_exit ?_
  refine exit_here ?_
  refine W_seq ?_
  refine W_region ?_
  refine L_g 2 kr ?_
  refine L_nil ?_
  refine W_ret ?_
  repeat first | with_reducible refine then_ret ?_ | with_reducible refine blk_ret ?_
  refine done_of (v := .slice (some ⟨h281.next, 0, none⟩) k k) (.inl rfl) kr ?_
  exact ⟨_, hN30, by have := hcr; unfold row2 at this; rw [Nat.sub_self, List.replicate_zero, List.append_nil] at this; exact this, rfl, TL⟩
end
end Go.Proofs.Ytmehemeoaplepaa
namespace Go.Arm
noncomputable section
open Go Go.X Go.Mt
section
variable {G : Gh} {h h' : AH} {S : Nat → Prop} {r : Ro} {b : Nat} {v : Value} {x : Th}
theorem Op.putO (O : Op G h) (r : Ro) (b : Nat) (v : Value) (x : Th) (s : Sm S h h') (hS : ∀ c, S c → (G.C r ≠ .no ∧ vbx (G.V r) = some c) ∨ h.next ≤ c)
   (A : At h' ((G.put r b v x).V r) x) (hv : ∀ c, vbx ((G.put r b v x).V r) = some c → (G.C r ≠ .no ∧ vbx (G.V r) = some c) ∨ (¬ G.mut c ∧ ¬ G.ro c)) :
   Op (G.put r b v x) h' ∧ ∀ c, (G.put r b v x).mut c → G.mut c ∨ vbx ((G.put r b v x).V r) = some c := by
 have hmu : ∀ c, (G.put r b v x).mut c → G.mut c ∨ vbx ((G.put r b v x).V r) = some c := by
   rintro c ⟨r', h3, h4⟩
   by_cases e : r' = r
   · subst e; exact .inr h4
   · rw [C_put e] at h3; rw [V_put e] at h4; exact .inl ⟨r', h3, h4⟩
 have hother : ∀ r', r' ≠ r → ∀ c, G.C r' ≠ .no → vbx (G.V r') = some c → ¬ S c := fun r' hr c hc hb hs => by
   rcases hS c hs with ⟨e1, e2⟩ | e
   · exact hr (O.inj _ _ _ hc e1 hb e2)
   · exact O.new e ⟨r', hc, hb⟩
 refine ⟨⟨fun r' => ?_, fun r' r'' c h3 h4 h5 h6 => ?_, fun c hc hr => ?_, fun c hc => Nat.lt_of_lt_of_le (O.rolt c hc) s.nx⟩, hmu⟩
 · by_cases e : r' = r
   · subst e; rw [C_at]; exact A
   · rw [V_put e, C_put e]
     by_cases e2 : G.C r' = .no
     · rw [e2]; trivial
     · exact (O.here r').sm s (fun c hb => hother r' e c e2 hb)
 · by_cases e : r' = r
   · by_cases e2 : r'' = r
     · rw [e, e2]
     · subst e
       rw [C_put e2] at h4; rw [V_put e2] at h6
       rcases hv c h5 with q | q
       · exact O.inj _ _ _ q.1 h4 q.2 h6
       · exact (q.1 ⟨_, h4, h6⟩).elim
   · rw [C_put e] at h3; rw [V_put e] at h5
     by_cases e2 : r'' = r
     · subst e2
       rcases hv c h6 with q | q
       · exact O.inj _ _ _ h3 q.1 h5 q.2
       · exact (q.1 ⟨_, h3, h5⟩).elim
     · rw [C_put e2] at h4; rw [V_put e2] at h6
       exact O.inj _ _ _ h3 h4 h5 h6
 · rcases hmu c hc with q | q
   · exact O.ro c q hr
   · rcases hv c q with k | k
     · exact O.ro c ⟨r, k.1, k.2⟩ hr
     · exact k.2 hr
theorem Op.oS (O : Op G h) (r : Ro) (v : Value) (x : Th) (hV : ∀ G : Gh, G.V r = G.S r) (s : Sm S h h') (hS : ∀ c, S c → (G.C r ≠ .no ∧ vbx (G.S r) = some c) ∨ h.next ≤ c) (A : At h' v x) (hv : ∀ c, vbx v = some c → (G.C r ≠ .no ∧ vbx (G.S r) = some c) ∨ (¬ G.mut c ∧ ¬ G.ro c)) :
  Op (G.putS r v x) h' ∧ ∀ c, (G.putS r v x).mut c → G.mut c ∨ vbx v = some c := by
 have e : (G.putS r v x).V r = v := by rw [hV]; exact ups_at _ _ _
 have := O.putO r (G.B r) v x s (fun c hc => by rw [hV]; exact hS c hc) (by rw [put_S, e]; exact A) (fun c hc => by rw [put_S, e] at hc; rw [hV]; exact hv c hc)
 rw [put_S, e] at this
 exact this
theorem Op.oB (O : Op G h) (r : Ro) (b : Nat) (x : Th) (hV : vbx ((G.putB r b x).V r) = some b) (A : At h ((G.putB r b x).V r) x) (hv : ¬ G.mut b ∧ ¬ G.ro b) :
  Op (G.putB r b x) h ∧ ∀ c, (G.putB r b x).mut c → G.mut c ∨ c = b := by
 have := O.putO (S := Nix) (h' := h) r b (G.S r) x .refl (fun c hc => hc.elim) (by rw [put_B]; exact A) (fun c hc => by rw [put_B, hV] at hc; cases hc; exact .inr hv)
 rw [put_B] at this
 exact ⟨this.1, fun c hc => (this.2 c hc).imp id fun e => by rw [hV] at e; cases e; rfl⟩
end
def pr0 (n : Nat) (c : Int) : Pr := ⟨1, [], [], [], [], [], List.replicate n c⟩
def rq0 : Rq := ⟨0, 0, 0, 0, 0, false, false, false, false, false, 0, 0, [], [], 0, [], false, St.z⟩
def Wd.new (n : Nat) (e c : Int) : Wd := ⟨e, n, fun _ => pr0 n c, fun _ _ => rq0, fun _ _ => []⟩
variable [Tys]
structure NewI (h0 h : AH) (G : Gh) (k n : Nat) (e c : Int) : Prop where
 op : Op G h
 mu : ∀ b, G.mut b → h0.next ≤ b
 ro : ∀ b, ¬ G.ro b
 wd : G.C .wd = .cl [nv e, G.S .prs, .map (some (G.B .ways))]
 prs : G.C .prs = .gr 1 k ((List.range k).map fun p => ptr (G.B (.pr p)))
 ways : G.C .ways = .mp []
 way : ∀ a b, G.C (.way a b) = .gr 1 0 [] ∧ G.S (.way a b) = nilS
 pr : ∀ p, p < k → RelP (pr0 n c) (fun _ => rq0) G h p
 non : ∀ p no, G.C (.rq p no) = .no
 no : ∀ r p, r.of = some p → k ≤ p → G.C r = .no
section
variable {G : Gh} {h0 h h' h1 h2 : AH} {k n : Nat} {e c : Int}
theorem NewI.ext (N : NewI h0 h G k n e c) (s : Sm Nix h h') : NewI h0 h' G k n e c :=
 ⟨N.op.ext s, N.mu, N.ro, N.wd, N.prs, N.ways, N.way, fun p hp => (N.pr p hp).mono rfl rfl rfl (N.op.dr s.of), N.non, N.no⟩
theorem NewI.rep (N : NewI h0 h G n n e c) : ∃ G', Rep (Wd.new n e c) G' h ∧ G'.B = G.B ∧ ∀ b, G'.mut b ∨ G'.ro b → h0.next ≤ b := by
 have hg := N.op.here .prs
 rw [N.prs] at hg
 obtain ⟨O, M⟩ := N.op.oS .prs (G.S .prs) (.sd 1 n ((List.range n).map fun p => ptr (G.B (.pr p)))) (fun _ => rfl) (Sm.refl (S := Nix)) (fun c hc => hc.elim) (Gr.sd hg) (fun c hc => .inl ⟨by rw [N.prs]; simp, hc⟩)
 refine ⟨_, ⟨O, ?_⟩, rfl, fun b hb => ?_⟩
 · refine ⟨?_, ups_at G.C Ro.prs (.sd 1 n ((List.range n).map fun p => ptr (G.B (.pr p)))), ⟨[], N.ways, by simp, fun a b => ?_⟩, fun a b => ⟨[], (N.way a b).1, .nil⟩, fun p hp => ?_⟩
   · show G.C .wd = .cl [nv e, ups G.S .prs (G.S .prs) .prs, _]
     rw [ups_at]; exact N.wd
   · exact (N.way a b).2.symm
   · refine (N.pr p hp).congr (fun r hr => ⟨?_, ?_, rfl⟩) rfl
     · exact ups_ne _ _ (by intro h; rw [h] at hr; cases hr)
     · exact ups_ne _ _ (by intro h; rw [h] at hr; cases hr)
 · rcases hb with hb | hb
   · rcases M b hb with q | q
     · exact N.mu b q
     · exact N.mu b ⟨.prs, by rw [N.prs]; simp, q⟩
   · exact (N.ro b hb).elim
theorem NewI.start {bw bm : Nat} {e c : Int} (cw : Cl h bw [nv e, .slice none 0 0, .map (some bm)]) (mm : Mp h bm k2 Eq ([] : List ((Int × Int) × Value))) (mb : Mb h bm) (hw : h0.next ≤ bw) (hm : h0.next ≤ bm) (hne : bw ≠ bm) :
   ∃ G, NewI h0 h G 0 n e c ∧ G.B .wd = bw := by
 refine ⟨⟨fun r => if r = .wd then bw else bm, fun _ => nilS, fun r => match r with | .wd => .cl [nv e, nilS, .map (some bm)] | .prs => .gr 1 0 [] | .ways => .mp [] | .way _ _ => .gr 1 0 [] | _ => .no, fun _ => False⟩, ?_, rfl⟩
 have hval : ∀ r b, (match r with | .wd => Th.cl [nv e, nilS, .map (some bm)] | .prs => .gr 1 0 [] | .ways => .mp [] | .way _ _ => .gr 1 0 [] | _ => .no) ≠ .no →
     vbx (Gh.V ⟨fun r => if r = .wd then bw else bm, fun _ => nilS, fun r => match r with | .wd => .cl [nv e, nilS, .map (some bm)] | .prs => .gr 1 0 [] | .ways => .mp [] | .way _ _ => .gr 1 0 [] | _ => .no, fun _ => False⟩ r) = some b → (r = .wd ∧ b = bw) ∨ (r = .ways ∧ b = bm) := by
   intro r b h1 h2
   cases r with
   | wd => cases h2; exact .inl ⟨rfl, rfl⟩
   | ways => cases h2; exact .inr ⟨rfl, rfl⟩
   | prs => cases h2
   | way a b => cases h2
   | _ => exact (h1 rfl).elim
 refine ⟨⟨fun r => ?_, fun r r' b h1 h2 h3 h4 => ?_, fun b hb => id, fun b hb => hb.elim⟩, fun b hb => ?_, fun b hb => hb, rfl, rfl, rfl, fun _ _ => ⟨rfl, rfl⟩, fun p hp => by omega, fun _ _ => rfl, fun r p hr _ => ?_⟩
 · cases r with
   | wd => exact ⟨bw, rfl, cw⟩
   | ways => exact ⟨bm, rfl, mm, mb⟩
   | prs => exact Gr.nil
   | way a b => exact Gr.nil
   | _ => trivial
 · rcases hval r b h1 h3 with ⟨rfl, rfl⟩ | ⟨rfl, rfl⟩ <;> rcases hval r' _ h2 h4 with ⟨rfl, e2⟩ | ⟨rfl, e2⟩
   · rfl
   · exact (hne e2).elim
   · exact (hne e2.symm).elim
   · rfl
 · obtain ⟨r, h1, h2⟩ := hb
   rcases hval r b h1 h2 with ⟨_, rfl⟩ | ⟨_, rfl⟩
   · exact hw
   · exact hm
 · cases r <;> first | rfl | cases hr
theorem NewI.step (N : NewI h0 h G k n e c) {bR bE bP bC : Nat} {hs : AH} (t0 : Sm Nix h hs) (hR : h.next ≤ bR) (hRE : bR < bE) (hEC : bE < bC) (hCP : bC < bP) (h00 : h0.next ≤ h.next)
   (mR : Mp hs bR nv Eq ([] : List (Int × Value))) (bRb : Mb hs bR) (mE : Mp hs bE k2 Eq ([] : List ((Int × Int) × Value))) (bEb : Mb hs bE) (cC : Cl hs bC ((List.replicate n c).map nv))
   (cP : Cl hs bP [nk 1, .map (some bR), .map (some bE), nilS, nilS, nilS, .slice (some ⟨bC, 0, none⟩) n n]) {v' : Value} {S : Nat → Prop}
   (g : Gr h1 1 v' (k + 1) ((List.range k).map (fun p => ptr (G.B (.pr p))) ++ [ptr bP])) (t1 : Sm S hs h1) (hS : ∀ b, S b → vb (G.S .prs) = some b ∨ hs.next ≤ b) (hv' : ∀ b, vb v' = some b → vb (G.S .prs) = some b ∨ hs.next ≤ b)
   (cw : Cl h2 (G.B .wd) [nv e, v', .map (some (G.B .ways))]) (t2 : Sm (fun b => b = G.B .wd) h1 h2) : ∃ G', NewI h0 h2 G' (k + 1) n e c ∧ G'.B .wd = G.B .wd := by
 have Ns := N.ext t0
 have hnew : ∀ b, h.next ≤ b → ¬ G.mut b := fun b hb hm => by have := N.op.lt hm; omega
 obtain ⟨O1, M1⟩ := Ns.op.oB (.rqs k) bR (.mi []) (by show vbx (.map (some (ups _ _ _ _))) = _; rw [ups_at]; rfl) ⟨bR, by show Value.map (some (ups _ _ _ _)) = _; rw [ups_at], mR, bRb⟩ ⟨hnew _ hR, N.ro _⟩
 obtain ⟨O2, M2⟩ := O1.oB (.exs k) bE (.mp []) (by show vbx (.map (some (ups _ _ _ _))) = _; rw [ups_at]; rfl) ⟨bE, by show Value.map (some (ups _ _ _ _)) = _; rw [ups_at], mE, bEb⟩ ⟨fun hm => (M1 _ hm).elim (hnew bE (by omega)) (fun e => by omega), N.ro _⟩
 obtain ⟨O3, M3⟩ := O2.oS (.crd k) (.slice (some ⟨bC, 0, none⟩) n n) (.ws n ((List.replicate n c).map nv)) (fun _ => rfl) (Sm.refl (S := Nix)) (fun c hc => hc.elim) (cC.ws (by simp)) (fun d hd => by
   have ed : bC = d := Option.some.inj hd
   exact .inr ⟨fun hm => (M2 _ hm).elim (fun q => (M1 _ q).elim (hnew d (by omega)) (fun e => by omega)) (fun e => by omega), N.ro _⟩)
 obtain ⟨O4, M4⟩ := O3.oS (.inb k) nilS (.gr 2 0 []) (fun _ => rfl) (Sm.refl (S := Nix)) (fun c hc => hc.elim) Gr.nil (fun d hd => by cases hd)
 obtain ⟨O5, M5⟩ := O4.oS (.msg k) nilS (.gr 6 0 []) (fun _ => rfl) (Sm.refl (S := Nix)) (fun c hc => hc.elim) Gr.nil (fun d hd => by cases hd)
 obtain ⟨O6, M6⟩ := O5.oS (.rcv k) nilS (.gr 1 0 []) (fun _ => rfl) (Sm.refl (S := Nix)) (fun c hc => hc.elim) Gr.nil (fun d hd => by cases hd)
 have m6 : ∀ b, Gh.mut _ b → G.mut b ∨ b = bR ∨ b = bE ∨ b = bC := fun b hm => by
   rcases M6 b hm with q | q
   · rcases M5 b q with q | q
     · rcases M4 b q with q | q
       · rcases M3 b q with q | q
         · rcases M2 b q with q | q
           · exact (M1 b q).imp id .inl
           · exact .inr (.inr (.inl q))
         · cases q; exact .inr (.inr (.inr rfl))
       · cases q
     · cases q
   · cases q
 obtain ⟨O7, M7⟩ := O6.oB (.pr k) bP (.cl [nk 1, .map (some bR), .map (some bE), nilS, nilS, nilS, .slice (some ⟨bC, 0, none⟩) n n]) (by show vbx (ptr (ups _ _ _ _)) = _; rw [ups_at]; rfl) ⟨bP, by show ptr (ups _ _ _ _) = _; rw [ups_at], cP⟩ ⟨fun hm => (m6 _ hm).elim (hnew bP (by omega)) (fun e => by omega), N.ro _⟩
 have hC : ∀ r, r.of ≠ some k → ups (ups (ups (ups (ups (ups (ups G.C (.rqs k) (.mi [])) (.exs k) (.mp [])) (.crd k) (.ws n ((List.replicate n c).map nv))) (.inb k) (.gr 2 0 [])) (.msg k) (.gr 6 0 [])) (.rcv k) (.gr 1 0 [])) (.pr k) (.cl [nk 1, .map (some bR), .map (some bE), nilS, nilS, nilS, .slice (some ⟨bC, 0, none⟩) n n]) r = G.C r := fun r hr => by
   rw [ups_ne _ _ (of_ne rfl hr), ups_ne _ _ (of_ne rfl hr), ups_ne _ _ (of_ne rfl hr), ups_ne _ _ (of_ne rfl hr), ups_ne _ _ (of_ne rfl hr), ups_ne _ _ (of_ne rfl hr), ups_ne _ _ (of_ne rfl hr)]
 have hp0 : ups (ups (ups (ups (ups (ups (ups G.C (.rqs k) (.mi [])) (.exs k) (.mp [])) (.crd k) (.ws n ((List.replicate n c).map nv))) (.inb k) (.gr 2 0 [])) (.msg k) (.gr 6 0 [])) (.rcv k) (.gr 1 0 [])) (.pr k) (.cl [nk 1, .map (some bR), .map (some bE), nilS, nilS, nilS, .slice (some ⟨bC, 0, none⟩) n n]) .prs ≠ .no := by rw [hC .prs (by simp [Ro.of]), N.prs]; simp
 have hw0 : ups (ups (ups (ups (ups (ups (ups (ups G.C (.rqs k) (.mi [])) (.exs k) (.mp [])) (.crd k) (.ws n ((List.replicate n c).map nv))) (.inb k) (.gr 2 0 [])) (.msg k) (.gr 6 0 [])) (.rcv k) (.gr 1 0 [])) (.pr k) (.cl [nk 1, .map (some bR), .map (some bE), nilS, nilS, nilS, .slice (some ⟨bC, 0, none⟩) n n])) .prs (.gr 1 (k + 1) ((List.range k).map (fun p => ptr (G.B (.pr p))) ++ [ptr bP])) .wd ≠ .no := by rw [ups_ne _ _ (by simp), hC .wd (by simp [Ro.of]), N.wd]; simp
 obtain ⟨O8, M8⟩ := O7.oS .prs v' (.gr 1 (k + 1) ((List.range k).map (fun p => ptr (G.B (.pr p))) ++ [ptr bP])) (fun _ => rfl) t1 (fun c hc => (hS c hc).imp (fun q => ⟨hp0, vb_vbx q⟩) id) g (fun d hd => by
   have hd2 : vb v' = some d := vbx_sl (by obtain ⟨a, e, f⟩ := g.sd.form; exact ⟨a, _, e, f⟩) hd
   rcases hv' d hd2 with q | q
   · exact .inl ⟨hp0, vb_vbx q⟩
   · exact .inr ⟨O7.new q, N.ro _⟩)
 obtain ⟨O9, M9⟩ := O8.putO .wd (G.B .wd) (G.S .wd) (.cl [nv e, v', .map (some (G.B .ways))]) t2 (fun d hd => .inl ⟨hw0, by subst hd; rfl⟩) ⟨G.B .wd, congrArg ptr (ups_at (ups (ups (ups G.B (.rqs k) bR) (.exs k) bE) (.pr k) bP) Ro.wd (G.B .wd)), cw⟩
   (fun d hd => .inl ⟨hw0, by
     have hB0 : ups (ups (ups (ups G.B (.rqs k) bR) (.exs k) bE) (.pr k) bP) .wd (G.B .wd) .wd = G.B .wd := ups_at _ _ _
     have h9 : ups (ups (ups (ups G.B (.rqs k) bR) (.exs k) bE) (.pr k) bP) .wd (G.B .wd) .wd = d := Option.some.inj hd
     exact congrArg some (hB0.symm.trans h9)⟩)
 have hCC : ∀ r p, r.of = some p → p ≠ k → (ups (ups (ups (ups (ups (ups (ups (ups (ups G.C (.rqs k) (.mi [])) (.exs k) (.mp [])) (.crd k) (.ws n ((List.replicate n c).map nv))) (.inb k) (.gr 2 0 [])) (.msg k) (.gr 6 0 [])) (.rcv k) (.gr 1 0 [])) (.pr k) (.cl [nk 1, .map (some bR), .map (some bE), nilS, nilS, nilS, .slice (some ⟨bC, 0, none⟩) n n])) .prs (.gr 1 (k + 1) ((List.range k).map (fun p => ptr (G.B (.pr p))) ++ [ptr bP]))) .wd (.cl [nv e, v', .map (some (G.B .ways))])) r = G.C r := fun r p hr hp => by
   have hk : r.of ≠ some k := by rw [hr]; simpa using hp
   rw [ups_ne _ _ (by intro h; rw [h] at hr; cases hr), ups_ne _ _ (by intro h; rw [h] at hr; cases hr), hC r hk]
 have hSS : ∀ r, r.of ≠ some k → r ≠ .prs → r ≠ .wd → (ups (ups (ups (ups (ups (ups G.S (.crd k) (.slice (some ⟨bC, 0, none⟩) n n)) (.inb k) nilS) (.msg k) nilS) (.rcv k) nilS) .prs v') .wd (G.S .wd)) r = G.S r := fun r hk h1 h2 => by
   rw [ups_ne _ _ h2, ups_ne _ _ h1, ups_ne _ _ (of_ne rfl hk), ups_ne _ _ (of_ne rfl hk), ups_ne _ _ (of_ne rfl hk), ups_ne _ _ (of_ne rfl hk)]
 have hBB : ∀ r, r.of ≠ some k → (ups (ups (ups (ups G.B (.rqs k) bR) (.exs k) bE) (.pr k) bP) .wd (G.B .wd)) r = G.B r := fun r hk => by
   by_cases e : r = .wd
   · subst e; exact ups_at _ _ _
   · rw [ups_ne _ _ e, ups_ne _ _ (of_ne rfl hk), ups_ne _ _ (of_ne rfl hk), ups_ne _ _ (of_ne rfl hk)]
 have hBk : (ups (ups (ups (ups G.B (.rqs k) bR) (.exs k) bE) (.pr k) bP) .wd (G.B .wd)) (.pr k) = bP := by rw [ups_ne _ _ (by simp), ups_at]
 have hSp : (ups (ups (ups (ups (ups (ups G.S (.crd k) (.slice (some ⟨bC, 0, none⟩) n n)) (.inb k) nilS) (.msg k) nilS) (.rcv k) nilS) .prs v') .wd (G.S .wd)) .prs = v' := by rw [ups_ne _ _ (by simp), ups_at]
 refine ⟨_, ⟨O9, fun b hb => ?_, N.ro, ?_, ?_, ?_, fun a b => ?_, fun p hp => ?_, fun p no => ?_, fun r p hr hkp => ?_⟩, hBB .wd (by simp [Ro.of])⟩
 · rcases M9 b hb with q | q
   · rcases M8 b q with q | q
     · rcases M7 b q with q | q
       · rcases m6 b q with q | q
         · exact N.mu b q
         · omega
       · omega
     · rcases hv' b (vbx_sl (by obtain ⟨a, e, f⟩ := g.sd.form; exact ⟨a, _, e, f⟩) q) with q | q
       · exact N.mu b ⟨.prs, by rw [N.prs]; simp, vb_vbx q⟩
       · have := t0.nx; omega
   · have hB0 : ups (ups (ups (ups G.B (.rqs k) bR) (.exs k) bE) (.pr k) bP) .wd (G.B .wd) .wd = G.B .wd := ups_at _ _ _
     have h9 : ups (ups (ups (ups G.B (.rqs k) bR) (.exs k) bE) (.pr k) bP) .wd (G.B .wd) .wd = b := Option.some.inj q
     exact N.mu b ⟨.wd, by rw [N.wd]; simp, congrArg some (hB0.symm.trans h9)⟩
 · show (ups (ups (ups (ups (ups (ups (ups (ups (ups G.C (.rqs k) (.mi [])) (.exs k) (.mp [])) (.crd k) (.ws n ((List.replicate n c).map nv))) (.inb k) (.gr 2 0 [])) (.msg k) (.gr 6 0 [])) (.rcv k) (.gr 1 0 [])) (.pr k) (.cl [nk 1, .map (some bR), .map (some bE), nilS, nilS, nilS, .slice (some ⟨bC, 0, none⟩) n n])) .prs (.gr 1 (k + 1) ((List.range k).map (fun p => ptr (G.B (.pr p))) ++ [ptr bP]))) .wd (.cl [nv e, v', .map (some (G.B .ways))])) .wd = .cl [nv e, (ups (ups (ups (ups (ups (ups G.S (.crd k) (.slice (some ⟨bC, 0, none⟩) n n)) (.inb k) nilS) (.msg k) nilS) (.rcv k) nilS) .prs v') .wd (G.S .wd)) .prs, .map (some ((ups (ups (ups (ups G.B (.rqs k) bR) (.exs k) bE) (.pr k) bP) .wd (G.B .wd)) .ways))]
   rw [hSp, hBB .ways (by simp [Ro.of]), ups_at]
 · show (ups (ups (ups (ups (ups (ups (ups (ups (ups G.C (.rqs k) (.mi [])) (.exs k) (.mp [])) (.crd k) (.ws n ((List.replicate n c).map nv))) (.inb k) (.gr 2 0 [])) (.msg k) (.gr 6 0 [])) (.rcv k) (.gr 1 0 [])) (.pr k) (.cl [nk 1, .map (some bR), .map (some bE), nilS, nilS, nilS, .slice (some ⟨bC, 0, none⟩) n n])) .prs (.gr 1 (k + 1) ((List.range k).map (fun p => ptr (G.B (.pr p))) ++ [ptr bP]))) .wd (.cl [nv e, v', .map (some (G.B .ways))])) .prs = .gr 1 (k + 1) ((List.range (k + 1)).map fun p => ptr ((ups (ups (ups (ups G.B (.rqs k) bR) (.exs k) bE) (.pr k) bP) .wd (G.B .wd)) (.pr p)))
   rw [ups_ne _ _ (show Ro.prs ≠ Ro.wd by simp), ups_at, List.range_succ, List.map_append]
   congr 2
   · refine List.map_congr_left fun p hp => ?_
     rw [hBB (.pr p) (by have := List.mem_range.1 hp; simp [Ro.of]; omega)]
   · show [ptr bP] = [ptr ((ups (ups (ups (ups G.B (.rqs k) bR) (.exs k) bE) (.pr k) bP) .wd (G.B .wd)) (.pr k))]
     rw [hBk]
 · show (ups (ups (ups (ups (ups (ups (ups (ups (ups G.C (.rqs k) (.mi [])) (.exs k) (.mp [])) (.crd k) (.ws n ((List.replicate n c).map nv))) (.inb k) (.gr 2 0 [])) (.msg k) (.gr 6 0 [])) (.rcv k) (.gr 1 0 [])) (.pr k) (.cl [nk 1, .map (some bR), .map (some bE), nilS, nilS, nilS, .slice (some ⟨bC, 0, none⟩) n n])) .prs (.gr 1 (k + 1) ((List.range k).map (fun p => ptr (G.B (.pr p))) ++ [ptr bP]))) .wd (.cl [nv e, v', .map (some (G.B .ways))])) .ways = _
   rw [ups_ne _ _ (show Ro.ways ≠ Ro.wd by simp), ups_ne _ _ (show Ro.ways ≠ Ro.prs by simp), hC .ways (by simp [Ro.of])]; exact N.ways
 · refine ⟨?_, ?_⟩
   · show (ups (ups (ups (ups (ups (ups (ups (ups (ups G.C (.rqs k) (.mi [])) (.exs k) (.mp [])) (.crd k) (.ws n ((List.replicate n c).map nv))) (.inb k) (.gr 2 0 [])) (.msg k) (.gr 6 0 [])) (.rcv k) (.gr 1 0 [])) (.pr k) (.cl [nk 1, .map (some bR), .map (some bE), nilS, nilS, nilS, .slice (some ⟨bC, 0, none⟩) n n])) .prs (.gr 1 (k + 1) ((List.range k).map (fun p => ptr (G.B (.pr p))) ++ [ptr bP]))) .wd (.cl [nv e, v', .map (some (G.B .ways))])) (.way a b) = _
     rw [ups_ne _ _ (show Ro.way a b ≠ Ro.wd by simp), ups_ne _ _ (show Ro.way a b ≠ Ro.prs by simp), hC (.way a b) (by simp [Ro.of])]; exact (N.way a b).1
   · show (ups (ups (ups (ups (ups (ups G.S (.crd k) (.slice (some ⟨bC, 0, none⟩) n n)) (.inb k) nilS) (.msg k) nilS) (.rcv k) nilS) .prs v') .wd (G.S .wd)) (.way a b) = _
     rw [hSS (.way a b) (by simp [Ro.of]) (by simp) (by simp)]; exact (N.way a b).2
 · by_cases epk : p = k
   · rw [epk]
     have hno : ∀ no, (ups (ups (ups (ups (ups (ups (ups (ups (ups G.C (.rqs k) (.mi [])) (.exs k) (.mp [])) (.crd k) (.ws n ((List.replicate n c).map nv))) (.inb k) (.gr 2 0 [])) (.msg k) (.gr 6 0 [])) (.rcv k) (.gr 1 0 [])) (.pr k) (.cl [nk 1, .map (some bR), .map (some bE), nilS, nilS, nilS, .slice (some ⟨bC, 0, none⟩) n n])) .prs (.gr 1 (k + 1) ((List.range k).map (fun p => ptr (G.B (.pr p))) ++ [ptr bP]))) .wd (.cl [nv e, v', .map (some (G.B .ways))])) (.rq k no) = .no := fun no => by
       rw [ups_ne _ _ (by simp), ups_ne _ _ (by simp), ups_ne _ _ (by simp), ups_ne _ _ (by simp), ups_ne _ _ (by simp), ups_ne _ _ (by simp), ups_ne _ _ (by simp), ups_ne _ _ (by simp), ups_ne _ _ (by simp)]
       exact N.non k no
     refine ⟨?_, ?_, fun _ hk => (List.not_mem_nil hk).elim, ?_, fun _ hk => (List.not_mem_nil hk).elim, ⟨[], ?_, .nil⟩, ⟨[], ?_, .nil⟩, ?_, fun _ hk => (List.not_mem_nil hk).elim, ?_, fun no hn => (hn (hno no)).elim, fun no hn => (hn (hno no)).elim, fun no hn => (hn (hno no)).elim, fun no hn => (hn (hno no)).elim⟩
     · show _ = Th.cl (prC _ _ k)
       simp [prC, Gh.put, Gh.putS, Gh.putB, ups, pr0]
     · simp [Gh.put, Gh.putS, Gh.putB, ups, pr0]
     · simp [Gh.put, Gh.putS, Gh.putB, ups, pr0]
     · simp [Gh.put, Gh.putS, Gh.putB, ups, pr0]
     · simp [Gh.put, Gh.putS, Gh.putB, ups, pr0]
     · simp [Gh.put, Gh.putS, Gh.putB, ups, pr0]
     · simp [Gh.put, Gh.putS, Gh.putB, ups, pr0]
   · have P : RelP (pr0 n c) (fun _ => rq0) G h2 p := (Ns.pr p (by omega)).mono (G' := G) rfl rfl rfl (fun v d H => ⟨H.1.sm ((t1.mono (S' := fun x => S x ∨ x = G.B .wd) fun _ => .inl).then (t2.mono fun _ => .inr)) (fun b hb _ => (N.ro b (H.2 b hb)).elim), H.2⟩)
     exact P.congr (fun r hr => ⟨hCC r p hr epk, hSS r (by rw [hr]; simpa using epk) (by intro h; rw [h] at hr; cases hr) (by intro h; rw [h] at hr; cases hr), hBB r (by rw [hr]; simpa using epk)⟩) rfl
 · have h1 : (ups (ups (ups (ups (ups (ups (ups (ups (ups G.C (.rqs k) (.mi [])) (.exs k) (.mp [])) (.crd k) (.ws n ((List.replicate n c).map nv))) (.inb k) (.gr 2 0 [])) (.msg k) (.gr 6 0 [])) (.rcv k) (.gr 1 0 [])) (.pr k) (.cl [nk 1, .map (some bR), .map (some bE), nilS, nilS, nilS, .slice (some ⟨bC, 0, none⟩) n n])) .prs (.gr 1 (k + 1) ((List.range k).map (fun p => ptr (G.B (.pr p))) ++ [ptr bP]))) .wd (.cl [nv e, v', .map (some (G.B .ways))])) (.rq p no) = G.C (.rq p no) := by
     rw [ups_ne _ _ (by simp), ups_ne _ _ (by simp), ups_ne _ _ (by simp), ups_ne _ _ (by simp), ups_ne _ _ (by simp), ups_ne _ _ (by simp), ups_ne _ _ (by simp), ups_ne _ _ (by simp), ups_ne _ _ (by simp)]
   exact h1.trans (N.non p no)
 · exact (hCC r p hr (by omega)).trans (N.no r p hr (by omega))
end
end
end Go.Arm
namespace Go.Proofs.Ytmehemeoaplepaa
noncomputable section
open Go Go.X Go.Arm Go.Mt
set_option maxHeartbeats 1000000 in
theorem new_ok {h : AH} {n : Nat} {e c : Int} (hn : n = 1 ∨ n = 2 ∨ n = 3 ∨ n = 4 ∨ n = 5 ∨ n = 6 ∨ n = 7 ∨ n = 8) (he0 : 0 ≤ e) (he1 : e ≤ 4096) (hc0 : 0 ≤ c) (hc1 : c ≤ 64) :
  Arm.Calls Try.prog 9 [nv (n : Int), nv e, nv c] h (fun r => ∃ G, r.1 = .tuple ⟨[ptr (G.B .wd), nv 0]⟩ ∧ Rep (Wd.new n e c) G r.2 ∧ (∀ b, G.mut b ∨ G.ro b → h.next ≤ b) ∧ Sm Nix h r.2) := by
 have hn9 : n < 9 := by omega
 have hn0 : 0 < n := by omega
 refine Calls_of_W (n := 57) (fn := Try.f9) kr rfl rfl (Nat.le_of_ble_eq_true rfl) trivial ⟨.inr (by simp), rfl⟩ ?_
 have T0 : Sm Nix h h := .refl
 refine W_seq ?_
 refine W_region ?_
 refine L_g 2 kr ?_
 refine L_nil ?_
 refine W_seq ?_
 refine W_seq ?_
 refine W_region ?_
 refine L_g 1 kr ?_
 refine L_i ((n : Int)) (1) (.bool false) rfl rfl kr kr rfl (by first | (simp; done) | (simp; omega)) ?_
 refine L_g 2 kr ?_
 refine L_want kr ?_
 refine L_i ((n : Int)) (64) (.bool false) rfl rfl kr kr rfl (by first | (simp; done) | (simp; omega)) ?_
 refine L_g 3 kr ?_
 refine L_want kr ?_
 refine L_i (e) (0) (.bool false) rfl rfl kr kr rfl (by first | (simp; done) | (simp; omega)) ?_
 refine L_g 3 kr ?_
 refine L_want kr ?_
 refine L_i (e) (4096) (.bool false) rfl rfl kr kr rfl (by first | (simp; done) | (simp; omega)) ?_
 refine L_g 3 kr ?_
 refine L_want kr ?_
 refine L_i (c) (0) (.bool false) rfl rfl kr kr rfl (by first | (simp; done) | (simp; omega)) ?_
 refine L_g 3 kr ?_
 refine L_want kr ?_
 refine L_i (c) (64) (.bool false) rfl rfl kr kr rfl (by first | (simp; done) | (simp; omega)) ?_
 refine L_g 1 kr ?_
 refine L_nil ?_
 refine W_cond false kr (fun e => by cases e) (fun _ => ?_)
 refine W_skip ?_
 refine W_seq ?_
 refine W_region ?_
 refine L_g 1 kr ?_
 refine L_nw (Al.map) .mp rfl rfl kr ?_
 have q285 : Mb (h.push (Al.map).obj) h.next := Mb.new _
 have m285 : Mp (h.push (Al.map).obj) h.next k2 Eq ([] : List ((Int × Int) × Value)) := Mp.new h
 have t285 : Sm Nix h (h.push (Al.map).obj) := .push h _
 have n285 : (h.push (Al.map).obj).next = h.next + 1 := rfl
 generalize h.push (Al.map).obj = h285 at m285 q285 t285 n285 ⊢
 have T285 : Sm Nix h h285 := T0.ext t285
 have N285 := T285.nx
 refine L_g 1 kr ?_
 refine L_nw (Al.cells [nv e, .slice none 0 0, .map (some (h.next))]) .ptr rfl rfl kr ?_
 have c286 : Cl (h285.push (Al.cells [nv e, .slice none 0 0, .map (some (h.next))]).obj) h285.next [nv e, .slice none 0 0, .map (some (h.next))] := Cl.new h285 _
 have t286 : Sm Nix h285 (h285.push (Al.cells [nv e, .slice none 0 0, .map (some (h.next))]).obj) := .push h285 _
 have n286 : (h285.push (Al.cells [nv e, .slice none 0 0, .map (some (h.next))]).obj).next = h285.next + 1 := rfl
 generalize h285.push (Al.cells [nv e, .slice none 0 0, .map (some (h.next))]).obj = h286 at c286 t286 n286 ⊢
 replace q285 := q285.sm t286 m285.1 (fun x => x)
 replace m285 := m285.sm t286 (fun x => x) (fun _ _ e => e)
 have T286 : Sm Nix h h286 := T285.ext t286
 have N286 := T286.nx
 refine L_g 1 kr ?_
 refine L_nil ?_
 refine W_seq ?_
 refine W_seq ?_
 refine W_region ?_
 refine L_g 2 kr ?_
 refine L_nil ?_
 refine W_block ?_
 refine W_loop (fun mm fr hh => ∃ (k : Nat) (G : Gh), mm = n - k ∧ k ≤ n ∧ NewI h hh G k n e c ∧ Sm Nix h hh ∧ G.B .wd = h285.next ∧ fr 0 = nv (n : Int) ∧ fr 2 = nv c ∧ fr 8 = ptr (h285.next) ∧ fr 35 = nv (n : Int) ∧ fr 36 = nv (k : Int)) (n) ?_ ?_
 ·
  obtain ⟨G, hN, hB⟩ := NewI.start c286 m285 q285 (h0 := h) (by omega) (by omega) (by omega)
  exact ⟨0, G, rfl, Nat.zero_le _, hN, T286, hB, kr, kr, kr, kr, kr⟩
 rintro mm fr hh ⟨k, G, hm, hkn, hN, TL, hB, y0, y2, y8, y35, y36⟩
 rw [← hB] at y8
 refine W_set (k := 0) y0 ?_
 refine W_set (k := 2) y2 ?_
 refine W_set (k := 8) y8 ?_
 refine W_set (k := 35) y35 ?_
 refine W_set (k := 36) y36 ?_
 have TK : Sm Nix hh hh := .refl
 have NL := TL.nx
 have cw0 : Arm.Cl hh (G.B .wd) [nv e, G.S .prs, .map (some (G.B .ways))] := by
  have := hN.op.here .wd
  rw [hN.wd] at this
  obtain ⟨b, e1, c1⟩ := this
  cases e1; exact c1
 have g0 : Gr hh 1 (G.S .prs) k ((List.range k).map fun p => ptr (G.B (.pr p))) := by
  have := hN.op.here .prs
  rw [hN.prs] at this; exact this
 refine W_seq ?_
 refine W_region ?_
 refine L_i ((k : Int)) ((n : Int)) (.bool (decide ((k : Int) < (n : Int)))) rfl rfl kr kr rfl (rfl) ?_
 refine L_nil ?_
 refine W_seq ?_
 refine W_cond (decide ((k : Int) < (n : Int))) kr (fun hb => ?_) (fun hb => ?_)
 ·
  have hlt : k < n := by simp at hb; omega
  refine W_skip ?_
  refine W_seq ?_
  refine W_block ?_
  refine W_drawn kr ?_
  refine D_e (e := 10) (l := [0, 1, 2, 3, 4, 5, 6, 7, 8, 9]) (s' := [0, 1, 2, 3, 4, 5, 6]) kr kr rfl kr Rk_nil ?_
  refine NS_b 4 kr ?_
  refine NS_ld _ rfl rfl kr kr kr ((cw0.ext TK).ld (o := 1) kr rfl) ?_
  refine NS_newR (Al.map) .mp rfl kr rfl rfl kr (Rk_1 rfl rfl (Rk_1 rfl rfl (Rk_1 rfl rfl (Rk_1 rfl rfl (Rk_ld _ rfl rfl rfl kr ((cw0.ext (TK.ext (.push hh _))).ld (o := 1) kr rfl) kr (Rk_1 rfl rfl Rk_nil)))))) ?_
  have q287 : Mb (hh.push (Al.map).obj) hh.next := Mb.new _
  have m287 : Mp (hh.push (Al.map).obj) hh.next nv Eq ([] : List (Int × Value)) := Mp.new hh
  have t287 : Sm Nix hh (hh.push (Al.map).obj) := .push hh _
  have n287 : (hh.push (Al.map).obj).next = hh.next + 1 := rfl
  generalize hh.push (Al.map).obj = h287 at m287 q287 t287 n287 ⊢
  have T287 : Sm Nix hh h287 := TK.ext t287
  have N287 := T287.nx
  refine NS_newR (Al.map) .mp rfl kr rfl rfl kr (Rk_1 rfl rfl (Rk_1 rfl rfl (Rk_1 rfl rfl (Rk_1 rfl rfl (Rk_ld _ rfl rfl rfl kr ((cw0.ext (T287.ext (.push h287 _))).ld (o := 1) kr rfl) kr (Rk_1 rfl rfl (Rk_1 rfl rfl Rk_nil))))))) ?_
  have q288 : Mb (h287.push (Al.map).obj) h287.next := Mb.new _
  have m288 : Mp (h287.push (Al.map).obj) h287.next k2 Eq ([] : List ((Int × Int) × Value)) := Mp.new h287
  have t288 : Sm Nix h287 (h287.push (Al.map).obj) := .push h287 _
  have n288 : (h287.push (Al.map).obj).next = h287.next + 1 := rfl
  generalize h287.push (Al.map).obj = h288 at m288 q288 t288 n288 ⊢
  replace q287 := q287.sm t288 m287.1 (fun x => x)
  replace m287 := m287.sm t288 (fun x => x) (fun _ _ e => e)
  have T288 : Sm Nix hh h288 := T287.ext t288
  have N288 := T288.nx
  refine NS_b 1 kr ?_
  refine NS_newR (Al.cells [nv c]) (.sl 1 1) rfl kr rfl rfl kr (Rk_1 rfl rfl (Rk_1 rfl rfl (Rk_1 rfl rfl (Rk_1 rfl rfl (Rk_ld _ rfl rfl rfl kr ((cw0.ext (T288.ext (.push h288 _))).ld (o := 1) kr rfl) kr (Rk_1 rfl rfl (Rk_1 rfl rfl (Rk_1 rfl rfl (Rk_1 rfl rfl Rk_nil))))))))) ?_
  have c289 : Cl (h288.push (Al.cells [nv c]).obj) h288.next [nv c] := Cl.new h288 _
  have t289 : Sm Nix h288 (h288.push (Al.cells [nv c]).obj) := .push h288 _
  have n289 : (h288.push (Al.cells [nv c]).obj).next = h288.next + 1 := rfl
  generalize h288.push (Al.cells [nv c]).obj = h289 at c289 t289 n289 ⊢
  replace q287 := q287.sm t289 m287.1 (fun x => x)
  replace q288 := q288.sm t289 m288.1 (fun x => x)
  replace m287 := m287.sm t289 (fun x => x) (fun _ _ e => e)
  replace m288 := m288.sm t289 (fun x => x) (fun _ _ e => e)
  have T289 : Sm Nix hh h289 := T288.ext t289
  have N289 := T289.nx
  refine NS_b 1 kr ?_
  refine NS_nil ?_
  refine L_c rfl rfl kr (repeat_ok (c := c) c289 hn) ?_
  rintro v290 h290 ⟨bb290, hbb290, cc290, e290, t290⟩
  try dsimp only at t290
  dsimp only at cc290 e290 t290
  subst e290
  replace q287 := q287.sm t290 m287.1 (fun x => x)
  replace q288 := q288.sm t290 m288.1 (fun x => x)
  replace c289 := c289.ext t290
  replace m287 := m287.sm t290 (fun x => x) (fun _ _ e => e)
  replace m288 := m288.sm t290 (fun x => x) (fun _ _ e => e)
  have T290 : Sm Nix hh h290 := T289.ext t290
  have N290 := T290.nx
  have M290 := t290.nx
  refine L_nil ⟨rfl, ?_⟩
  refine D_e (e := 14) (l := [11, 12, 13]) (s' := [0]) kr kr rfl kr (Rk_1 rfl rfl (Rk_1 rfl rfl (Rk_1 rfl rfl (Rk_1 rfl rfl (Rk_ld _ rfl rfl rfl kr ((cw0.ext T290).ld (o := 1) kr rfl) kr (Rk_1 rfl rfl (Rk_1 rfl rfl Rk_nil))))))) ?_
  refine NS_b 1 kr ?_
  refine NS_newR (Al.cells [nv 1, .map (some (hh.next)), .map (some (h287.next)), .slice none 0 0, .slice none 0 0, .slice none 0 0, .slice (some ⟨bb290, 0, none⟩) n n]) .ptr rfl kr rfl rfl kr (Rk_1 rfl rfl (Rk_1 rfl rfl (Rk_1 rfl rfl (Rk_1 rfl rfl (Rk_ld _ rfl rfl rfl kr ((cw0.ext (T290.ext (.push h290 _))).ld (o := 1) kr rfl) kr (Rk_1 rfl rfl (Rk_1 rfl rfl (Rk_1 rfl rfl (Rk_1 rfl rfl Rk_nil))))))))) ?_
  have c291 : Cl (h290.push (Al.cells [nv 1, .map (some (hh.next)), .map (some (h287.next)), .slice none 0 0, .slice none 0 0, .slice none 0 0, .slice (some ⟨bb290, 0, none⟩) n n]).obj) h290.next [nv 1, .map (some (hh.next)), .map (some (h287.next)), .slice none 0 0, .slice none 0 0, .slice none 0 0, .slice (some ⟨bb290, 0, none⟩) n n] := Cl.new h290 _
  have t291 : Sm Nix h290 (h290.push (Al.cells [nv 1, .map (some (hh.next)), .map (some (h287.next)), .slice none 0 0, .slice none 0 0, .slice none 0 0, .slice (some ⟨bb290, 0, none⟩) n n]).obj) := .push h290 _
  have n291 : (h290.push (Al.cells [nv 1, .map (some (hh.next)), .map (some (h287.next)), .slice none 0 0, .slice none 0 0, .slice none 0 0, .slice (some ⟨bb290, 0, none⟩) n n]).obj).next = h290.next + 1 := rfl
  generalize h290.push (Al.cells [nv 1, .map (some (hh.next)), .map (some (h287.next)), .slice none 0 0, .slice none 0 0, .slice none 0 0, .slice (some ⟨bb290, 0, none⟩) n n]).obj = h291 at c291 t291 n291 ⊢
  replace q287 := q287.sm t291 m287.1 (fun x => x)
  replace q288 := q288.sm t291 m288.1 (fun x => x)
  replace c289 := c289.ext t291
  replace m287 := m287.sm t291 (fun x => x) (fun _ _ e => e)
  replace m288 := m288.sm t291 (fun x => x) (fun _ _ e => e)
  have T291 : Sm Nix hh h291 := T290.ext t291
  have N291 := T291.nx
  have ccx := cc290.ext t291
  have lbb := cc290.lt
  have ltx := t291
  refine NS_newR (Al.cells [ptr (h290.next)]) (.sl 1 1) rfl kr rfl rfl kr (Rk_1 rfl rfl (Rk_1 rfl rfl (Rk_1 rfl rfl (Rk_1 rfl rfl (Rk_ld _ rfl rfl rfl kr ((cw0.ext (T291.ext (.push h291 _))).ld (o := 1) kr rfl) kr (Rk_1 rfl rfl (Rk_1 rfl rfl (Rk_1 rfl rfl (Rk_1 rfl rfl (Rk_1 rfl rfl Rk_nil)))))))))) ?_
  have c292 : Cl (h291.push (Al.cells [ptr (h290.next)]).obj) h291.next [ptr (h290.next)] := Cl.new h291 _
  have t292 : Sm Nix h291 (h291.push (Al.cells [ptr (h290.next)]).obj) := .push h291 _
  have n292 : (h291.push (Al.cells [ptr (h290.next)]).obj).next = h291.next + 1 := rfl
  generalize h291.push (Al.cells [ptr (h290.next)]).obj = h292 at c292 t292 n292 ⊢
  replace q287 := q287.sm t292 m287.1 (fun x => x)
  replace q288 := q288.sm t292 m288.1 (fun x => x)
  replace c289 := c289.ext t292
  replace c291 := c291.ext t292
  replace m287 := m287.sm t292 (fun x => x) (fun _ _ e => e)
  replace m288 := m288.sm t292 (fun x => x) (fun _ _ e => e)
  have T292 : Sm Nix hh h292 := T291.ext t292
  have N292 := T292.nx
  have ccy := ccx.ext t292
  refine NS_nil ?_
  have l43 := m287.1
  have l44 := m288.1
  obtain ⟨v293, h293, e293, g293, t293, f293⟩ := (g0.ext T292).append (P := Try.prog) (sT := 74) (xT := 74) (el := 77) (by_ := 8) (z := .pointer none) (m := 1) (ds := [ptr (h290.next)]) kr kr kr kr kr rfl (by decide) (c292.sd rfl) (List.all_eq_true.1 rfl) (by omega)
  obtain ⟨va, vc, rfl⟩ := g293.sd.form
  have hnw : ¬ vb (G.S .prs) = some (G.B .wd) := fun e9 => hN.op.ne (r := .prs) (r' := .wd) (by rw [hN.prs]; simp) (by rw [hN.wd]; simp) (by simp) (vb_vbx e9) rfl
  have mRx := m287
  have qRx := q287
  have mEx := m288
  have qEx := q288
  have cPx := c291
  refine L_bi (.slice va (k + 1) vc) h293 rfl rfl kr (vs := [G.S .prs, .slice (some ⟨h291.next, 0, none⟩) 1 1]) kr (bi_append e293) ?_
  replace c289 := c289.lt
  replace c291 := c291.lt
  replace c292 := c292.lt
  have T293 : Sm (fun q => vb (G.S .prs) = some q) h292 h293 := t293
  have N293 := T293.nx
  refine L_nil ⟨rfl, ?_⟩
  refine D_e (e := 17) (l := [15, 16]) (s' := []) kr kr rfl kr (Rk_noRead kr) ?_
  refine NS_b 2 kr ?_
  refine NS_nil ?_
  obtain ⟨h294, e294, d294, t294, n294⟩ := ((cw0.ext T292).sm T293 hnw).store (P := Try.prog) (T := 74) (o := 1) (v := .slice va (k + 1) vc) kr rfl rfl (by simp)
  have NB := T292.nx
  obtain ⟨G2, hN2, hB2⟩ := hN.step T292 (bR := hh.next) (bE := h287.next) (bC := bb290) (bP := h290.next) (by omega) (by omega) (by omega) (by omega) (by omega) mRx qRx mEx qEx (by rw [List.map_replicate]; exact ccy) cPx g293 T293 (fun q hq => .inl hq) (fun q hq => f293 q hq) d294 t294
  have T2 : Sm Nix h h294 := ((TL.ext T292).trans T293 (fun q hq => .inr (hN.mu q ⟨.prs, by rw [hN.prs]; simp, vb_vbx hq⟩))).trans t294 (fun q hq => .inr (hN.mu q ⟨.wd, by rw [hN.wd]; simp, by subst hq; rfl⟩))
  refine L_st _ rfl rfl rfl kr kr (e294) ?_
  have T294 : Sm Nix h294 h294 := .refl
  refine L_nil ⟨rfl, ?_⟩
  refine D_l (l := []) kr kr Rk_nil ?_
  refine NS_nil ?_
  refine W_region ?_
  refine L_i ((k : Int)) (1) (nv ((k + 1 : Nat) : Int)) rfl rfl kr kr rfl (inc_ok (by omega)) ?_
  refine L_g 1 kr ?_
  refine L_nil ?_
  exact ⟨n - (k + 1), by omega, k + 1, G2, rfl, by omega, hN2, T2, hB2.trans hB, kr, kr, (by rw [← hB]; kernel_rfl), kr, kr⟩
 ·
  have hge : k = n := by simp at hb; omega
  subst hge
  refine W_exit ?_
  repeat with_reducible refine then_exit ?_
  refine exit_here ?_
  refine W_seq ?_
  refine W_region ?_
  refine L_g 3 kr ?_
  refine L_nil ?_
  refine W_ret ?_
  repeat first | with_reducible refine then_ret ?_ | with_reducible refine blk_ret ?_
  obtain ⟨G3, R3, hB3, hm3⟩ := hN.rep
  refine done_of (v := .tuple ⟨[ptr (G.B .wd), nv 0]⟩) (.inl rfl) kr ?_
  exact ⟨G3, by rw [hB3], R3, hm3, TL⟩
end
end Go.Proofs.Ytmehemeoaplepaa
