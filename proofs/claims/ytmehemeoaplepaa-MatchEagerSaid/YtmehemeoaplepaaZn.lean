/- Worlds of the program and walks of its functions. -/
import Derived.Test.YtmehemeoaplepaaZm
import Derived.Test.YtmehemeoaplepaaZk
namespace Go.Proofs.Ytmehemeoaplepaa
noncomputable section
open Go Go.X Go.Arm Go.Mt
theorem drop_cons {α : Type} {l : List α} {k : Nat} {x : α} (hx : l[k]? = some x) : l.drop k = x :: l.drop (k + 1) := by
 obtain ⟨h1, h2⟩ := List.getElem?_eq_some_iff.1 hx
 rw [List.drop_eq_getElem_cons h1, h2]
set_option maxHeartbeats 1000000 in
theorem call_ok {W : Wd} {G : Gh} {h : AH} {p : Nat} {W' : Wd} (R : Rep W G h) (hp : p < W.n) (he : W.call p = some W') :
   Arm.Calls Try.prog 36 [ptr (G.B .wd), nv (p : Int)] h (fun r => r.1 = nv ((W.pr p).inb.length : Int) ∧ Nxt W' G h r.2) := by
 unfold Wd.call at he
 split at he
 rotate_right
 · cases he
 rename_i hbig
 have hbig : (W.pr p).inb.length < 1000000000 := hbig
 obtain ⟨cs, g0, ls⟩ := R.inb hp
 refine Calls_of_W (n := 43) (fn := Try.f36) kr rfl rfl (Nat.le_of_ble_eq_true rfl) trivial ⟨.inr (by simp), rfl⟩ ?_
 have T0 : Sm Nix h h := .refl
 refine W_seq ?_
 refine W_region ?_
 refine L_g 1 kr ?_
 refine L_nil ?_
 refine W_seq ?_
 refine W_region ?_
 refine L_g 3 kr ?_
 refine L_ld _ rfl rfl kr ((R.ext T0).wdL.ld (o := 1) kr rfl) ?_
 refine L_g 1 kr ?_
 obtain ⟨b1, o1, i1, l1⟩ := (R.ext T0).prsAt (P := Try.prog) (T := 74) (el := 77) kr kr kr hp
 refine L_ix _ rfl rfl kr kr (i1) ?_
 refine L_ld _ rfl rfl kr (l1) ?_
 refine L_g 2 kr ?_
 refine L_ld _ rfl rfl kr (((R.ext T0).prL hp).ld (o := 3) kr rfl) ?_
 refine L_g 1 kr ?_
 refine L_nil ?_
 refine W_seq ?_
 refine W_region ?_
 refine L_g 3 kr ?_
 refine L_ld _ rfl rfl kr ((R.ext T0).wdL.ld (o := 1) kr rfl) ?_
 refine L_g 1 kr ?_
 obtain ⟨b1, o1, i1, l1⟩ := (R.ext T0).prsAt (P := Try.prog) (T := 74) (el := 77) kr kr kr hp
 refine L_ix _ rfl rfl kr kr (i1) ?_
 refine L_ld _ rfl rfl kr (l1) ?_
 refine L_g 2 kr ?_
 obtain ⟨h95, e95, d95, t95, n95⟩ := ((R.ext T0).prL hp).store (P := Try.prog) (T := 81) (o := 3) (v := .slice none 0 0) kr rfl rfl (by simp [prC])
 have hpe : ∀ b, vb (G.S (.inb p)) = some b → ¬ b = G.B (.pr p) := fun b hb e => R.op.ne (r := .inb p) (r' := .pr p) (by obtain ⟨cs, e, _⟩ := (R.rel.pr p hp).inb; rw [e]; simp) (by rw [(R.rel.pr p hp).pr]; simp) (by simp) (vb_vbx hb) (by rw [e]; rfl)
 obtain ⟨S0, C0, ro0, ⟨R0, Y0⟩, nm0⟩ := (R.ext T0).nilInb hp d95 t95
 have hs0 := (g0.sd.ext T0).sm t95 hpe
 have X0 := (Gx.of T0).trans Y0
 have ls0 := ls.mono (fun _ _ z => z.mono (Gx.dr X0 R.op))
 refine L_st _ rfl rfl rfl kr kr (e95) ?_
 have T95 : Sm Nix h95 h95 := .refl
 refine L_nil ?_
 refine W_seq ?_
 refine W_seq ?_
 refine W_region ?_
 refine L_g 1 kr ?_
 refine L_ln _ rfl rfl kr (hs0.len (T := 81) (el := 101) kr) ?_
 refine L_g 1 kr ?_
 refine L_nil ?_
 refine W_block ?_
 refine W_loop (fun mm fr hh => ∃ (k : Nat) (Wk : Wd) (Sk : Ro → Value) (Ck : Ro → Th) (rk : Nat → Prop), mm = (W.pr p).inb.length - k ∧ k ≤ (W.pr p).inb.length ∧ Wd.handles p Wk ((W.pr p).inb.drop k) = some W' ∧ Wk.n = W.n ∧ Rep Wk (⟨G.B, Sk, Ck, rk⟩ : Gh) hh ∧ Gx G h (⟨G.B, Sk, Ck, rk⟩ : Gh) hh ∧ Sd hh 2 (G.S (.inb p)) (W.pr p).inb.length cs ∧ (∀ b, vb (G.S (.inb p)) = some b → ¬ Gh.mut (⟨G.B, Sk, Ck, rk⟩ : Gh) b ∧ ¬ rk b) ∧ Ls (RAr hh rk) 2 (W.pr p).inb cs ∧
     fr 0 = ptr (G.B .wd) ∧ fr 1 = nv (p : Int) ∧ fr 5 = G.S (.inb p) ∧ fr 27 = G.S (.inb p) ∧ fr 28 = nv ((W.pr p).inb.length : Int) ∧ fr 29 = nv (k : Int)) ((W.pr p).inb.length) ?_ ?_
 ·
   exact ⟨0, W.setPr p { W.pr p with inb := [] }, S0, C0, ro0, rfl, Nat.zero_le _, by rw [List.drop_zero]; exact he, rfl, R0, X0, hs0, nm0, ls0, kr, kr, kr, kr, kr, kr⟩
 clear hs0 nm0 ls0 R0 X0
 rintro mm fr hh ⟨k, Wk, Sk, Ck, rk, hm, hk, hst, hn, Rk, Xk, hs, hb9, ls, y0, y1, y5, y27, y28, y29⟩
 refine W_set (k := 0) y0 ?_
 refine W_set (k := 1) y1 ?_
 refine W_set (k := 5) y5 ?_
 refine W_set (k := 27) y27 ?_
 refine W_set (k := 28) y28 ?_
 refine W_set (k := 29) y29 ?_
 have TK : Sm Nix hh hh := .refl
 have NK := Xk.sm.nx
 refine W_seq ?_
 refine W_region ?_
 refine L_g 1 kr ?_
 refine L_nil ?_
 refine W_seq ?_
 refine W_cond (decide ((k : Int) < ((W.pr p).inb.length : Nat))) kr (fun hb => ?_) (fun hb => ?_)
 ·
   have hlt : k < (W.pr p).inb.length := by simp at hb; omega
   obtain ⟨x, hx⟩ : ∃ x, (W.pr p).inb[k]? = some x := ⟨_, List.getElem?_eq_getElem hlt⟩
   rw [drop_cons hx] at hst
   obtain ⟨W1, hst, hst2⟩ := Wd.handles_cons hst
   have hn1 : W1.n = W.n := (Wd.handle_n hst).trans hn
   obtain ⟨c, ⟨pv, hpv, rfl⟩, hcl, hcc⟩ := ls.get hx
   obtain ⟨f, pk⟩ := x
   dsimp only at hpv hst hcc
   obtain ⟨b9, o9, _, i9, l9⟩ := hs.at (P := Try.prog) (T := 81) (el := 101) kr kr hlt .i64
   have hp' : p < Wk.n := by rw [hn]; exact hp
   have hl9 : ∀ j, j < 2 → hh.cell ⟨b9, o9 + j, none⟩ = [nv f, pv][j]? := fun j hj => (l9 j hj).trans (hcc j hj)
   refine W_skip ?_
   refine W_seq ?_
   refine W_block ?_
   refine W_seq ?_
   rcases pk with ⟨e, d⟩ | ⟨e, q⟩ | _ | q | ⟨q, d⟩ | ⟨q, i, d⟩
   rotate_right
   · cases hst
   ·
     obtain ⟨dv, hd, rfl⟩ := hpv
     obtain ⟨da, dc, rfl⟩ := hd.1.form
     have he1 : Wk.came p (.eager e d) = some W1 := hst
     refine W_region ?_
     refine L_ix _ rfl rfl kr kr (i9) ?_
     refine L_ld _ rfl rfl kr (ld_l (l := [nv f, .iface Tys.e (.agg ⟨[nv e.src, nv e.ctx, nv e.tag, nv e.size, nv e.parts, .slice da (List.map bv d).length dc]⟩)]) kr (fun j hj => hl9 j hj)) ?_
     refine L_nw (Al.cells [nv 0, .nilIface]) .ptr rfl rfl kr ?_
     have m96 : ¬ (Gh.mut (⟨G.B, Sk, Ck, rk⟩ : Gh)) hh.next ∧ ¬ (Gh.ro (⟨G.B, Sk, Ck, rk⟩ : Gh)) hh.next := ⟨(Rk.ext TK).op.new (Nat.le_refl _), (Rk.ext TK).op.newr (Nat.le_refl _)⟩
     have c96 : Cl (hh.push (Al.cells [nv 0, .nilIface]).obj) hh.next [nv 0, .nilIface] := Cl.new hh _
     have t96 : Sm Nix hh (hh.push (Al.cells [nv 0, .nilIface]).obj) := .push hh _
     have n96 : (hh.push (Al.cells [nv 0, .nilIface]).obj).next = hh.next + 1 := rfl
     generalize hh.push (Al.cells [nv 0, .nilIface]).obj = h96 at c96 t96 n96 ⊢
     have T96 : Sm Nix hh h96 := TK.ext t96
     have N96 := T96.nx
     obtain ⟨h97, e97, d97, t97, n97⟩ := Cl.storeN (P := Try.prog) (T := 101) (n := 2) (v := .agg ⟨[nv f, .iface Tys.e (.agg ⟨[nv e.src, nv e.ctx, nv e.tag, nv e.size, nv e.parts, .slice da (List.map bv d).length dc]⟩)]⟩) (cs := [nv f, .iface Tys.e (.agg ⟨[nv e.src, nv e.ctx, nv e.tag, nv e.size, nv e.parts, .slice da (List.map bv d).length dc]⟩)]) c96 rfl kr rfl rfl (List.all_eq_true.1 rfl)
     replace c96 := d97
     have T97 : Sm Nix hh h97 := T96.trans t97 (fun x hx => by have hx : x = hh.next := hx; first | exact .inr (by omega) | exact .inl (by subst hx; first | rfl | exact .inl rfl | exact .inr rfl | exact .inr (.inl rfl) | exact .inr (.inr rfl) | (show _ < _; omega)))
     have N97 := T97.nx
     refine L_st _ rfl rfl rfl kr kr (e97) ?_
     refine L_nil ?_
     refine W_region ?_
     refine L_g 1 kr ?_
     refine L_ld _ rfl rfl kr (c96.ld (o := 1) kr rfl) ?_
     refine L_g 3 kr ?_
     refine L_ld _ rfl rfl kr (c96.ld (o := 0) kr rfl) ?_
     refine L_c rfl rfl kr (heager_ok (f := f) (Rk.ext T97) hp' (Dr.ext hd T97) he1) ?_
     rintro v98 h98 N98
     dsimp only at N98
     obtain ⟨S98, C98, ro98, R98, Y98⟩ := N98
     have X98 := ((Xk).trans (Gx.of T97)).trans Y98
     have m96_98 : ¬ (Gh.mut ⟨Gh.B (⟨G.B, Sk, Ck, rk⟩ : Gh), S98, C98, ro98⟩) (hh.next) ∧ ¬ (Gh.ro ⟨Gh.B (⟨G.B, Sk, Ck, rk⟩ : Gh), S98, C98, ro98⟩) (hh.next) := ⟨fun hm => (Y98.mu _ hm).elim m96.1 (fun e => by have := c96.lt; omega), fun hm => (Y98.ron _ hm).elim m96.2 (fun e => by have := c96.lt; omega)⟩
     replace c96 := c96.sm Y98.sm m96.1
     have T98 : Sm (Ow h (⟨Gh.B (⟨G.B, Sk, Ck, rk⟩ : Gh), S98, C98, ro98⟩ : Gh)) h98 h98 := .refl
     have hc9 := hs.ext T97
     have hs9 := hc9.sm Y98.sm (fun b hb => (hb9 b hb).1)
     have nm9 : ∀ b, vb (G.S (.inb p)) = some b → ¬ (Gh.mut ⟨G.B, S98, C98, ro98⟩) b ∧ ¬ ro98 b := fun b hb => ⟨fun hm => (Y98.mu b hm).elim (hb9 b hb).1 (fun e => by have := hc9.lt hb; omega), fun hm => (Y98.ron b hm).elim (hb9 b hb).2 (fun e => by have := hc9.lt hb; omega)⟩
     have ls9 := ls.mono (fun _ _ z => z.mono (Gx.dr ((Gx.of T97).trans Y98) Rk.op))
     refine L_nil ?_
     refine W_region ?_
     refine L_i ((k : Int)) (1) (nv ((k + 1 : Nat) : Int)) rfl rfl kr kr rfl (inc_ok (by omega)) ?_
     refine L_g 1 kr ?_
     refine L_nil ?_
     exact ⟨(W.pr p).inb.length - (k + 1), by omega, k + 1, _, _, _, _, rfl, by omega, hst2, hn1, (R98.ow T98), ((X98).ow T98), hs9, nm9, ls9, kr, kr, kr, kr, kr, kr⟩
   ·
     obtain rfl := hpv
     have he1 : Wk.came p (.ask e q) = some W1 := hst
     refine W_region ?_
     refine L_ix _ rfl rfl kr kr (i9) ?_
     refine L_ld _ rfl rfl kr (ld_l (l := [nv f, .iface Tys.a (.agg ⟨[nv e.src, nv e.ctx, nv e.tag, nv e.size, nv e.parts, nv q]⟩)]) kr (fun j hj => hl9 j hj)) ?_
     refine L_nw (Al.cells [nv 0, .nilIface]) .ptr rfl rfl kr ?_
     have m99 : ¬ (Gh.mut (⟨G.B, Sk, Ck, rk⟩ : Gh)) hh.next ∧ ¬ (Gh.ro (⟨G.B, Sk, Ck, rk⟩ : Gh)) hh.next := ⟨(Rk.ext TK).op.new (Nat.le_refl _), (Rk.ext TK).op.newr (Nat.le_refl _)⟩
     have c99 : Cl (hh.push (Al.cells [nv 0, .nilIface]).obj) hh.next [nv 0, .nilIface] := Cl.new hh _
     have t99 : Sm Nix hh (hh.push (Al.cells [nv 0, .nilIface]).obj) := .push hh _
     have n99 : (hh.push (Al.cells [nv 0, .nilIface]).obj).next = hh.next + 1 := rfl
     generalize hh.push (Al.cells [nv 0, .nilIface]).obj = h99 at c99 t99 n99 ⊢
     have T99 : Sm Nix hh h99 := TK.ext t99
     have N99 := T99.nx
     obtain ⟨h100, e100, d100, t100, n100⟩ := Cl.storeN (P := Try.prog) (T := 101) (n := 2) (v := .agg ⟨[nv f, .iface Tys.a (.agg ⟨[nv e.src, nv e.ctx, nv e.tag, nv e.size, nv e.parts, nv q]⟩)]⟩) (cs := [nv f, .iface Tys.a (.agg ⟨[nv e.src, nv e.ctx, nv e.tag, nv e.size, nv e.parts, nv q]⟩)]) c99 rfl kr rfl rfl (List.all_eq_true.1 rfl)
     replace c99 := d100
     have T100 : Sm Nix hh h100 := T99.trans t100 (fun x hx => by have hx : x = hh.next := hx; first | exact .inr (by omega) | exact .inl (by subst hx; first | rfl | exact .inl rfl | exact .inr rfl | exact .inr (.inl rfl) | exact .inr (.inr rfl) | (show _ < _; omega)))
     have N100 := T100.nx
     refine L_st _ rfl rfl rfl kr kr (e100) ?_
     refine L_nil ?_
     refine W_region ?_
     refine L_g 1 kr ?_
     refine L_ld _ rfl rfl kr (c99.ld (o := 1) kr rfl) ?_
     refine L_g 3 kr ?_
     refine L_ld _ rfl rfl kr (c99.ld (o := 0) kr rfl) ?_
     refine L_c rfl rfl kr (hask_ok (f := f) (Rk.ext T100) hp' he1) ?_
     rintro v101 h101 N101
     dsimp only at N101
     obtain ⟨S101, C101, ro101, R101, Y101⟩ := N101
     have X101 := ((Xk).trans (Gx.of T100)).trans Y101
     have m99_101 : ¬ (Gh.mut ⟨Gh.B (⟨G.B, Sk, Ck, rk⟩ : Gh), S101, C101, ro101⟩) (hh.next) ∧ ¬ (Gh.ro ⟨Gh.B (⟨G.B, Sk, Ck, rk⟩ : Gh), S101, C101, ro101⟩) (hh.next) := ⟨fun hm => (Y101.mu _ hm).elim m99.1 (fun e => by have := c99.lt; omega), fun hm => (Y101.ron _ hm).elim m99.2 (fun e => by have := c99.lt; omega)⟩
     replace c99 := c99.sm Y101.sm m99.1
     have T101 : Sm (Ow h (⟨Gh.B (⟨G.B, Sk, Ck, rk⟩ : Gh), S101, C101, ro101⟩ : Gh)) h101 h101 := .refl
     have hc9 := hs.ext T100
     have hs9 := hc9.sm Y101.sm (fun b hb => (hb9 b hb).1)
     have nm9 : ∀ b, vb (G.S (.inb p)) = some b → ¬ (Gh.mut ⟨G.B, S101, C101, ro101⟩) b ∧ ¬ ro101 b := fun b hb => ⟨fun hm => (Y101.mu b hm).elim (hb9 b hb).1 (fun e => by have := hc9.lt hb; omega), fun hm => (Y101.ron b hm).elim (hb9 b hb).2 (fun e => by have := hc9.lt hb; omega)⟩
     have ls9 := ls.mono (fun _ _ z => z.mono (Gx.dr ((Gx.of T100).trans Y101) Rk.op))
     refine L_nil ?_
     refine W_region ?_
     refine L_i ((k : Int)) (1) (nv ((k + 1 : Nat) : Int)) rfl rfl kr kr rfl (inc_ok (by omega)) ?_
     refine L_g 1 kr ?_
     refine L_nil ?_
     exact ⟨(W.pr p).inb.length - (k + 1), by omega, k + 1, _, _, _, _, rfl, by omega, hst2, hn1, (R101.ow T101), ((X101).ow T101), hs9, nm9, ls9, kr, kr, kr, kr, kr, kr⟩
   ·
     obtain rfl := hpv
     unfold Wd.handle at hst
     dsimp only at hst
     split at hst
     rotate_right
     · cases hst
     rename_i hcr
     obtain rfl := Option.some.inj hst
     obtain ⟨i, rfl⟩ : ∃ i : Nat, f = (i : Int) := ⟨f.toNat, by omega⟩
     simp only [Int.toNat_natCast] at hst2 hcr ⊢
     refine W_region ?_
     refine L_ix _ rfl rfl kr kr (i9) ?_
     refine L_ld _ rfl rfl kr (ld_l (l := [nv (i : Int), .iface Tys.c (.agg ⟨[]⟩)]) kr (fun j hj => hl9 j hj)) ?_
     refine L_nw (Al.cells [nv 0, .nilIface]) .ptr rfl rfl kr ?_
     have m102 : ¬ (Gh.mut (⟨G.B, Sk, Ck, rk⟩ : Gh)) hh.next ∧ ¬ (Gh.ro (⟨G.B, Sk, Ck, rk⟩ : Gh)) hh.next := ⟨(Rk.ext TK).op.new (Nat.le_refl _), (Rk.ext TK).op.newr (Nat.le_refl _)⟩
     have c102 : Cl (hh.push (Al.cells [nv 0, .nilIface]).obj) hh.next [nv 0, .nilIface] := Cl.new hh _
     have t102 : Sm Nix hh (hh.push (Al.cells [nv 0, .nilIface]).obj) := .push hh _
     have n102 : (hh.push (Al.cells [nv 0, .nilIface]).obj).next = hh.next + 1 := rfl
     generalize hh.push (Al.cells [nv 0, .nilIface]).obj = h102 at c102 t102 n102 ⊢
     have T102 : Sm Nix hh h102 := TK.ext t102
     have N102 := T102.nx
     obtain ⟨h103, e103, d103, t103, n103⟩ := Cl.storeN (P := Try.prog) (T := 101) (n := 2) (v := .agg ⟨[nv (i : Int), .iface Tys.c (.agg ⟨[]⟩)]⟩) (cs := [nv (i : Int), .iface Tys.c (.agg ⟨[]⟩)]) c102 rfl kr rfl rfl (List.all_eq_true.1 rfl)
     replace c102 := d103
     have T103 : Sm Nix hh h103 := T102.trans t103 (fun x hx => by have hx : x = hh.next := hx; first | exact .inr (by omega) | exact .inl (by subst hx; first | rfl | exact .inl rfl | exact .inr rfl | exact .inr (.inl rfl) | exact .inr (.inr rfl) | (show _ < _; omega)))
     have N103 := T103.nx
     refine L_st _ rfl rfl rfl kr kr (e103) ?_
     refine L_nil ?_
     refine W_region ?_
     refine L_g 1 kr ?_
     refine L_ld _ rfl rfl kr (c102.ld (o := 1) kr rfl) ?_
     refine L_g 3 kr ?_
     refine L_ld _ rfl rfl kr (c102.ld (o := 0) kr rfl) ?_
     refine L_c rfl rfl kr (hcredit_ok (i := i) (Rk.ext T103) hp' (by omega) hcr.2.2.1 (Int.lt_of_lt_of_le (by decide) hcr.2.2.2)) ?_
     rintro v104 h104 N104
     dsimp only at N104
     obtain ⟨S104, C104, ro104, R104, Y104⟩ := N104
     have X104 := ((Xk).trans (Gx.of T103)).trans Y104
     have m102_104 : ¬ (Gh.mut ⟨Gh.B (⟨G.B, Sk, Ck, rk⟩ : Gh), S104, C104, ro104⟩) (hh.next) ∧ ¬ (Gh.ro ⟨Gh.B (⟨G.B, Sk, Ck, rk⟩ : Gh), S104, C104, ro104⟩) (hh.next) := ⟨fun hm => (Y104.mu _ hm).elim m102.1 (fun e => by have := c102.lt; omega), fun hm => (Y104.ron _ hm).elim m102.2 (fun e => by have := c102.lt; omega)⟩
     replace c102 := c102.sm Y104.sm m102.1
     have T104 : Sm (Ow h (⟨Gh.B (⟨G.B, Sk, Ck, rk⟩ : Gh), S104, C104, ro104⟩ : Gh)) h104 h104 := .refl
     have hc9 := hs.ext T103
     have hs9 := hc9.sm Y104.sm (fun b hb => (hb9 b hb).1)
     have nm9 : ∀ b, vb (G.S (.inb p)) = some b → ¬ (Gh.mut ⟨G.B, S104, C104, ro104⟩) b ∧ ¬ ro104 b := fun b hb => ⟨fun hm => (Y104.mu b hm).elim (hb9 b hb).1 (fun e => by have := hc9.lt hb; omega), fun hm => (Y104.ron b hm).elim (hb9 b hb).2 (fun e => by have := hc9.lt hb; omega)⟩
     have ls9 := ls.mono (fun _ _ z => z.mono (Gx.dr ((Gx.of T103).trans Y104) Rk.op))
     refine L_nil ?_
     refine W_region ?_
     refine L_i ((k : Int)) (1) (nv ((k + 1 : Nat) : Int)) rfl rfl kr kr rfl (inc_ok (by omega)) ?_
     refine L_g 1 kr ?_
     refine L_nil ?_
     exact ⟨(W.pr p).inb.length - (k + 1), by omega, k + 1, _, _, _, _, rfl, by omega, hst2, hn1, (R104.ow T104), ((X104).ow T104), hs9, nm9, ls9, kr, kr, kr, kr, kr, kr⟩
   ·
     obtain rfl := hpv
     unfold Wd.handle at hst
     dsimp only at hst
     split at hst
     rotate_right
     · cases hst
     rename_i hcr
     split at hst
     rotate_right
     · cases hst
     rename_i hcp
     rw [Option.map_eq_some_iff] at hst
     obtain ⟨W2, hw2, rfl⟩ := hst
     obtain ⟨i, rfl⟩ : ∃ i : Nat, q = (i : Int) := ⟨q.toNat, by omega⟩
     simp only [Int.toNat_natCast] at hst2 hcr hcp hw2 ⊢
     refine W_region ?_
     refine L_ix _ rfl rfl kr kr (i9) ?_
     refine L_ld _ rfl rfl kr (ld_l (l := [nv f, .iface Tys.l (.agg ⟨[nv (i : Int)]⟩)]) kr (fun j hj => hl9 j hj)) ?_
     refine L_nw (Al.cells [nv 0, .nilIface]) .ptr rfl rfl kr ?_
     have m105 : ¬ (Gh.mut (⟨G.B, Sk, Ck, rk⟩ : Gh)) hh.next ∧ ¬ (Gh.ro (⟨G.B, Sk, Ck, rk⟩ : Gh)) hh.next := ⟨(Rk.ext TK).op.new (Nat.le_refl _), (Rk.ext TK).op.newr (Nat.le_refl _)⟩
     have c105 : Cl (hh.push (Al.cells [nv 0, .nilIface]).obj) hh.next [nv 0, .nilIface] := Cl.new hh _
     have t105 : Sm Nix hh (hh.push (Al.cells [nv 0, .nilIface]).obj) := .push hh _
     have n105 : (hh.push (Al.cells [nv 0, .nilIface]).obj).next = hh.next + 1 := rfl
     generalize hh.push (Al.cells [nv 0, .nilIface]).obj = h105 at c105 t105 n105 ⊢
     have T105 : Sm Nix hh h105 := TK.ext t105
     have N105 := T105.nx
     obtain ⟨h106, e106, d106, t106, n106⟩ := Cl.storeN (P := Try.prog) (T := 101) (n := 2) (v := .agg ⟨[nv f, .iface Tys.l (.agg ⟨[nv (i : Int)]⟩)]⟩) (cs := [nv f, .iface Tys.l (.agg ⟨[nv (i : Int)]⟩)]) c105 rfl kr rfl rfl (List.all_eq_true.1 rfl)
     replace c105 := d106
     have T106 : Sm Nix hh h106 := T105.trans t106 (fun x hx => by have hx : x = hh.next := hx; first | exact .inr (by omega) | exact .inl (by subst hx; first | rfl | exact .inl rfl | exact .inr rfl | exact .inr (.inl rfl) | exact .inr (.inr rfl) | (show _ < _; omega)))
     have N106 := T106.nx
     refine L_st _ rfl rfl rfl kr kr (e106) ?_
     refine L_nil ?_
     refine W_region ?_
     refine L_g 1 kr ?_
     refine L_ld _ rfl rfl kr (c105.ld (o := 1) kr rfl) ?_
     refine L_g 3 kr ?_
     refine L_ld _ rfl rfl kr (c105.ld (o := 0) kr rfl) ?_
     refine L_c rfl rfl kr (hclear_ok (Rk.ext T106) hp' hcr.2 hcp hw2) ?_
     rintro v107 h107 N107
     dsimp only at N107
     obtain ⟨S107, C107, ro107, R107, Y107⟩ := N107
     have X107 := ((Xk).trans (Gx.of T106)).trans Y107
     have m105_107 : ¬ (Gh.mut ⟨Gh.B (⟨G.B, Sk, Ck, rk⟩ : Gh), S107, C107, ro107⟩) (hh.next) ∧ ¬ (Gh.ro ⟨Gh.B (⟨G.B, Sk, Ck, rk⟩ : Gh), S107, C107, ro107⟩) (hh.next) := ⟨fun hm => (Y107.mu _ hm).elim m105.1 (fun e => by have := c105.lt; omega), fun hm => (Y107.ron _ hm).elim m105.2 (fun e => by have := c105.lt; omega)⟩
     replace c105 := c105.sm Y107.sm m105.1
     have T107 : Sm (Ow h (⟨Gh.B (⟨G.B, Sk, Ck, rk⟩ : Gh), S107, C107, ro107⟩ : Gh)) h107 h107 := .refl
     have hc9 := hs.ext T106
     have hs9 := hc9.sm Y107.sm (fun b hb => (hb9 b hb).1)
     have nm9 : ∀ b, vb (G.S (.inb p)) = some b → ¬ (Gh.mut ⟨G.B, S107, C107, ro107⟩) b ∧ ¬ ro107 b := fun b hb => ⟨fun hm => (Y107.mu b hm).elim (hb9 b hb).1 (fun e => by have := hc9.lt hb; omega), fun hm => (Y107.ron b hm).elim (hb9 b hb).2 (fun e => by have := hc9.lt hb; omega)⟩
     have ls9 := ls.mono (fun _ _ z => z.mono (Gx.dr ((Gx.of T106).trans Y107) Rk.op))
     refine L_nil ?_
     refine W_region ?_
     refine L_i ((k : Int)) (1) (nv ((k + 1 : Nat) : Int)) rfl rfl kr kr rfl (inc_ok (by omega)) ?_
     refine L_g 1 kr ?_
     refine L_nil ?_
     exact ⟨(W.pr p).inb.length - (k + 1), by omega, k + 1, _, _, _, _, rfl, by omega, hst2, hn1, (R107.ow T107), ((X107).ow T107), hs9, nm9, ls9, kr, kr, kr, kr, kr, kr⟩
   ·
     obtain ⟨dv, hd, rfl⟩ := hpv
     obtain ⟨da, dc, rfl⟩ := hd.1.form
     unfold Wd.handle at hst
     dsimp only at hst
     split at hst
     rotate_right
     · cases hst
     rename_i no hkx
     split at hst
     rotate_right
     · cases hst
     rename_i hcr
     obtain rfl := Option.some.inj hst
     refine W_region ?_
     refine L_ix _ rfl rfl kr kr (i9) ?_
     refine L_ld _ rfl rfl kr (ld_l (l := [nv f, .iface Tys.b (.agg ⟨[nv q, .slice da (List.map bv d).length dc]⟩)]) kr (fun j hj => hl9 j hj)) ?_
     refine L_nw (Al.cells [nv 0, .nilIface]) .ptr rfl rfl kr ?_
     have m108 : ¬ (Gh.mut (⟨G.B, Sk, Ck, rk⟩ : Gh)) hh.next ∧ ¬ (Gh.ro (⟨G.B, Sk, Ck, rk⟩ : Gh)) hh.next := ⟨(Rk.ext TK).op.new (Nat.le_refl _), (Rk.ext TK).op.newr (Nat.le_refl _)⟩
     have c108 : Cl (hh.push (Al.cells [nv 0, .nilIface]).obj) hh.next [nv 0, .nilIface] := Cl.new hh _
     have t108 : Sm Nix hh (hh.push (Al.cells [nv 0, .nilIface]).obj) := .push hh _
     have n108 : (hh.push (Al.cells [nv 0, .nilIface]).obj).next = hh.next + 1 := rfl
     generalize hh.push (Al.cells [nv 0, .nilIface]).obj = h108 at c108 t108 n108 ⊢
     have T108 : Sm Nix hh h108 := TK.ext t108
     have N108 := T108.nx
     obtain ⟨h109, e109, d109, t109, n109⟩ := Cl.storeN (P := Try.prog) (T := 101) (n := 2) (v := .agg ⟨[nv f, .iface Tys.b (.agg ⟨[nv q, .slice da (List.map bv d).length dc]⟩)]⟩) (cs := [nv f, .iface Tys.b (.agg ⟨[nv q, .slice da (List.map bv d).length dc]⟩)]) c108 rfl kr rfl rfl (List.all_eq_true.1 rfl)
     replace c108 := d109
     have T109 : Sm Nix hh h109 := T108.trans t109 (fun x hx => by have hx : x = hh.next := hx; first | exact .inr (by omega) | exact .inl (by subst hx; first | rfl | exact .inl rfl | exact .inr rfl | exact .inr (.inl rfl) | exact .inr (.inr rfl) | (show _ < _; omega)))
     have N109 := T109.nx
     refine L_st _ rfl rfl rfl kr kr (e109) ?_
     refine L_nil ?_
     refine W_region ?_
     refine L_g 1 kr ?_
     refine L_ld _ rfl rfl kr (c108.ld (o := 1) kr rfl) ?_
     refine L_g 3 kr ?_
     refine L_ld _ rfl rfl kr (c108.ld (o := 0) kr rfl) ?_
     refine L_c rfl rfl kr (hbody_ok (Rk.ext T109) hp' hkx (Dr.ext hd T109) hcr.1 hcr.2) ?_
     rintro v110 h110 N110
     dsimp only at N110
     obtain ⟨S110, C110, ro110, R110, Y110⟩ := N110
     have X110 := ((Xk).trans (Gx.of T109)).trans Y110
     have m108_110 : ¬ (Gh.mut ⟨Gh.B (⟨G.B, Sk, Ck, rk⟩ : Gh), S110, C110, ro110⟩) (hh.next) ∧ ¬ (Gh.ro ⟨Gh.B (⟨G.B, Sk, Ck, rk⟩ : Gh), S110, C110, ro110⟩) (hh.next) := ⟨fun hm => (Y110.mu _ hm).elim m108.1 (fun e => by have := c108.lt; omega), fun hm => (Y110.ron _ hm).elim m108.2 (fun e => by have := c108.lt; omega)⟩
     replace c108 := c108.sm Y110.sm m108.1
     have T110 : Sm (Ow h (⟨Gh.B (⟨G.B, Sk, Ck, rk⟩ : Gh), S110, C110, ro110⟩ : Gh)) h110 h110 := .refl
     have hc9 := hs.ext T109
     have hs9 := hc9.sm Y110.sm (fun b hb => (hb9 b hb).1)
     have nm9 : ∀ b, vb (G.S (.inb p)) = some b → ¬ (Gh.mut ⟨G.B, S110, C110, ro110⟩) b ∧ ¬ ro110 b := fun b hb => ⟨fun hm => (Y110.mu b hm).elim (hb9 b hb).1 (fun e => by have := hc9.lt hb; omega), fun hm => (Y110.ron b hm).elim (hb9 b hb).2 (fun e => by have := hc9.lt hb; omega)⟩
     have ls9 := ls.mono (fun _ _ z => z.mono (Gx.dr ((Gx.of T109).trans Y110) Rk.op))
     refine L_nil ?_
     refine W_region ?_
     refine L_i ((k : Int)) (1) (nv ((k + 1 : Nat) : Int)) rfl rfl kr kr rfl (inc_ok (by omega)) ?_
     refine L_g 1 kr ?_
     refine L_nil ?_
     exact ⟨(W.pr p).inb.length - (k + 1), by omega, k + 1, _, _, _, _, rfl, by omega, hst2, hn1, (R110.ow T110), ((X110).ow T110), hs9, nm9, ls9, kr, kr, kr, kr, kr, kr⟩
 ·
   have hge : k = (W.pr p).inb.length := by simp at hb; omega
   subst hge
   rw [List.drop_length] at hst
   obtain rfl := Option.some.inj hst
   refine W_exit ?_
   repeat with_reducible refine then_exit ?_
   refine exit_here ?_
   refine W_seq ?_
   refine W_region ?_
   refine L_g 1 kr ?_
   refine L_ln _ rfl rfl kr (hs.len (T := 81) (el := 101) kr) ?_
   refine L_g 1 kr ?_
   refine L_nil ?_
   refine W_ret ?_
   repeat first | with_reducible refine then_ret ?_ | with_reducible refine blk_ret ?_
   refine done_of (v := nv ((W.pr p).inb.length : Int)) (.inl rfl) kr ?_
   exact ⟨rfl, _, _, _, (Rk.ext TK), ((Xk).trans (Gx.of TK))⟩
end
end Go.Proofs.Ytmehemeoaplepaa
namespace Go.Arm
noncomputable section
open Go Go.X Go.Mt
variable [Tys]
section
variable {W W' : Wd} {G G0 : Gh} {h h0 h' : AH} {p no b : Nat} {x : Pr} {q : Nat → Rq}
omit [Tys] in
theorem Op.adopt (O : Op G h) (X : Gx G0 h0 G h) (r : Ro) {v : Value} {y : Th} (hy : y ≠ .no) (h1 : G.C r = .no ∨ b = G.B r) (A : At h ((G.put r b v y).V r) y) (hr : r ≠ .prs)
   (hv : ∀ c, vbx ((G.put r b v y).V r) = some c → h0.next ≤ c ∧ ¬ G.mut c ∧ ¬ G.ro c) : Op (G.put r b v y) h ∧ Gx G0 h0 (G.put r b v y) h := by
 have hmu : ∀ c, (G.put r b v y).mut c → G.mut c ∨ (h0.next ≤ c ∧ ¬ G.mut c ∧ ¬ G.ro c) := by
   rintro c ⟨r', h3, h4⟩
   by_cases e : r' = r
   · subst e; exact .inr (hv c h4)
   · rw [C_put e] at h3; rw [V_put e] at h4; exact .inl ⟨r', h3, h4⟩
 refine ⟨⟨fun r' => ?_, fun r' r'' c h3 h4 h5 h6 => ?_, fun c hc hr => ?_, O.rolt⟩, ⟨X.sm, fun c hc => ?_, X.ron, X.rok, fun r' hr' => ?_, ?_⟩⟩
 · by_cases e : r' = r
   · subst e; rw [C_at]; exact A
   · rw [V_put e, C_put e]; exact O.here r'
 · by_cases e : r' = r
   · by_cases e2 : r'' = r
     · rw [e, e2]
     · subst e
       rw [C_put e2] at h4; rw [V_put e2] at h6
       exact ((hv c h5).2.1 ⟨_, h4, h6⟩).elim
   · rw [C_put e] at h3; rw [V_put e] at h5
     by_cases e2 : r'' = r
     · subst e2
       exact ((hv c h6).2.1 ⟨_, h3, h5⟩).elim
     · rw [C_put e2] at h4; rw [V_put e2] at h6
       exact O.inj _ _ _ h3 h4 h5 h6
 · rcases hmu c hc with q | q
   · exact O.ro c q hr
   · exact q.2.2 hr
 · rcases hmu c hc with q | q
   · exact X.mu c q
   · exact .inr q.1
 · obtain ⟨k1, k2⟩ := X.keep r' hr'
   by_cases e : r' = r
   · subst e
     refine ⟨by rw [C_at]; exact hy, ?_⟩
     show ups G.B r' b r' = _
     rw [ups_at]
     rcases h1 with h1 | h1
     · exact (k1 h1).elim
     · rw [h1]; exact k2
   · refine ⟨by rw [C_put e]; exact k1, ?_⟩
     show ups G.B r b r' = _
     rw [ups_ne _ _ e]; exact k2
 · show ups G.S r v .prs = _
   rw [ups_ne _ _ (Ne.symm hr)]; exact X.prs
theorem Rep.adopt (R : Rep W G h) (X : Gx G0 h0 G h) (hp : p < W.n) (hn : no < (W.pr p).next) (h1 : G.C (.rq p no) = .no) (hb : h0.next ≤ b ∧ ¬ G.mut b ∧ ¬ G.ro b) {r : Rq} {dv : Value} (hd : Dr h G.ro dv r.data) (hps : r.pcs = []) (hss : r.sent = [])
   (c : Cl h b [nk r.no, nv r.peer, nv r.ctx, nv r.tag, nv r.room, .bool r.send, .bool r.sync, .bool r.pers, .bool r.act, .bool r.done, nk r.parts, nk r.size, dv, nilS, nk r.gone, nilS, .bool r.clr, nv r.st.src, nv r.st.tag, nv r.st.size, nv r.st.err]) :
   ∃ C, Rep (W.setRq p no r) ⟨ups G.B (.rq p no) b, ups (ups G.S (.pcs p no) nilS) (.snt p no) nilS, C, G.ro⟩ h ∧ Gx G0 h0 ⟨ups G.B (.rq p no) b, ups (ups G.S (.pcs p no) nilS) (.snt p no) nilS, C, G.ro⟩ h ∧ C (.rq p no) ≠ .no := by
 obtain ⟨O1, X1⟩ := R.op.adopt X (.rq p no) (b := b) (v := G.S (.rq p no)) (y := .cl [nk r.no, nv r.peer, nv r.ctx, nv r.tag, nv r.room, .bool r.send, .bool r.sync, .bool r.pers, .bool r.act, .bool r.done, nk r.parts, nk r.size, dv, nilS, nk r.gone, nilS, .bool r.clr, nv r.st.src, nv r.st.tag, nv r.st.size, nv r.st.err]) (by simp) (.inl h1)
   ⟨b, congrArg ptr (ups_at G.B (.rq p no) b), c⟩ (by simp) (fun d hd => by
     have : vbx (ptr (ups G.B (.rq p no) b (.rq p no))) = some d := hd
     rw [ups_at] at this
     cases this; exact hb)
 rw [put_B] at O1 X1
 obtain ⟨O2, X2⟩ := O1.adopt X1 (.pcs p no) (b := (G.putB (.rq p no) b _).B (.pcs p no)) (v := nilS) (y := .ws 0 []) (by simp) (.inr rfl) (by
     rw [put_S]
     show Ws h 1 (ups _ _ _ _) 0 []
     rw [ups_at]; exact Ws.nil) (by simp) (fun d hd => by
     rw [put_S] at hd
     have : vbx (ups (G.putB (.rq p no) b _).S (.pcs p no) nilS (.pcs p no)) = some d := hd
     rw [ups_at] at this
     cases this)
 rw [put_S] at O2 X2
 obtain ⟨O3, X3⟩ := O2.adopt X2 (.snt p no) (b := (Gh.putS (G.putB (.rq p no) b _) (.pcs p no) nilS _).B (.snt p no)) (v := nilS) (y := .ws 0 []) (by simp) (.inr rfl) (by
     rw [put_S]
     show Ws h 1 (ups _ _ _ _) 0 []
     rw [ups_at]; exact Ws.nil) (by simp) (fun d hd => by
     rw [put_S] at hd
     have : vbx (ups (Gh.putS (G.putB (.rq p no) b _) (.pcs p no) nilS _).S (.snt p no) nilS (.snt p no)) = some d := hd
     rw [ups_at] at this
     cases this)
 rw [put_S] at O3 X3
 refine ⟨_, ⟨O3, ?_⟩, X3, ?_⟩
 · have hat : ∀ k, k ≠ no → (Ro.rq p k) ≠ .rq p no := fun k e => by simpa using e
   have hpr : ∀ k, G.C (.rq p k) ≠ .no → k ≠ no := fun k hk e => hk (by rw [e]; exact h1)
   refine ⟨R.rel.wd, ?_, R.rel.ways, R.rel.way, fun k hk => ?_⟩
   · exact R.rel.prs
   · by_cases e : k = p
     · subst e
       have P := R.rel.pr k hk
       show RelP (W.pr k) (ups W.rq k (ups (W.rq k) no r) k) _ h k
       rw [ups_at]
       refine ⟨P.pr, ?_, fun j hj => ?_, ?_, fun e he => ?_, P.inb, P.msg, ?_, fun j hj => ?_, P.crd, fun j hj => ?_, fun j hj => ?_, fun j hj => ?_, fun j hj => ?_⟩
       · refine P.rqs.trans (congrArg Th.mi (List.map_congr_left fun j hj => ?_))
         show _ = ((j : Int), ptr (ups G.B (.rq k no) b (.rq k j)))
         rw [ups_ne _ _ (hat j (hpr j (P.rqp j hj)))]
       · show ups G.C (.rq k no) _ (.rq k j) ≠ _
         rw [ups_ne _ _ (hat j (hpr j (P.rqp j hj)))]; exact P.rqp j hj
       · refine P.exs.trans (congrArg Th.mp (List.map_congr_left fun e he => ?_))
         show _ = (e.1, ptr (ups G.B (.rq k no) b (.rq k e.2)))
         rw [ups_ne _ _ (hat e.2 (hpr e.2 (P.exp e he)))]
       · show ups G.C (.rq k no) _ (.rq k e.2) ≠ _
         rw [ups_ne _ _ (hat e.2 (hpr e.2 (P.exp e he)))]; exact P.exp e he
       · refine P.rcv.trans (congrArg (Th.gr 1 _) (List.map_congr_left fun j hj => ?_))
         show _ = ptr (ups G.B (.rq k no) b (.rq k j))
         rw [ups_ne _ _ (hat j (hpr j (P.rcp j hj)))]
       · show ups G.C (.rq k no) _ (.rq k j) ≠ _
         rw [ups_ne _ _ (hat j (hpr j (P.rcp j hj)))]; exact P.rcp j hj
       · by_cases ej : j = no
         · subst ej
           refine ⟨dv, by rw [ups_at]; exact hd, ?_⟩
           rw [ups_at]
           refine (ups_at G.C (.rq k j) _).trans ?_
           unfold rqC
           congr 1
           simp [ups]
         · have hj2 : G.C (.rq k j) ≠ .no := by
            have : ups G.C (.rq k no) _ (.rq k j) ≠ .no := hj
            rwa [ups_ne _ _ (hat j ej)] at this
           obtain ⟨dv', a1, a2⟩ := P.rq j hj2
           refine ⟨dv', by rw [ups_ne _ _ ej]; exact a1, ?_⟩
           rw [ups_ne _ _ ej]
           refine (ups_ne G.C _ (hat j ej)).trans (a2.trans ?_)
           unfold rqC
           congr 1
           simp [ups, ej]
       · by_cases ej : j = no
         · subst ej
           rw [ups_at, hps]
           exact ⟨[], by exact ups_at _ (Ro.pcs k j) (Th.ws 0 []), .nil⟩
         · have hj2 : G.C (.rq k j) ≠ .no := by
            have : ups G.C (.rq k no) _ (.rq k j) ≠ .no := hj
            rwa [ups_ne _ _ (hat j ej)] at this
           rw [ups_ne _ _ ej]
           obtain ⟨cs, a1, a2⟩ := P.pcs j hj2
           exact ⟨cs, (ups_ne (Gh.C (G.putB (.rq k no) b _)) (Th.ws 0 []) (show Ro.pcs k j ≠ Ro.pcs k no by simpa using ej)).trans a1, a2⟩
       · by_cases ej : j = no
         · subst ej
           rw [ups_at, hss]
           exact ups_at _ (Ro.snt k j) _
         · have hj2 : G.C (.rq k j) ≠ .no := by
            have : ups G.C (.rq k no) _ (.rq k j) ≠ .no := hj
            rwa [ups_ne _ _ (hat j ej)] at this
           rw [ups_ne _ _ ej]
           exact (ups_ne _ _ (by simpa using ej)).trans (P.snt j hj2)
       · by_cases ej : j = no
         · rw [ej]; exact hn
         · have hj2 : G.C (.rq k j) ≠ .no := by
            have : ups G.C (.rq k no) _ (.rq k j) ≠ .no := hj
            rwa [ups_ne _ _ (hat j ej)] at this
           exact P.nxt j hj2
     · show RelP (W.pr k) (ups W.rq p (ups (W.rq p) no r) k) _ h k
       rw [ups_ne _ _ e]
       refine (R.rel.pr k hk).congr (fun r' hr' => ⟨?_, ?_, ?_⟩) rfl
       · show ups (ups (ups G.C (.rq p no) _) (.pcs p no) _) (.snt p no) _ r' = _
         have hne : ∀ r'', r''.of = some p → r' ≠ r'' := fun r'' h5 e2 => e (by rw [e2, h5] at hr'; exact (Option.some.inj hr').symm)
         rw [ups_ne _ _ (hne _ rfl), ups_ne _ _ (hne _ rfl), ups_ne _ _ (hne _ rfl)]
       · show ups (ups G.S (.pcs p no) _) (.snt p no) _ r' = _
         have hne : ∀ r'', r''.of = some p → r' ≠ r'' := fun r'' h5 e2 => e (by rw [e2, h5] at hr'; exact (Option.some.inj hr').symm)
         rw [ups_ne _ _ (hne _ rfl), ups_ne _ _ (hne _ rfl)]
       · show ups G.B (.rq p no) _ r' = _
         have hne : ∀ r'', r''.of = some p → r' ≠ r'' := fun r'' h5 e2 => e (by rw [e2, h5] at hr'; exact (Option.some.inj hr').symm)
         rw [ups_ne _ _ (hne _ rfl)]
 · show ups (ups (ups G.C (.rq p no) _) (.pcs p no) _) (.snt p no) _ (.rq p no) ≠ _
   rw [ups_ne _ _ (by simp), ups_ne _ _ (by simp), ups_at]; simp
theorem RelP.nextX (P : RelP x q G h p) (k : Nat) (hk : x.next ≤ k) : RelP { x with next := k } q (G.putC (.pr p) (.cl (prC k G p))) h p :=
 ⟨ups_at _ _ _, P.rqs, P.rqp, P.exs, P.exp, P.inb, P.msg, P.rcv, P.rcp, P.crd, P.rq, P.pcs, P.snt, fun j hj => Nat.lt_of_lt_of_le (P.nxt j hj) hk⟩
theorem Rep.setNextF (R : Rep W G h) (hp : p < W.n) (k : Nat) (hk : (W.pr p).next ≤ k) (c : Cl h' (G.B (.pr p)) (prC k G p)) (t : Sm (fun c => c = G.B (.pr p)) h h') {no : Nat} (h0 : G.C (.rq p no) = .no) :
   ∃ S C ro, (Rep (W.setPr p { W.pr p with next := k }) ⟨G.B, S, C, ro⟩ h' ∧ Gx G h ⟨G.B, S, C, ro⟩ h') ∧ C (.rq p no) = .no := by
 obtain ⟨O, X⟩ := R.op.putC (.pr p) (x := .cl (prC k G p)) (by simp) (by rw [(R.rel.pr p hp).pr]; simp) t (fun c hc => by subst hc; rfl) ⟨_, rfl, c⟩
 refine ⟨_, _, _, ⟨⟨O, (R.rel.mono0 (X.dr R.op)).at (p := p) rfl rfl rfl (fun k hk => ⟨ups_ne _ _ hk, rfl⟩) (fun r' hr' => ⟨ups_ne _ _ (of_ne rfl hr'), rfl, rfl⟩) rfl rfl fun hp => ?_⟩, X⟩, ?_⟩
 · show RelP (ups W.pr p _ p) _ _ _ _
   rw [ups_at]
   exact ((R.rel.mono0 (X.dr R.op)).pr p hp).nextX k hk
 · exact (ups_ne _ _ (by simp)).trans h0
theorem Rep.fresh (R : Rep W G h) (hp : p < W.n) : G.C (.rq p (W.pr p).next) = .no := by
 by_cases e : G.C (.rq p (W.pr p).next) = .no
 · exact e
 · have := (R.rel.pr p hp).nxt _ e; omega
end
end
end Go.Arm
namespace Go.Proofs.Ytmehemeoaplepaa
noncomputable section
open Go Go.X Go.Arm Go.Mt
theorem kset_new {f : Nat → Value} {l : List Nat} {k : Nat} (h : k ∉ l) : kset (l.map fun (x : Nat) => ((x : Int), f x)) (k : Int) (f k) = (l ++ [k]).map fun (x : Nat) => ((x : Int), f x) := by
 induction l with
 | nil => rfl
 | cons x l ih =>
  simp only [List.map_cons, List.cons_append]
  unfold kset
  rw [if_neg (show ¬ ((x : Int) = (k : Int)) by intro e; exact h (by rw [Int.ofNat.inj e]; simp)), ih (fun h2 => h (List.mem_cons_of_mem _ h2))]
def NxtN (W' : Wd) (G : Gh) (h : AH) (p no : Nat) (r : Value × AH) : Prop := ∃ b S C ro, Rep W' ⟨ups G.B (.rq p no) b, S, C, ro⟩ r.2 ∧ Gx G h ⟨ups G.B (.rq p no) b, S, C, ro⟩ r.2 ∧ C (.rq p no) ≠ .no ∧ r.1 = ptr b
theorem add_ok {W : Wd} {G : Gh} {h : AH} {p : Nat} {r : Rq} {W' : Wd} (R : Rep W G h) (hp : p < W.n) (hrd : r.data = []) (hrp : r.pcs = []) (hrs : r.sent = []) (he : W.add p r = some W') :
   Arm.Calls Try.prog 43 [ptr (G.B .wd), nv (p : Int), .agg ⟨[nk r.no, nv r.peer, nv r.ctx, nv r.tag, nv r.room, .bool r.send, .bool r.sync, .bool r.pers, .bool r.act, .bool r.done, nk r.parts, nk r.size, .slice none 0 0, .slice none 0 0, nk r.gone, .slice none 0 0, .bool r.clr, nv r.st.src, nv r.st.tag, nv r.st.size, nv r.st.err]⟩] h (NxtN W' G h p (W.pr p).next) := by
 unfold Wd.add at he
 split at he
 rotate_right
 · cases he
 rename_i hc
 obtain ⟨hnx, hnot⟩ := hc
 have hnx : (W.pr p).next < 1000000000 := hnx
 obtain rfl := Option.some.inj he
 have hpl := R.prLt hp
 refine Calls_of_W (n := 33) (fn := Try.f43) kr rfl rfl (Nat.le_of_ble_eq_true rfl) trivial ⟨.inr (by simp), rfl⟩ ?_
 have T0 : Sm Nix h h := .refl
 refine W_seq ?_
 refine W_region ?_
 refine L_nw (Al.cells [nk r.no, nv r.peer, nv r.ctx, nv r.tag, nv r.room, .bool r.send, .bool r.sync, .bool r.pers, .bool r.act, .bool r.done, nk r.parts, nk r.size, .slice none 0 0, .slice none 0 0, nk r.gone, .slice none 0 0, .bool r.clr, nv r.st.src, nv r.st.tag, nv r.st.size, nv r.st.err]) .ptr rfl rfl kr ?_
 have m111 : ¬ (Gh.mut G) h.next ∧ ¬ (Gh.ro G) h.next := ⟨(R.ext T0).op.new (Nat.le_refl _), (R.ext T0).op.newr (Nat.le_refl _)⟩
 have c111 : Cl (h.push (Al.cells [nk r.no, nv r.peer, nv r.ctx, nv r.tag, nv r.room, .bool r.send, .bool r.sync, .bool r.pers, .bool r.act, .bool r.done, nk r.parts, nk r.size, .slice none 0 0, .slice none 0 0, nk r.gone, .slice none 0 0, .bool r.clr, nv r.st.src, nv r.st.tag, nv r.st.size, nv r.st.err]).obj) h.next [nk r.no, nv r.peer, nv r.ctx, nv r.tag, nv r.room, .bool r.send, .bool r.sync, .bool r.pers, .bool r.act, .bool r.done, nk r.parts, nk r.size, .slice none 0 0, .slice none 0 0, nk r.gone, .slice none 0 0, .bool r.clr, nv r.st.src, nv r.st.tag, nv r.st.size, nv r.st.err] := Cl.new h _
 have t111 : Sm Nix h (h.push (Al.cells [nk r.no, nv r.peer, nv r.ctx, nv r.tag, nv r.room, .bool r.send, .bool r.sync, .bool r.pers, .bool r.act, .bool r.done, nk r.parts, nk r.size, .slice none 0 0, .slice none 0 0, nk r.gone, .slice none 0 0, .bool r.clr, nv r.st.src, nv r.st.tag, nv r.st.size, nv r.st.err]).obj) := .push h _
 have n111 : (h.push (Al.cells [nk r.no, nv r.peer, nv r.ctx, nv r.tag, nv r.room, .bool r.send, .bool r.sync, .bool r.pers, .bool r.act, .bool r.done, nk r.parts, nk r.size, .slice none 0 0, .slice none 0 0, nk r.gone, .slice none 0 0, .bool r.clr, nv r.st.src, nv r.st.tag, nv r.st.size, nv r.st.err]).obj).next = h.next + 1 := rfl
 generalize h.push (Al.cells [nk r.no, nv r.peer, nv r.ctx, nv r.tag, nv r.room, .bool r.send, .bool r.sync, .bool r.pers, .bool r.act, .bool r.done, nk r.parts, nk r.size, .slice none 0 0, .slice none 0 0, nk r.gone, .slice none 0 0, .bool r.clr, nv r.st.src, nv r.st.tag, nv r.st.size, nv r.st.err]).obj = h111 at c111 t111 n111 ⊢
 have T111 : Sm Nix h h111 := T0.ext t111
 have N111 := T111.nx
 refine L_g 1 kr ?_
 refine L_nil ?_
 refine W_seq ?_
 refine W_region ?_
 refine L_g 3 kr ?_
 refine L_ld _ rfl rfl kr ((R.ext T111).wdL.ld (o := 1) kr rfl) ?_
 refine L_g 1 kr ?_
 obtain ⟨b1, o1, i1, l1⟩ := (R.ext T111).prsAt (P := Try.prog) (T := 74) (el := 77) kr kr kr hp
 refine L_ix _ rfl rfl kr kr (i1) ?_
 refine L_ld _ rfl rfl kr (l1) ?_
 refine L_g 1 kr ?_
 refine L_nil ?_
 refine W_seq ?_
 refine W_region ?_
 refine L_g 3 kr ?_
 refine L_ld _ rfl rfl kr (((R.ext T111).prL hp).ld (o := 0) kr rfl) ?_
 refine L_g 1 kr ?_
 obtain ⟨h112, e112, d112, t112, n112⟩ := c111.store (P := Try.prog) (T := 3) (o := 0) (v := nk (W.pr p).next) kr rfl rfl (by simp)
 replace d112 : Cl h112 (h.next) [nk (W.pr p).next, nv r.peer, nv r.ctx, nv r.tag, nv r.room, .bool r.send, .bool r.sync, .bool r.pers, .bool r.act, .bool r.done, nk r.parts, nk r.size, .slice none 0 0, .slice none 0 0, nk r.gone, .slice none 0 0, .bool r.clr, nv r.st.src, nv r.st.tag, nv r.st.size, nv r.st.err] := d112
 replace c111 := d112
 have T112 : Sm Nix h h112 := T111.trans t112 (fun x hx => by have hx : x = h.next := hx; first | exact .inr (by omega) | exact .inl (by subst hx; first | rfl | exact .inl rfl | exact .inr rfl | exact .inr (.inl rfl) | exact .inr (.inr rfl) | (show _ < _; omega)))
 have N112 := T112.nx
 refine L_st _ rfl rfl rfl kr kr (e112) ?_
 refine L_nil ?_
 refine W_seq ?_
 refine W_region ?_
 refine L_g 3 kr ?_
 refine L_ld _ rfl rfl kr (((R.ext T112).prL hp).ld (o := 0) kr rfl) ?_
 refine L_i (((W.pr p).next : Int)) (1) (nk ((W.pr p).next + 1)) rfl rfl kr kr rfl (inc_ok hnx) ?_
 refine L_g 2 kr ?_
 obtain ⟨h113, e113, d113, t113, n113⟩ := ((R.ext T112).prL hp).store (P := Try.prog) (T := 3) (o := 0) (v := nk ((W.pr p).next + 1)) kr rfl rfl (by simp [prC])
 obtain ⟨S0, C0, ro0, ⟨R0, Y0⟩, f0⟩ := (R.ext T112).setNextF hp ((W.pr p).next + 1) (Nat.le_succ _) d113 t113 (R.fresh hp)
 have X0 := ((Gx.refl).trans (Gx.of T112)).trans Y0
 have l5 := c111.lt
 have m9 : ¬ (Gh.mut ⟨G.B, S0, C0, ro0⟩) (h.next) ∧ ¬ ro0 (h.next) := ⟨fun hm => (Y0.mu _ hm).elim m111.1 (fun e => by omega), fun hm => (Y0.ron _ hm).elim m111.2 (fun e => by omega)⟩
 refine L_st _ rfl rfl rfl kr kr (e113) ?_
 replace c111 := c111.sm t113 (show ¬ _ = _ by omega)
 have T113 : Sm Nix h113 h113 := .refl
 refine L_nil ?_
 refine W_seq ?_
 refine W_drawn kr ?_
 refine D_e (e := 6) (l := [0, 1, 2, 3, 4, 5]) (s' := []) kr kr rfl kr Rk_nil ?_
 refine NS_b 3 kr ?_
 refine NS_ld _ rfl rfl kr kr kr (((R0.ext T113).prL hp).ld (o := 1) kr rfl) ?_
 refine NS_b 1 kr ?_
 refine NS_ld _ rfl rfl kr kr kr (c111.ld (o := 0) kr rfl) ?_
 refine NS_nil ?_
 have hn9 : (W.pr p).next < ((W.setPr p { W.pr p with next := (W.pr p).next + 1 }).pr p).next := by rw [Wd.setPr_at]; exact Nat.lt_succ_self _
 obtain ⟨C9, R9, X9, hr9⟩ := (R0.ext T113).adopt ((X0).trans (Gx.of T113)) (W := (W.setPr p { W.pr p with next := (W.pr p).next + 1 })) hp hn9 f0 (r := { r with no := (W.pr p).next }) (dv := nilS) ⟨by omega, m9⟩ (by show Dr _ _ _ r.data; rw [hrd]; exact ⟨Rb.nil, fun b hb => by cases hb⟩) hrp hrs c111
 have hE := R9.rqs (p := p) hp
 obtain ⟨h114, e114, mp114, t114, n114⟩ := hE.1.update (P := Try.prog) (T := 78) (el := 103) kr kNum ((W.pr p).next : Int) (v := ptr (h.next)) (y := ptr (h.next)) rfl
 have hB9 : ups G.B (.rq p (W.pr p).next) (h.next) (.rq p (W.pr p).next) = h.next := ups_at _ _ _
 have e9 := kset_new (f := fun k => ptr (ups G.B (.rq p (W.pr p).next) (h.next) (.rq p k))) hnot
 rw [hB9] at e9
 have hq9 : ((W.setPr p { W.pr p with next := (W.pr p).next + 1 }).pr p).reqs = (W.pr p).reqs := by rw [Wd.setPr_at]
 have mp9114 : Mp h114 (G.B (.rqs p)) nv Eq (((W.pr p).reqs ++ [(W.pr p).next]).map fun (k : Nat) => ((k : Int), ptr (ups G.B (.rq p (W.pr p).next) (h.next) (.rq p k)))) := e9 ▸ (by have := mp114; rw [show (((W.setPr p { W.pr p with next := (W.pr p).next + 1 }).setRq p (W.pr p).next { r with no := (W.pr p).next }).pr p).reqs = (W.pr p).reqs from hq9] at this; exact this)
 obtain ⟨S8, C8, ro8, R8, Y8⟩ := R9.setRqs (p := p) hp (l := (W.pr p).reqs ++ [(W.pr p).next]) (fun k hk => by
   rcases List.mem_append.1 hk with hk | hk
   · exact (R9.rel.pr p hp).rqp k (by rw [show (((W.setPr p { W.pr p with next := (W.pr p).next + 1 }).setRq p (W.pr p).next { r with no := (W.pr p).next }).pr p).reqs = (W.pr p).reqs from hq9]; exact hk)
   · cases List.mem_singleton.1 hk; exact hr9) mp9114 (hE.2.update e114) t114
 have X8 := X9.trans Y8
 refine L_mu _ rfl rfl rfl kr kr kr e114 ?_
 replace c111 := c111
 have T114 : Sm Nix h114 h114 := .refl
 refine L_nil ⟨rfl, ?_⟩
 refine D_l (l := []) kr kr Rk_nil ?_
 refine NS_nil ?_
 refine W_seq ?_
 refine W_region ?_
 refine L_g 1 kr ?_
 refine L_nil ?_
 refine W_ret ?_
 repeat first | with_reducible refine then_ret ?_ | with_reducible refine blk_ret ?_
 refine done_of (v := ptr (h.next)) (.inl rfl) kr ?_
 have hw9 : (((W.setPr p { W.pr p with next := (W.pr p).next + 1 }).setRq p (W.pr p).next { r with no := (W.pr p).next }).setPr p { ((W.setPr p { W.pr p with next := (W.pr p).next + 1 }).setRq p (W.pr p).next { r with no := (W.pr p).next }).pr p with reqs := (W.pr p).reqs ++ [(W.pr p).next] }) = (((W.setPr p { W.pr p with next := (W.pr p).next + 1 }).setRq p (W.pr p).next { r with no := (W.pr p).next }).setPr p { W.pr p with next := (W.pr p).next + 1, reqs := (W.pr p).reqs ++ [(W.pr p).next] }) := by
   rw [show ((W.setPr p { W.pr p with next := (W.pr p).next + 1 }).setRq p (W.pr p).next { r with no := (W.pr p).next }).pr p = { W.pr p with next := (W.pr p).next + 1 } from Wd.setPr_at _ _ _]
 rw [hw9] at R8
 exact ⟨h.next, S8, C8, ro8, R8, X8, (Y8.keep (.rq p (W.pr p).next) hr9).1, rfl⟩
end
end Go.Proofs.Ytmehemeoaplepaa
namespace Go.Proofs.Ytmehemeoaplepaa
noncomputable section
open Go Go.X Go.Arm Go.Mt
theorem dec_int {x : Int} (h0 : 0 < x) (h1 : x < (big : Nat)) : Value.int .i64 (IntKind.i64.wrap (x - 1)) = nv (x - 1) := by
 have h1 : x < 1000000000 := h1
 have : IntKind.i64.wrap (x - 1) = x - 1 := by rw [IntKind.wrap_i64]; omega
 rw [this]; rfl
theorem _root_.Go.Arm.Dr.ext3 {h0 h h' : AH} {G : Gh} {v : Value} {d : By} (H : Dr h G.ro v d) (s : Sm (Ow h0 G) h h') : Dr h' G.ro v d := ⟨H.1.sm s (fun b hb hx => hx.2.2 (H.2 b hb)), H.2⟩
set_option maxHeartbeats 2000000 in
theorem send_ok {W : Wd} {G : Gh} {h : AH} {p no : Nat} {e : En} {W' : Wd} (R : Rep W G h) (hp : p < W.n) (hr : G.C (.rq p no) ≠ .no) (he : W.send p no e = some W') :
   Arm.Calls Try.prog 53 [ptr (G.B .wd), nv (p : Int), ptr (G.B (.rq p no)), .agg ⟨[nv e.src, nv e.ctx, nv e.tag, nv e.size, nv e.parts]⟩] h (fun r => Nxt W' G h r.2) := by
 obtain ⟨dv0, hd0, c0⟩ := R.rqL hp hr
 replace c0 : Arm.Cl h (G.B (.rq p no)) [nk (W.rq p no).no, nv (W.rq p no).peer, nv (W.rq p no).ctx, nv (W.rq p no).tag, nv (W.rq p no).room, .bool (W.rq p no).send, .bool (W.rq p no).sync, .bool (W.rq p no).pers, .bool (W.rq p no).act, .bool (W.rq p no).done, nk (W.rq p no).parts, nk (W.rq p no).size, dv0, G.S (.pcs p no), nk (W.rq p no).gone, G.S (.snt p no), .bool (W.rq p no).clr, nv (W.rq p no).st.src, nv (W.rq p no).st.tag, nv (W.rq p no).st.size, nv (W.rq p no).st.err] := c0
 rcases Wd.send_split he with hc | hc | hc | hc | hc | hc
 · obtain ⟨h1, rfl⟩ := hc
   refine Calls_of_W (n := 102) (fn := Try.f53) kr rfl rfl (Nat.le_of_ble_eq_true rfl) trivial ⟨.inr (by simp), rfl⟩ ?_
   have T0 : Sm Nix h h := .refl
   refine W_seq ?_
   refine W_region ?_
   refine L_nw (Al.cells [nv e.src, nv e.ctx, nv e.tag, nv e.size, nv e.parts]) .ptr rfl rfl kr ?_
   have m115 : ¬ (Gh.mut G) h.next ∧ ¬ (Gh.ro G) h.next := ⟨(R.ext T0).op.new (Nat.le_refl _), (R.ext T0).op.newr (Nat.le_refl _)⟩
   have c115 : Cl (h.push (Al.cells [nv e.src, nv e.ctx, nv e.tag, nv e.size, nv e.parts]).obj) h.next [nv e.src, nv e.ctx, nv e.tag, nv e.size, nv e.parts] := Cl.new h _
   have t115 : Sm Nix h (h.push (Al.cells [nv e.src, nv e.ctx, nv e.tag, nv e.size, nv e.parts]).obj) := .push h _
   have n115 : (h.push (Al.cells [nv e.src, nv e.ctx, nv e.tag, nv e.size, nv e.parts]).obj).next = h.next + 1 := rfl
   generalize h.push (Al.cells [nv e.src, nv e.ctx, nv e.tag, nv e.size, nv e.parts]).obj = h115 at c115 t115 n115 ⊢
   have T115 : Sm Nix h h115 := T0.ext t115
   have N115 := T115.nx
   refine L_nil ?_
   refine W_seq ?_
   refine W_region ?_
   refine L_g 3 kr ?_
   refine L_ld _ rfl rfl kr ((R.ext T115).wdL.ld (o := 1) kr rfl) ?_
   refine L_g 1 kr ?_
   obtain ⟨b1, o1, i1, l1⟩ := (R.ext T115).prsAt (P := Try.prog) (T := 74) (el := 77) kr kr kr hp
   refine L_ix _ rfl rfl kr kr (i1) ?_
   refine L_ld _ rfl rfl kr (l1) ?_
   refine L_g 1 kr ?_
   refine L_nil ?_
   refine W_block ?_
   refine W_seq ?_
   refine W_region ?_
   refine L_g 3 kr ?_
   refine L_ld _ rfl rfl kr ((c0.ext T115).ld (o := 1) kr rfl) ?_
   refine L_i ((W.rq p no).peer) (-2) (.bool true) rfl rfl kr kr rfl (by simp; omega) ?_
   refine L_g 1 kr ?_
   refine L_nil ?_
   refine W_cond true kr (fun _ => ?_) (fun e => by cases e)
   refine W_region ?_
   refine L_g 3 kr ?_
   obtain ⟨dv9, hd9, c9⟩ := (R.ext T115).rqL hp hr
   replace c9 : Cl h115 (Gh.B G (.rq p no)) [nk (W.rq p no).no, nv (W.rq p no).peer, nv (W.rq p no).ctx, nv (W.rq p no).tag, nv (W.rq p no).room, .bool (W.rq p no).send, .bool (W.rq p no).sync, .bool (W.rq p no).pers, .bool (W.rq p no).act, .bool (W.rq p no).done, nk (W.rq p no).parts, nk (W.rq p no).size, dv9, G.S (.pcs p no), nk (W.rq p no).gone, G.S (.snt p no), .bool (W.rq p no).clr, nv (W.rq p no).st.src, nv (W.rq p no).st.tag, nv (W.rq p no).st.size, nv (W.rq p no).st.err] := c9
   obtain ⟨h116, e116, d116, t116, n116⟩ := c9.store (P := Try.prog) (T := 4) (o := 9) (v := .bool true) kr rfl rfl (by simp)
   have N116 : Nxt (W.setRq p no { (W.rq p no) with done := true }) G h115 h116 := (R.ext T115).stRq hp hr (r := { (W.rq p no) with done := true }) hd9 d116 t116 rfl rfl rfl
   clear hd9
   refine L_st _ rfl rfl rfl kr kr (e116) ?_
   obtain ⟨S116, C116, ro116, R116, Y116⟩ := N116
   have X116 := ((Gx.refl).trans (Gx.of T115)).trans Y116
   have hr_116 := (Y116.keep _ hr).1
   have m115_116 : ¬ (Gh.mut ⟨Gh.B G, S116, C116, ro116⟩) (h.next) ∧ ¬ (Gh.ro ⟨Gh.B G, S116, C116, ro116⟩) (h.next) := ⟨fun hm => (Y116.mu _ hm).elim m115.1 (fun e => by have := c115.lt; omega), fun hm => (Y116.ron _ hm).elim m115.2 (fun e => by have := c115.lt; omega)⟩
   replace c115 := c115.sm Y116.sm m115.1
   have T116 : Sm (Ow h (⟨Gh.B G, S116, C116, ro116⟩ : Gh)) h116 h116 := .refl
   refine L_nil ?_
   repeat with_reducible refine blk_norm ?_
   refine done_of (v := .tuple ⟨[]⟩) (.inr rfl) kr ?_
   exact ⟨_, _, _, (R116.ow T116), ((X116).ow T116)⟩
 · obtain ⟨h1, hs, hput⟩ := hc
   unfold Wd.put at hput
   split at hput
   rotate_right
   · cases hput
   rename_i hlw
   obtain rfl := Option.some.inj hput
   refine Calls_of_W (n := 102) (fn := Try.f53) kr rfl rfl (Nat.le_of_ble_eq_true rfl) trivial ⟨.inr (by simp), rfl⟩ ?_
   have T0 : Sm Nix h h := .refl
   refine W_seq ?_
   refine W_region ?_
   refine L_nw (Al.cells [nv e.src, nv e.ctx, nv e.tag, nv e.size, nv e.parts]) .ptr rfl rfl kr ?_
   have m117 : ¬ (Gh.mut G) h.next ∧ ¬ (Gh.ro G) h.next := ⟨(R.ext T0).op.new (Nat.le_refl _), (R.ext T0).op.newr (Nat.le_refl _)⟩
   have c117 : Cl (h.push (Al.cells [nv e.src, nv e.ctx, nv e.tag, nv e.size, nv e.parts]).obj) h.next [nv e.src, nv e.ctx, nv e.tag, nv e.size, nv e.parts] := Cl.new h _
   have t117 : Sm Nix h (h.push (Al.cells [nv e.src, nv e.ctx, nv e.tag, nv e.size, nv e.parts]).obj) := .push h _
   have n117 : (h.push (Al.cells [nv e.src, nv e.ctx, nv e.tag, nv e.size, nv e.parts]).obj).next = h.next + 1 := rfl
   generalize h.push (Al.cells [nv e.src, nv e.ctx, nv e.tag, nv e.size, nv e.parts]).obj = h117 at c117 t117 n117 ⊢
   have T117 : Sm Nix h h117 := T0.ext t117
   have N117 := T117.nx
   refine L_nil ?_
   refine W_seq ?_
   refine W_region ?_
   refine L_g 3 kr ?_
   refine L_ld _ rfl rfl kr ((R.ext T117).wdL.ld (o := 1) kr rfl) ?_
   refine L_g 1 kr ?_
   obtain ⟨b1, o1, i1, l1⟩ := (R.ext T117).prsAt (P := Try.prog) (T := 74) (el := 77) kr kr kr hp
   refine L_ix _ rfl rfl kr kr (i1) ?_
   refine L_ld _ rfl rfl kr (l1) ?_
   refine L_g 1 kr ?_
   refine L_nil ?_
   refine W_block ?_
   refine W_seq ?_
   refine W_region ?_
   refine L_g 3 kr ?_
   refine L_ld _ rfl rfl kr ((c0.ext T117).ld (o := 1) kr rfl) ?_
   refine L_i ((W.rq p no).peer) (-2) (.bool false) rfl rfl kr kr rfl (by simp; omega) ?_
   refine L_g 1 kr ?_
   refine L_nil ?_
   refine W_cond false kr (fun e => by cases e) (fun _ => ?_)
   refine W_seq ?_
   refine W_drawn kr ?_
   refine D_l (l := [0, 1, 2, 3, 4, 5, 6, 7, 8, 9, 10, 11, 12, 13, 14, 15, 16, 17, 18, 19, 20, 21, 22, 23, 24, 25, 26, 27, 28, 29, 30, 31, 32, 33]) kr kr Rk_nil ?_
   refine NS_b 3 kr ?_
   refine NS_ld _ rfl rfl kr kr kr (((c0.ext T117).ld (o := 6) kr (by rw [← hs]; rfl) : aLoad Try.prog 4 ⟨G.B (.rq p no), 6, none⟩ h117 = some (.bool true))) ?_
   refine NS_b 30 kr ?_
   refine NS_nil ?_
   refine W_cond true kr (fun _ => ?_) (fun e => by cases e)
   refine W_drawn kr ?_
   refine D_e (e := 13) (l := [0, 1, 2, 3, 4, 5, 6, 7, 8, 9, 10, 11, 12]) (s' := []) kr kr rfl kr Rk_nil ?_
   refine NS_b 5 kr ?_
   refine NS_ld _ rfl rfl kr kr kr ((c0.ext T117).ld (o := 1) kr rfl) ?_
   refine NS_ld _ rfl rfl kr kr kr (Cl.allN (n := 5) c117 rfl kr) ?_
   refine NS_b 3 kr ?_
   refine NS_ld _ rfl rfl kr kr kr ((c0.ext T117).ld (o := 0) kr rfl) ?_
   refine NS_b 2 kr ?_
   refine NS_nil ?_
   refine L_c rfl rfl kr (put_ok (R.ext T117) (x := .ask e (W.rq p no).no) rfl hlw) ?_
   rintro v118 h118 N118
   dsimp only at N118
   obtain ⟨S118, C118, ro118, R118, Y118⟩ := N118
   have X118 := ((Gx.refl).trans (Gx.of T117)).trans Y118
   have hr_118 := (Y118.keep _ hr).1
   have m117_118 : ¬ (Gh.mut ⟨Gh.B G, S118, C118, ro118⟩) (h.next) ∧ ¬ (Gh.ro ⟨Gh.B G, S118, C118, ro118⟩) (h.next) := ⟨fun hm => (Y118.mu _ hm).elim m117.1 (fun e => by have := c117.lt; omega), fun hm => (Y118.ron _ hm).elim m117.2 (fun e => by have := c117.lt; omega)⟩
   replace c117 := c117.sm Y118.sm m117.1
   have T118 : Sm (Ow h (⟨Gh.B G, S118, C118, ro118⟩ : Gh)) h118 h118 := .refl
   refine L_nil ⟨rfl, ?_⟩
   refine D_l (l := []) kr kr Rk_nil ?_
   refine NS_nil ?_
   repeat with_reducible refine blk_norm ?_
   refine done_of (v := .tuple ⟨[]⟩) (.inr rfl) kr ?_
   exact ⟨_, _, _, (R118.ow T118), ((X118).ow T118)⟩
 · obtain ⟨h1, hs, hpp, hput⟩ := hc
   unfold Wd.put at hput
   split at hput
   rotate_right
   · cases hput
   rename_i hlw
   obtain rfl := Option.some.inj hput
   refine Calls_of_W (n := 102) (fn := Try.f53) kr rfl rfl (Nat.le_of_ble_eq_true rfl) trivial ⟨.inr (by simp), rfl⟩ ?_
   have T0 : Sm Nix h h := .refl
   refine W_seq ?_
   refine W_region ?_
   refine L_nw (Al.cells [nv e.src, nv e.ctx, nv e.tag, nv e.size, nv e.parts]) .ptr rfl rfl kr ?_
   have m119 : ¬ (Gh.mut G) h.next ∧ ¬ (Gh.ro G) h.next := ⟨(R.ext T0).op.new (Nat.le_refl _), (R.ext T0).op.newr (Nat.le_refl _)⟩
   have c119 : Cl (h.push (Al.cells [nv e.src, nv e.ctx, nv e.tag, nv e.size, nv e.parts]).obj) h.next [nv e.src, nv e.ctx, nv e.tag, nv e.size, nv e.parts] := Cl.new h _
   have t119 : Sm Nix h (h.push (Al.cells [nv e.src, nv e.ctx, nv e.tag, nv e.size, nv e.parts]).obj) := .push h _
   have n119 : (h.push (Al.cells [nv e.src, nv e.ctx, nv e.tag, nv e.size, nv e.parts]).obj).next = h.next + 1 := rfl
   generalize h.push (Al.cells [nv e.src, nv e.ctx, nv e.tag, nv e.size, nv e.parts]).obj = h119 at c119 t119 n119 ⊢
   have T119 : Sm Nix h h119 := T0.ext t119
   have N119 := T119.nx
   refine L_nil ?_
   refine W_seq ?_
   refine W_region ?_
   refine L_g 3 kr ?_
   refine L_ld _ rfl rfl kr ((R.ext T119).wdL.ld (o := 1) kr rfl) ?_
   refine L_g 1 kr ?_
   obtain ⟨b1, o1, i1, l1⟩ := (R.ext T119).prsAt (P := Try.prog) (T := 74) (el := 77) kr kr kr hp
   refine L_ix _ rfl rfl kr kr (i1) ?_
   refine L_ld _ rfl rfl kr (l1) ?_
   refine L_g 1 kr ?_
   refine L_nil ?_
   refine W_block ?_
   refine W_seq ?_
   refine W_region ?_
   refine L_g 3 kr ?_
   refine L_ld _ rfl rfl kr ((c0.ext T119).ld (o := 1) kr rfl) ?_
   refine L_i ((W.rq p no).peer) (-2) (.bool false) rfl rfl kr kr rfl (by simp; omega) ?_
   refine L_g 1 kr ?_
   refine L_nil ?_
   refine W_cond false kr (fun e => by cases e) (fun _ => ?_)
   refine W_seq ?_
   refine W_drawn kr ?_
   refine D_l (l := [0, 1, 2, 3, 4, 5, 6, 7, 8, 9, 10, 11, 12, 13, 14, 15, 16, 17, 18, 19, 20, 21, 22, 23, 24, 25, 26, 27, 28, 29, 30, 31, 32, 33]) kr kr Rk_nil ?_
   refine NS_b 3 kr ?_
   refine NS_ld _ rfl rfl kr kr kr (((c0.ext T119).ld (o := 6) kr (by rw [← hs]; rfl) : aLoad Try.prog 4 ⟨G.B (.rq p no), 6, none⟩ h119 = some (.bool false))) ?_
   refine NS_b 4 kr ?_
   refine NS_ld _ rfl rfl kr kr kr ((c0.ext T119).ld (o := 10) kr rfl) ?_
   refine NS_i (((W.rq p no).parts : Int)) (0) (.bool true) rfl rfl kr kr kr kr rfl (by simp; omega) ?_
   refine NS_b 24 kr ?_
   refine NS_nil ?_
   refine W_cond true kr (fun _ => ?_) (fun e => by cases e)
   refine W_drawn kr ?_
   refine D_e (e := 13) (l := [0, 1, 2, 3, 4, 5, 6, 7, 8, 9, 10, 11, 12]) (s' := []) kr kr rfl kr Rk_nil ?_
   refine NS_b 5 kr ?_
   refine NS_ld _ rfl rfl kr kr kr ((c0.ext T119).ld (o := 1) kr rfl) ?_
   refine NS_ld _ rfl rfl kr kr kr (Cl.allN (n := 5) c119 rfl kr) ?_
   refine NS_b 3 kr ?_
   refine NS_ld _ rfl rfl kr kr kr ((c0.ext T119).ld (o := 0) kr rfl) ?_
   refine NS_b 2 kr ?_
   refine NS_nil ?_
   refine L_c rfl rfl kr (put_ok (R.ext T119) (x := .ask e (W.rq p no).no) rfl hlw) ?_
   rintro v120 h120 N120
   dsimp only at N120
   obtain ⟨S120, C120, ro120, R120, Y120⟩ := N120
   have X120 := ((Gx.refl).trans (Gx.of T119)).trans Y120
   have hr_120 := (Y120.keep _ hr).1
   have m119_120 : ¬ (Gh.mut ⟨Gh.B G, S120, C120, ro120⟩) (h.next) ∧ ¬ (Gh.ro ⟨Gh.B G, S120, C120, ro120⟩) (h.next) := ⟨fun hm => (Y120.mu _ hm).elim m119.1 (fun e => by have := c119.lt; omega), fun hm => (Y120.ron _ hm).elim m119.2 (fun e => by have := c119.lt; omega)⟩
   replace c119 := c119.sm Y120.sm m119.1
   have T120 : Sm (Ow h (⟨Gh.B G, S120, C120, ro120⟩ : Gh)) h120 h120 := .refl
   refine L_nil ⟨rfl, ?_⟩
   refine D_l (l := []) kr kr Rk_nil ?_
   refine NS_nil ?_
   repeat with_reducible refine blk_norm ?_
   refine done_of (v := .tuple ⟨[]⟩) (.inr rfl) kr ?_
   exact ⟨_, _, _, (R120.ow T120), ((X120).ow T120)⟩
 · obtain ⟨h1, hs, hpp, hll, hput⟩ := hc
   unfold Wd.put at hput
   split at hput
   rotate_right
   · cases hput
   rename_i hlw
   obtain rfl := Option.some.inj hput
   refine Calls_of_W (n := 102) (fn := Try.f53) kr rfl rfl (Nat.le_of_ble_eq_true rfl) trivial ⟨.inr (by simp), rfl⟩ ?_
   have T0 : Sm Nix h h := .refl
   refine W_seq ?_
   refine W_region ?_
   refine L_nw (Al.cells [nv e.src, nv e.ctx, nv e.tag, nv e.size, nv e.parts]) .ptr rfl rfl kr ?_
   have m121 : ¬ (Gh.mut G) h.next ∧ ¬ (Gh.ro G) h.next := ⟨(R.ext T0).op.new (Nat.le_refl _), (R.ext T0).op.newr (Nat.le_refl _)⟩
   have c121 : Cl (h.push (Al.cells [nv e.src, nv e.ctx, nv e.tag, nv e.size, nv e.parts]).obj) h.next [nv e.src, nv e.ctx, nv e.tag, nv e.size, nv e.parts] := Cl.new h _
   have t121 : Sm Nix h (h.push (Al.cells [nv e.src, nv e.ctx, nv e.tag, nv e.size, nv e.parts]).obj) := .push h _
   have n121 : (h.push (Al.cells [nv e.src, nv e.ctx, nv e.tag, nv e.size, nv e.parts]).obj).next = h.next + 1 := rfl
   generalize h.push (Al.cells [nv e.src, nv e.ctx, nv e.tag, nv e.size, nv e.parts]).obj = h121 at c121 t121 n121 ⊢
   have T121 : Sm Nix h h121 := T0.ext t121
   have N121 := T121.nx
   refine L_nil ?_
   refine W_seq ?_
   refine W_region ?_
   refine L_g 3 kr ?_
   refine L_ld _ rfl rfl kr ((R.ext T121).wdL.ld (o := 1) kr rfl) ?_
   refine L_g 1 kr ?_
   obtain ⟨b1, o1, i1, l1⟩ := (R.ext T121).prsAt (P := Try.prog) (T := 74) (el := 77) kr kr kr hp
   refine L_ix _ rfl rfl kr kr (i1) ?_
   refine L_ld _ rfl rfl kr (l1) ?_
   refine L_g 1 kr ?_
   refine L_nil ?_
   refine W_block ?_
   refine W_seq ?_
   refine W_region ?_
   refine L_g 3 kr ?_
   refine L_ld _ rfl rfl kr ((c0.ext T121).ld (o := 1) kr rfl) ?_
   refine L_i ((W.rq p no).peer) (-2) (.bool false) rfl rfl kr kr rfl (by simp; omega) ?_
   refine L_g 1 kr ?_
   refine L_nil ?_
   refine W_cond false kr (fun e => by cases e) (fun _ => ?_)
   refine W_seq ?_
   refine W_drawn kr ?_
   refine D_l (l := [0, 1, 2, 3, 4, 5, 6, 7, 8, 9, 10, 11, 12, 13, 14, 15, 16, 17, 18, 19, 20, 21, 22, 23, 24, 25, 26, 27, 28, 29, 30, 31, 32, 33]) kr kr Rk_nil ?_
   refine NS_b 3 kr ?_
   refine NS_ld _ rfl rfl kr kr kr (((c0.ext T121).ld (o := 6) kr (by rw [← hs]; rfl) : aLoad Try.prog 4 ⟨G.B (.rq p no), 6, none⟩ h121 = some (.bool false))) ?_
   refine NS_b 4 kr ?_
   refine NS_ld _ rfl rfl kr kr kr ((c0.ext T121).ld (o := 10) kr rfl) ?_
   refine NS_i (((W.rq p no).parts : Int)) (0) (.bool false) rfl rfl kr kr kr kr rfl (by simp; omega) ?_
   refine NS_b 3 kr ?_
   refine NS_ld _ rfl rfl kr kr kr (c121.ld (o := 3) kr rfl) ?_
   refine NS_b 3 kr ?_
   refine NS_ld _ rfl rfl kr kr kr ((R.ext T121).wdL.ld (o := 0) kr rfl) ?_
   refine NS_i (e.size) (W.lim) (.bool true) rfl rfl kr kr kr kr rfl (by simp; omega) ?_
   refine NS_b 15 kr ?_
   refine NS_nil ?_
   refine W_cond true kr (fun _ => ?_) (fun e => by cases e)
   refine W_drawn kr ?_
   refine D_e (e := 13) (l := [0, 1, 2, 3, 4, 5, 6, 7, 8, 9, 10, 11, 12]) (s' := []) kr kr rfl kr Rk_nil ?_
   refine NS_b 5 kr ?_
   refine NS_ld _ rfl rfl kr kr kr ((c0.ext T121).ld (o := 1) kr rfl) ?_
   refine NS_ld _ rfl rfl kr kr kr (Cl.allN (n := 5) c121 rfl kr) ?_
   refine NS_b 3 kr ?_
   refine NS_ld _ rfl rfl kr kr kr ((c0.ext T121).ld (o := 0) kr rfl) ?_
   refine NS_b 2 kr ?_
   refine NS_nil ?_
   refine L_c rfl rfl kr (put_ok (R.ext T121) (x := .ask e (W.rq p no).no) rfl hlw) ?_
   rintro v122 h122 N122
   dsimp only at N122
   obtain ⟨S122, C122, ro122, R122, Y122⟩ := N122
   have X122 := ((Gx.refl).trans (Gx.of T121)).trans Y122
   have hr_122 := (Y122.keep _ hr).1
   have m121_122 : ¬ (Gh.mut ⟨Gh.B G, S122, C122, ro122⟩) (h.next) ∧ ¬ (Gh.ro ⟨Gh.B G, S122, C122, ro122⟩) (h.next) := ⟨fun hm => (Y122.mu _ hm).elim m121.1 (fun e => by have := c121.lt; omega), fun hm => (Y122.ron _ hm).elim m121.2 (fun e => by have := c121.lt; omega)⟩
   replace c121 := c121.sm Y122.sm m121.1
   have T122 : Sm (Ow h (⟨Gh.B G, S122, C122, ro122⟩ : Gh)) h122 h122 := .refl
   refine L_nil ⟨rfl, ?_⟩
   refine D_l (l := []) kr kr Rk_nil ?_
   refine NS_nil ?_
   repeat with_reducible refine blk_norm ?_
   refine done_of (v := .tuple ⟨[]⟩) (.inr rfl) kr ?_
   exact ⟨_, _, _, (R122.ow T122), ((X122).ow T122)⟩
 · obtain ⟨i, hpi, hi, hs, hpp, hll, hz, hput⟩ := hc
   unfold Wd.put at hput
   split at hput
   rotate_right
   · cases hput
   rename_i hlw
   obtain rfl := Option.some.inj hput
   refine Calls_of_W (n := 102) (fn := Try.f53) kr rfl rfl (Nat.le_of_ble_eq_true rfl) trivial ⟨.inr (by simp), rfl⟩ ?_
   have T0 : Sm Nix h h := .refl
   refine W_seq ?_
   refine W_region ?_
   refine L_nw (Al.cells [nv e.src, nv e.ctx, nv e.tag, nv e.size, nv e.parts]) .ptr rfl rfl kr ?_
   have m123 : ¬ (Gh.mut G) h.next ∧ ¬ (Gh.ro G) h.next := ⟨(R.ext T0).op.new (Nat.le_refl _), (R.ext T0).op.newr (Nat.le_refl _)⟩
   have c123 : Cl (h.push (Al.cells [nv e.src, nv e.ctx, nv e.tag, nv e.size, nv e.parts]).obj) h.next [nv e.src, nv e.ctx, nv e.tag, nv e.size, nv e.parts] := Cl.new h _
   have t123 : Sm Nix h (h.push (Al.cells [nv e.src, nv e.ctx, nv e.tag, nv e.size, nv e.parts]).obj) := .push h _
   have n123 : (h.push (Al.cells [nv e.src, nv e.ctx, nv e.tag, nv e.size, nv e.parts]).obj).next = h.next + 1 := rfl
   generalize h.push (Al.cells [nv e.src, nv e.ctx, nv e.tag, nv e.size, nv e.parts]).obj = h123 at c123 t123 n123 ⊢
   have T123 : Sm Nix h h123 := T0.ext t123
   have N123 := T123.nx
   refine L_nil ?_
   refine W_seq ?_
   refine W_region ?_
   refine L_g 3 kr ?_
   refine L_ld _ rfl rfl kr ((R.ext T123).wdL.ld (o := 1) kr rfl) ?_
   refine L_g 1 kr ?_
   obtain ⟨b1, o1, i1, l1⟩ := (R.ext T123).prsAt (P := Try.prog) (T := 74) (el := 77) kr kr kr hp
   refine L_ix _ rfl rfl kr kr (i1) ?_
   refine L_ld _ rfl rfl kr (l1) ?_
   refine L_g 1 kr ?_
   refine L_nil ?_
   refine W_block ?_
   refine W_seq ?_
   refine W_region ?_
   refine L_g 3 kr ?_
   refine L_ld _ rfl rfl kr ((c0.ext T123).ld (o := 1) kr rfl) ?_
   refine L_i ((W.rq p no).peer) (-2) (.bool false) rfl rfl kr kr rfl (by simp; omega) ?_
   refine L_g 1 kr ?_
   refine L_nil ?_
   refine W_cond false kr (fun e => by cases e) (fun _ => ?_)
   refine W_seq ?_
   refine W_drawn kr ?_
   refine D_l (l := [0, 1, 2, 3, 4, 5, 6, 7, 8, 9, 10, 11, 12, 13, 14, 15, 16, 17, 18, 19, 20, 21, 22, 23, 24, 25, 26, 27, 28, 29, 30, 31, 32, 33]) kr kr Rk_nil ?_
   refine NS_b 3 kr ?_
   refine NS_ld _ rfl rfl kr kr kr (((c0.ext T123).ld (o := 6) kr (by rw [← hs]; rfl) : aLoad Try.prog 4 ⟨G.B (.rq p no), 6, none⟩ h123 = some (.bool false))) ?_
   refine NS_b 4 kr ?_
   refine NS_ld _ rfl rfl kr kr kr ((c0.ext T123).ld (o := 10) kr rfl) ?_
   refine NS_i (((W.rq p no).parts : Int)) (0) (.bool false) rfl rfl kr kr kr kr rfl (by simp; omega) ?_
   refine NS_b 3 kr ?_
   refine NS_ld _ rfl rfl kr kr kr (c123.ld (o := 3) kr rfl) ?_
   refine NS_b 3 kr ?_
   refine NS_ld _ rfl rfl kr kr kr ((R.ext T123).wdL.ld (o := 0) kr rfl) ?_
   refine NS_i (e.size) (W.lim) (.bool false) rfl rfl kr kr kr kr rfl (by simp; omega) ?_
   refine NS_b 5 kr ?_
   refine NS_ld _ rfl rfl kr kr kr (((R.ext T123).prL hp).ld (o := 6) kr rfl) ?_
   refine NS_b 3 kr ?_
   refine NS_ld _ rfl rfl kr kr kr (((c0.ext T123).ld (o := 1) kr (by rw [← hpi]; rfl) : aLoad Try.prog 3 ⟨G.B (.rq p no), 1, none⟩ h123 = some (nv (i : Int)))) ?_
   have hci : ((W.pr p).crds.map nv)[i]? = some (nv ((W.pr p).crds.getD i 0)) := by rw [List.getElem?_map, List.getElem?_eq_getElem hi, List.getD_eq_getElem?_getD, List.getElem?_eq_getElem hi]; rfl
   obtain ⟨pa, xa, i1, i2, i3, i4, i5⟩ := ((R.ext T123).crd hp).elem (P := Try.prog) (T := 29) (el := 3) kr kr kr hi .i64
   obtain rfl : xa = nv ((W.pr p).crds.getD i 0) := Option.some.inj (i2.symm.trans hci)
   refine NS_ix _ rfl rfl kr kr kr kr (i1) ?_
   refine NS_ld _ rfl rfl kr kr kr (i3) ?_
   refine NS_i (((W.pr p).crds.getD i 0)) (0) (.bool true) rfl rfl kr kr kr kr rfl (by simp [-List.getD_eq_getElem?_getD]; omega) ?_
   refine NS_b 2 kr ?_
   refine NS_nil ?_
   refine W_cond true kr (fun _ => ?_) (fun e => by cases e)
   refine W_drawn kr ?_
   refine D_e (e := 13) (l := [0, 1, 2, 3, 4, 5, 6, 7, 8, 9, 10, 11, 12]) (s' := []) kr kr rfl kr Rk_nil ?_
   refine NS_b 5 kr ?_
   refine NS_ld _ rfl rfl kr kr kr ((c0.ext T123).ld (o := 1) kr rfl) ?_
   refine NS_ld _ rfl rfl kr kr kr (Cl.allN (n := 5) c123 rfl kr) ?_
   refine NS_b 3 kr ?_
   refine NS_ld _ rfl rfl kr kr kr ((c0.ext T123).ld (o := 0) kr rfl) ?_
   refine NS_b 2 kr ?_
   refine NS_nil ?_
   refine L_c rfl rfl kr (put_ok (R.ext T123) (x := .ask e (W.rq p no).no) rfl hlw) ?_
   rintro v124 h124 N124
   dsimp only at N124
   obtain ⟨S124, C124, ro124, R124, Y124⟩ := N124
   have X124 := ((Gx.refl).trans (Gx.of T123)).trans Y124
   have hr_124 := (Y124.keep _ hr).1
   have m123_124 : ¬ (Gh.mut ⟨Gh.B G, S124, C124, ro124⟩) (h.next) ∧ ¬ (Gh.ro ⟨Gh.B G, S124, C124, ro124⟩) (h.next) := ⟨fun hm => (Y124.mu _ hm).elim m123.1 (fun e => by have := c123.lt; omega), fun hm => (Y124.ron _ hm).elim m123.2 (fun e => by have := c123.lt; omega)⟩
   replace c123 := c123.sm Y124.sm m123.1
   have T124 : Sm (Ow h (⟨Gh.B G, S124, C124, ro124⟩ : Gh)) h124 h124 := .refl
   refine L_nil ⟨rfl, ?_⟩
   refine D_l (l := []) kr kr Rk_nil ?_
   refine NS_nil ?_
   repeat with_reducible refine blk_norm ?_
   refine done_of (v := .tuple ⟨[]⟩) (.inr rfl) kr ?_
   exact ⟨_, _, _, (R124.ow T124), ((X124).ow T124)⟩
 · obtain ⟨i, W1, hpi, hi, hs, hpp, hll, hz1, hz2, hput, rfl⟩ := hc
   unfold Wd.put at hput
   split at hput
   rotate_right
   · cases hput
   rename_i hlw
   obtain rfl := Option.some.inj hput
   refine Calls_of_W (n := 102) (fn := Try.f53) kr rfl rfl (Nat.le_of_ble_eq_true rfl) trivial ⟨.inr (by simp), rfl⟩ ?_
   have T0 : Sm Nix h h := .refl
   refine W_seq ?_
   refine W_region ?_
   refine L_nw (Al.cells [nv e.src, nv e.ctx, nv e.tag, nv e.size, nv e.parts]) .ptr rfl rfl kr ?_
   have m125 : ¬ (Gh.mut G) h.next ∧ ¬ (Gh.ro G) h.next := ⟨(R.ext T0).op.new (Nat.le_refl _), (R.ext T0).op.newr (Nat.le_refl _)⟩
   have c125 : Cl (h.push (Al.cells [nv e.src, nv e.ctx, nv e.tag, nv e.size, nv e.parts]).obj) h.next [nv e.src, nv e.ctx, nv e.tag, nv e.size, nv e.parts] := Cl.new h _
   have t125 : Sm Nix h (h.push (Al.cells [nv e.src, nv e.ctx, nv e.tag, nv e.size, nv e.parts]).obj) := .push h _
   have n125 : (h.push (Al.cells [nv e.src, nv e.ctx, nv e.tag, nv e.size, nv e.parts]).obj).next = h.next + 1 := rfl
   generalize h.push (Al.cells [nv e.src, nv e.ctx, nv e.tag, nv e.size, nv e.parts]).obj = h125 at c125 t125 n125 ⊢
   have T125 : Sm Nix h h125 := T0.ext t125
   have N125 := T125.nx
   refine L_nil ?_
   refine W_seq ?_
   refine W_region ?_
   refine L_g 3 kr ?_
   refine L_ld _ rfl rfl kr ((R.ext T125).wdL.ld (o := 1) kr rfl) ?_
   refine L_g 1 kr ?_
   obtain ⟨b1, o1, i1, l1⟩ := (R.ext T125).prsAt (P := Try.prog) (T := 74) (el := 77) kr kr kr hp
   refine L_ix _ rfl rfl kr kr (i1) ?_
   refine L_ld _ rfl rfl kr (l1) ?_
   refine L_g 1 kr ?_
   refine L_nil ?_
   refine W_block ?_
   refine W_seq ?_
   refine W_region ?_
   refine L_g 3 kr ?_
   refine L_ld _ rfl rfl kr ((c0.ext T125).ld (o := 1) kr rfl) ?_
   refine L_i ((W.rq p no).peer) (-2) (.bool false) rfl rfl kr kr rfl (by simp; omega) ?_
   refine L_g 1 kr ?_
   refine L_nil ?_
   refine W_cond false kr (fun e => by cases e) (fun _ => ?_)
   refine W_seq ?_
   refine W_drawn kr ?_
   refine D_l (l := [0, 1, 2, 3, 4, 5, 6, 7, 8, 9, 10, 11, 12, 13, 14, 15, 16, 17, 18, 19, 20, 21, 22, 23, 24, 25, 26, 27, 28, 29, 30, 31, 32, 33]) kr kr Rk_nil ?_
   refine NS_b 3 kr ?_
   refine NS_ld _ rfl rfl kr kr kr (((c0.ext T125).ld (o := 6) kr (by rw [← hs]; rfl) : aLoad Try.prog 4 ⟨G.B (.rq p no), 6, none⟩ h125 = some (.bool false))) ?_
   refine NS_b 4 kr ?_
   refine NS_ld _ rfl rfl kr kr kr ((c0.ext T125).ld (o := 10) kr rfl) ?_
   refine NS_i (((W.rq p no).parts : Int)) (0) (.bool false) rfl rfl kr kr kr kr rfl (by simp; omega) ?_
   refine NS_b 3 kr ?_
   refine NS_ld _ rfl rfl kr kr kr (c125.ld (o := 3) kr rfl) ?_
   refine NS_b 3 kr ?_
   refine NS_ld _ rfl rfl kr kr kr ((R.ext T125).wdL.ld (o := 0) kr rfl) ?_
   refine NS_i (e.size) (W.lim) (.bool false) rfl rfl kr kr kr kr rfl (by simp; omega) ?_
   refine NS_b 5 kr ?_
   refine NS_ld _ rfl rfl kr kr kr (((R.ext T125).prL hp).ld (o := 6) kr rfl) ?_
   refine NS_b 3 kr ?_
   refine NS_ld _ rfl rfl kr kr kr (((c0.ext T125).ld (o := 1) kr (by rw [← hpi]; rfl) : aLoad Try.prog 3 ⟨G.B (.rq p no), 1, none⟩ h125 = some (nv (i : Int)))) ?_
   have hci : ((W.pr p).crds.map nv)[i]? = some (nv ((W.pr p).crds.getD i 0)) := by rw [List.getElem?_map, List.getElem?_eq_getElem hi, List.getD_eq_getElem?_getD, List.getElem?_eq_getElem hi]; rfl
   obtain ⟨pa, xa, i1, i2, i3, i4, i5⟩ := ((R.ext T125).crd hp).elem (P := Try.prog) (T := 29) (el := 3) kr kr kr hi .i64
   obtain rfl : xa = nv ((W.pr p).crds.getD i 0) := Option.some.inj (i2.symm.trans hci)
   refine NS_ix _ rfl rfl kr kr kr kr (i1) ?_
   refine NS_ld _ rfl rfl kr kr kr (i3) ?_
   refine NS_i (((W.pr p).crds.getD i 0)) (0) (.bool false) rfl rfl kr kr kr kr rfl (by simp [-List.getD_eq_getElem?_getD]; omega) ?_
   refine NS_b 2 kr ?_
   refine NS_nil ?_
   refine W_cond false kr (fun e => by cases e) (fun _ => ?_)
   refine W_seq ?_
   refine W_drawn kr ?_
   refine D_e (e := 12) (l := [0, 1, 2, 3, 4, 5, 6, 7, 8, 9, 10, 11]) (s' := []) kr kr rfl kr Rk_nil ?_
   refine NS_b 3 kr ?_
   refine NS_ld _ rfl rfl kr kr kr (((R.ext T125).prL hp).ld (o := 6) kr rfl) ?_
   refine NS_b 3 kr ?_
   refine NS_ld _ rfl rfl kr kr kr (((c0.ext T125).ld (o := 1) kr (by rw [← hpi]; rfl) : aLoad Try.prog 3 ⟨G.B (.rq p no), 1, none⟩ h125 = some (nv (i : Int)))) ?_
   have hci : ((W.pr p).crds.map nv)[i]? = some (nv ((W.pr p).crds.getD i 0)) := by rw [List.getElem?_map, List.getElem?_eq_getElem hi, List.getD_eq_getElem?_getD, List.getElem?_eq_getElem hi]; rfl
   obtain ⟨pb, xb, j1, j2, j3, j4, j5⟩ := ((R.ext T125).crd hp).elem (P := Try.prog) (T := 29) (el := 3) kr kr kr hi .i64
   obtain rfl : xb = nv ((W.pr p).crds.getD i 0) := Option.some.inj (j2.symm.trans hci)
   refine NS_ix _ rfl rfl kr kr kr kr (j1) ?_
   refine NS_ld _ rfl rfl kr kr kr (j3) ?_
   refine NS_i (((W.pr p).crds.getD i 0)) (1) (nv (((W.pr p).crds.getD i 0) - 1)) rfl rfl kr kr kr kr rfl (dec_int hz1 hz2) ?_
   refine NS_ix _ rfl rfl kr kr kr kr (j1) ?_
   refine NS_nil ?_
   obtain ⟨h126, e126, w126, t126, n126⟩ := j5 (nv (((W.pr p).crds.getD i 0) - 1)) rfl rfl
   have N126 : Nxt (W.setPr p { W.pr p with crds := (W.pr p).crds.set i (((W.pr p).crds.getD i 0) - 1) }) G h125 h126 := (R.ext T125).setCrd hp (by rw [List.length_set, List.map_set]; exact w126) t126
   refine L_st _ rfl rfl rfl kr kr (e126) ?_
   obtain ⟨S126, C126, ro126, R126, Y126⟩ := N126
   have X126 := ((Gx.refl).trans (Gx.of T125)).trans Y126
   have hr_126 := (Y126.keep _ hr).1
   have m125_126 : ¬ (Gh.mut ⟨Gh.B G, S126, C126, ro126⟩) (h.next) ∧ ¬ (Gh.ro ⟨Gh.B G, S126, C126, ro126⟩) (h.next) := ⟨fun hm => (Y126.mu _ hm).elim m125.1 (fun e => by have := c125.lt; omega), fun hm => (Y126.ron _ hm).elim m125.2 (fun e => by have := c125.lt; omega)⟩
   replace c125 := c125.sm Y126.sm m125.1
   have T126 : Sm (Ow h (⟨Gh.B G, S126, C126, ro126⟩ : Gh)) h126 h126 := .refl
   obtain ⟨dvz, hdz, cz⟩ := R126.rqL (p := p) hp hr_126
   replace cz : Arm.Cl h126 (G.B (.rq p no)) [nk (W.rq p no).no, nv (W.rq p no).peer, nv (W.rq p no).ctx, nv (W.rq p no).tag, nv (W.rq p no).room, .bool (W.rq p no).send, .bool (W.rq p no).sync, .bool (W.rq p no).pers, .bool (W.rq p no).act, .bool (W.rq p no).done, nk (W.rq p no).parts, nk (W.rq p no).size, dvz, (⟨G.B, S126, C126, ro126⟩ : Gh).S (.pcs p no), nk (W.rq p no).gone, (⟨G.B, S126, C126, ro126⟩ : Gh).S (.snt p no), .bool (W.rq p no).clr, nv (W.rq p no).st.src, nv (W.rq p no).st.tag, nv (W.rq p no).st.size, nv (W.rq p no).st.err] := cz
   obtain ⟨da, dc, rfl⟩ := hdz.1.form
   refine L_nil ⟨rfl, ?_⟩
   refine D_l (l := []) kr kr Rk_nil ?_
   refine NS_nil ?_
   refine W_seq ?_
   refine W_drawn kr ?_
   refine D_e (e := 13) (l := [0, 1, 2, 3, 4, 5, 6, 7, 8, 9, 10, 11, 12]) (s' := []) kr kr rfl kr Rk_nil ?_
   refine NS_b 5 kr ?_
   refine NS_ld _ rfl rfl kr kr kr ((cz.sm T126 (fun hx => hx.2.1 ⟨.rq p no, hr_126, rfl⟩)).ld (o := 1) kr rfl) ?_
   refine NS_ld _ rfl rfl kr kr kr (Cl.allN (n := 5) c125 rfl kr) ?_
   refine NS_b 3 kr ?_
   refine NS_ld _ rfl rfl kr kr kr ((cz.sm T126 (fun hx => hx.2.1 ⟨.rq p no, hr_126, rfl⟩)).ld (o := 12) kr rfl) ?_
   refine NS_b 2 kr ?_
   refine NS_nil ?_
   refine L_c rfl rfl kr (put_ok (R126.ow T126) (x := .eager e (W.rq p no).data) ⟨_, hdz.ext3 T126, rfl⟩ hlw) ?_
   rintro v127 h127 N127
   dsimp only at N127
   obtain ⟨S127, C127, ro127, R127, Y127⟩ := N127
   have X127 := ((X126).ow T126).trans Y127
   have hr_127 := (Y127.keep _ hr_126).1
   have m125_126_127 : ¬ (Gh.mut ⟨Gh.B (⟨Gh.B G, S126, C126, ro126⟩ : Gh), S127, C127, ro127⟩) (h.next) ∧ ¬ (Gh.ro ⟨Gh.B (⟨Gh.B G, S126, C126, ro126⟩ : Gh), S127, C127, ro127⟩) (h.next) := ⟨fun hm => (Y127.mu _ hm).elim m125_126.1 (fun e => by have := c125.lt; omega), fun hm => (Y127.ron _ hm).elim m125_126.2 (fun e => by have := c125.lt; omega)⟩
   replace c125 := c125.sm Y127.sm m125_126.1
   have T127 : Sm (Ow h (⟨Gh.B (⟨Gh.B G, S126, C126, ro126⟩ : Gh), S127, C127, ro127⟩ : Gh)) h127 h127 := .refl
   refine L_nil ⟨rfl, ?_⟩
   refine D_l (l := []) kr kr Rk_nil ?_
   refine NS_nil ?_
   refine W_region ?_
   refine L_g 3 kr ?_
   obtain ⟨dv9, hd9, c9⟩ := (R127.ow T127).rqL hp hr_127
   replace c9 : Cl h127 (Gh.B (⟨Gh.B (⟨Gh.B G, S126, C126, ro126⟩ : Gh), S127, C127, ro127⟩ : Gh) (.rq p no)) [nk (((W.setPr p { W.pr p with crds := (W.pr p).crds.set i (((W.pr p).crds.getD i 0) - 1) }).setWay p (W.rq p no).peer ((W.setPr p { W.pr p with crds := (W.pr p).crds.set i (((W.pr p).crds.getD i 0) - 1) }).way p (W.rq p no).peer ++ [Pk.eager e (W.rq p no).data])).rq p no).no, nv (((W.setPr p { W.pr p with crds := (W.pr p).crds.set i (((W.pr p).crds.getD i 0) - 1) }).setWay p (W.rq p no).peer ((W.setPr p { W.pr p with crds := (W.pr p).crds.set i (((W.pr p).crds.getD i 0) - 1) }).way p (W.rq p no).peer ++ [Pk.eager e (W.rq p no).data])).rq p no).peer, nv (((W.setPr p { W.pr p with crds := (W.pr p).crds.set i (((W.pr p).crds.getD i 0) - 1) }).setWay p (W.rq p no).peer ((W.setPr p { W.pr p with crds := (W.pr p).crds.set i (((W.pr p).crds.getD i 0) - 1) }).way p (W.rq p no).peer ++ [Pk.eager e (W.rq p no).data])).rq p no).ctx, nv (((W.setPr p { W.pr p with crds := (W.pr p).crds.set i (((W.pr p).crds.getD i 0) - 1) }).setWay p (W.rq p no).peer ((W.setPr p { W.pr p with crds := (W.pr p).crds.set i (((W.pr p).crds.getD i 0) - 1) }).way p (W.rq p no).peer ++ [Pk.eager e (W.rq p no).data])).rq p no).tag, nv (((W.setPr p { W.pr p with crds := (W.pr p).crds.set i (((W.pr p).crds.getD i 0) - 1) }).setWay p (W.rq p no).peer ((W.setPr p { W.pr p with crds := (W.pr p).crds.set i (((W.pr p).crds.getD i 0) - 1) }).way p (W.rq p no).peer ++ [Pk.eager e (W.rq p no).data])).rq p no).room, .bool (((W.setPr p { W.pr p with crds := (W.pr p).crds.set i (((W.pr p).crds.getD i 0) - 1) }).setWay p (W.rq p no).peer ((W.setPr p { W.pr p with crds := (W.pr p).crds.set i (((W.pr p).crds.getD i 0) - 1) }).way p (W.rq p no).peer ++ [Pk.eager e (W.rq p no).data])).rq p no).send, .bool (((W.setPr p { W.pr p with crds := (W.pr p).crds.set i (((W.pr p).crds.getD i 0) - 1) }).setWay p (W.rq p no).peer ((W.setPr p { W.pr p with crds := (W.pr p).crds.set i (((W.pr p).crds.getD i 0) - 1) }).way p (W.rq p no).peer ++ [Pk.eager e (W.rq p no).data])).rq p no).sync, .bool (((W.setPr p { W.pr p with crds := (W.pr p).crds.set i (((W.pr p).crds.getD i 0) - 1) }).setWay p (W.rq p no).peer ((W.setPr p { W.pr p with crds := (W.pr p).crds.set i (((W.pr p).crds.getD i 0) - 1) }).way p (W.rq p no).peer ++ [Pk.eager e (W.rq p no).data])).rq p no).pers, .bool (((W.setPr p { W.pr p with crds := (W.pr p).crds.set i (((W.pr p).crds.getD i 0) - 1) }).setWay p (W.rq p no).peer ((W.setPr p { W.pr p with crds := (W.pr p).crds.set i (((W.pr p).crds.getD i 0) - 1) }).way p (W.rq p no).peer ++ [Pk.eager e (W.rq p no).data])).rq p no).act, .bool (((W.setPr p { W.pr p with crds := (W.pr p).crds.set i (((W.pr p).crds.getD i 0) - 1) }).setWay p (W.rq p no).peer ((W.setPr p { W.pr p with crds := (W.pr p).crds.set i (((W.pr p).crds.getD i 0) - 1) }).way p (W.rq p no).peer ++ [Pk.eager e (W.rq p no).data])).rq p no).done, nk (((W.setPr p { W.pr p with crds := (W.pr p).crds.set i (((W.pr p).crds.getD i 0) - 1) }).setWay p (W.rq p no).peer ((W.setPr p { W.pr p with crds := (W.pr p).crds.set i (((W.pr p).crds.getD i 0) - 1) }).way p (W.rq p no).peer ++ [Pk.eager e (W.rq p no).data])).rq p no).parts, nk (((W.setPr p { W.pr p with crds := (W.pr p).crds.set i (((W.pr p).crds.getD i 0) - 1) }).setWay p (W.rq p no).peer ((W.setPr p { W.pr p with crds := (W.pr p).crds.set i (((W.pr p).crds.getD i 0) - 1) }).way p (W.rq p no).peer ++ [Pk.eager e (W.rq p no).data])).rq p no).size, dv9, (⟨Gh.B (⟨Gh.B G, S126, C126, ro126⟩ : Gh), S127, C127, ro127⟩ : Gh).S (.pcs p no), nk (((W.setPr p { W.pr p with crds := (W.pr p).crds.set i (((W.pr p).crds.getD i 0) - 1) }).setWay p (W.rq p no).peer ((W.setPr p { W.pr p with crds := (W.pr p).crds.set i (((W.pr p).crds.getD i 0) - 1) }).way p (W.rq p no).peer ++ [Pk.eager e (W.rq p no).data])).rq p no).gone, (⟨Gh.B (⟨Gh.B G, S126, C126, ro126⟩ : Gh), S127, C127, ro127⟩ : Gh).S (.snt p no), .bool (((W.setPr p { W.pr p with crds := (W.pr p).crds.set i (((W.pr p).crds.getD i 0) - 1) }).setWay p (W.rq p no).peer ((W.setPr p { W.pr p with crds := (W.pr p).crds.set i (((W.pr p).crds.getD i 0) - 1) }).way p (W.rq p no).peer ++ [Pk.eager e (W.rq p no).data])).rq p no).clr, nv (((W.setPr p { W.pr p with crds := (W.pr p).crds.set i (((W.pr p).crds.getD i 0) - 1) }).setWay p (W.rq p no).peer ((W.setPr p { W.pr p with crds := (W.pr p).crds.set i (((W.pr p).crds.getD i 0) - 1) }).way p (W.rq p no).peer ++ [Pk.eager e (W.rq p no).data])).rq p no).st.src, nv (((W.setPr p { W.pr p with crds := (W.pr p).crds.set i (((W.pr p).crds.getD i 0) - 1) }).setWay p (W.rq p no).peer ((W.setPr p { W.pr p with crds := (W.pr p).crds.set i (((W.pr p).crds.getD i 0) - 1) }).way p (W.rq p no).peer ++ [Pk.eager e (W.rq p no).data])).rq p no).st.tag, nv (((W.setPr p { W.pr p with crds := (W.pr p).crds.set i (((W.pr p).crds.getD i 0) - 1) }).setWay p (W.rq p no).peer ((W.setPr p { W.pr p with crds := (W.pr p).crds.set i (((W.pr p).crds.getD i 0) - 1) }).way p (W.rq p no).peer ++ [Pk.eager e (W.rq p no).data])).rq p no).st.size, nv (((W.setPr p { W.pr p with crds := (W.pr p).crds.set i (((W.pr p).crds.getD i 0) - 1) }).setWay p (W.rq p no).peer ((W.setPr p { W.pr p with crds := (W.pr p).crds.set i (((W.pr p).crds.getD i 0) - 1) }).way p (W.rq p no).peer ++ [Pk.eager e (W.rq p no).data])).rq p no).st.err] := c9
   obtain ⟨h128, e128, d128, t128, n128⟩ := c9.store (P := Try.prog) (T := 4) (o := 9) (v := .bool true) kr rfl rfl (by simp)
   have N128 : Nxt (((W.setPr p { W.pr p with crds := (W.pr p).crds.set i (((W.pr p).crds.getD i 0) - 1) }).setWay p (W.rq p no).peer ((W.setPr p { W.pr p with crds := (W.pr p).crds.set i (((W.pr p).crds.getD i 0) - 1) }).way p (W.rq p no).peer ++ [Pk.eager e (W.rq p no).data])).setRq p no { (((W.setPr p { W.pr p with crds := (W.pr p).crds.set i (((W.pr p).crds.getD i 0) - 1) }).setWay p (W.rq p no).peer ((W.setPr p { W.pr p with crds := (W.pr p).crds.set i (((W.pr p).crds.getD i 0) - 1) }).way p (W.rq p no).peer ++ [Pk.eager e (W.rq p no).data])).rq p no) with done := true }) (⟨Gh.B (⟨Gh.B G, S126, C126, ro126⟩ : Gh), S127, C127, ro127⟩ : Gh) h127 h128 := (R127.ow T127).stRq hp hr_127 (r := { (((W.setPr p { W.pr p with crds := (W.pr p).crds.set i (((W.pr p).crds.getD i 0) - 1) }).setWay p (W.rq p no).peer ((W.setPr p { W.pr p with crds := (W.pr p).crds.set i (((W.pr p).crds.getD i 0) - 1) }).way p (W.rq p no).peer ++ [Pk.eager e (W.rq p no).data])).rq p no) with done := true }) hd9 d128 t128 rfl rfl rfl
   clear hd9
   refine L_st _ rfl rfl rfl kr kr (e128) ?_
   obtain ⟨S128, C128, ro128, R128, Y128⟩ := N128
   have X128 := ((X127).ow T127).trans Y128
   have hr_128 := (Y128.keep _ hr_127).1
   have m125_126_127_128 : ¬ (Gh.mut ⟨Gh.B (⟨Gh.B (⟨Gh.B G, S126, C126, ro126⟩ : Gh), S127, C127, ro127⟩ : Gh), S128, C128, ro128⟩) (h.next) ∧ ¬ (Gh.ro ⟨Gh.B (⟨Gh.B (⟨Gh.B G, S126, C126, ro126⟩ : Gh), S127, C127, ro127⟩ : Gh), S128, C128, ro128⟩) (h.next) := ⟨fun hm => (Y128.mu _ hm).elim m125_126_127.1 (fun e => by have := c125.lt; omega), fun hm => (Y128.ron _ hm).elim m125_126_127.2 (fun e => by have := c125.lt; omega)⟩
   replace c125 := c125.sm Y128.sm m125_126_127.1
   have T128 : Sm (Ow h (⟨Gh.B (⟨Gh.B (⟨Gh.B G, S126, C126, ro126⟩ : Gh), S127, C127, ro127⟩ : Gh), S128, C128, ro128⟩ : Gh)) h128 h128 := .refl
   refine L_nil ?_
   repeat with_reducible refine blk_norm ?_
   refine done_of (v := .tuple ⟨[]⟩) (.inr rfl) kr ?_
   exact ⟨_, _, _, (R128.ow T128), ((X128).ow T128)⟩
end
end Go.Proofs.Ytmehemeoaplepaa
