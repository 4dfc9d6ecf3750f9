/- Worlds of the program and walks of its functions. -/
import Derived.Test.YtjealfplbigphaaGreatZm
import Derived.Test.YtjealfplbigphaaGreatZl
namespace Go.Proofs.YtjealfplbigphaaGreat
noncomputable section
open Go Go.X Go.Arm Go.Mt
theorem jj7 {α : Type} {l : List α} {k : Nat} {x : α} (hx : l[k]? = some x) : l.drop k = x :: l.drop (k + 1) := by
 obtain ⟨h1, h2⟩ := List.getElem?_eq_some_iff.1 hx
 rw [List.drop_eq_getElem_cons h1, h2]
set_option maxHeartbeats 1000000 in
theorem yy5 {W : Wd} {G : Gh} {h : AH} {p : Nat} {W' : Wd} (R : Rep W G h) (hp : p < W.n) (he : W.call p = some W') :
   Arm.Calls Tryz.prog 36 [ptr (G.B .wd), nv (p : Int)] h (fun r => r.1 = nv ((W.pr p).inb.length : Int) /\ Nxt W' G h r.2) := by
 unfold Wd.call at he
 split at he
 rotate_right
 . cases he
 rename_i hbig
 have hbig : (W.pr p).inb.length < 1000000000 := hbig
 obtain ⟨cs, g0, ls⟩ := R.inb hp
 refine j9 43 Tryz.f36 ?_
 have T0 : Sm Nix h h := .refl
 refine z1 1 kr (q5 (z1 3 kr (z9 _ rfl rfl kr ((R.ext T0).wdL.ld (o := 1) kr rfl) (L_g 1 kr ?_))))
 obtain ⟨b1, o1, i1, l1⟩ := (R.ext T0).prsAt (P := Tryz.prog) (T := 61) (el := 64) kr kr kr hp
 refine Z8 _ rfl rfl kr kr (i1) (z9 _ rfl rfl kr (l1) (L_g 2 kr (z9 _ rfl rfl kr (((R.ext T0).prL hp).ld (o := 3) kr rfl) (L_g 1 kr (q5 (z1 3 kr (z9 _ rfl rfl kr ((R.ext T0).wdL.ld (o := 1) kr rfl) (L_g 1 kr ?_))))))))
 obtain ⟨b1, o1, i1, l1⟩ := (R.ext T0).prsAt (P := Tryz.prog) (T := 61) (el := 64) kr kr kr hp
 refine Z8 _ rfl rfl kr kr (i1) (z9 _ rfl rfl kr (l1) (L_g 2 kr ?_))
 obtain ⟨h95, e95, d95, t95, n95⟩ := ((R.ext T0).prL hp).store (P := Tryz.prog) (T := 69) (o := 3) (v := .slice none 0 0) kr rfl rfl (by simp [prC])
 have hpe : ∀ b, vb (G.S (.inb p)) = some b -> ¬ b = G.B (.pr p) := fun b hb e => R.op.ne (r := .inb p) (r' := .pr p) (by obtain ⟨cs, e, _⟩ := (R.rel.pr p hp).inb; rw [e]; simp) (by rw [(R.rel.pr p hp).pr]; simp) (by simp) (J4 hb) (by rw [e]; rfl)
 obtain ⟨S0, C0, ro0, ⟨R0, Y0⟩, nm0⟩ := (R.ext T0).nilInb hp d95 t95
 have hs0 := (g0.sd.ext T0).sm t95 hpe
 have X0 := (Gx.of T0).trans Y0
 have ls0 := ls.mono (fun _ _ z => z.mono (Gx.dr X0 R.op))
 refine Q3 _ rfl rfl rfl kr kr (e95) ?_
 have T95 : Sm Nix h95 h95 := .refl
 refine q5 (q7 (z1 1 kr (V4 _ rfl rfl kr (hs0.len (T := 69) (el := 131) kr) (L_g 1 kr (q5 (u3 ?_))))))
 refine J5 (fun mm fr hh => ∃ (k : Nat) (Wk : Wd) (Sk : Ro -> Value) (Ck : Ro -> Th) (rk : Nat -> Prop), mm = (W.pr p).inb.length - k /\ k ≤ (W.pr p).inb.length /\ Wd.handles p Wk ((W.pr p).inb.drop k) = some W' /\ Wk.n = W.n /\ Rep Wk (⟨G.B, Sk, Ck, rk⟩ : Gh) hh /\ Gx G h (⟨G.B, Sk, Ck, rk⟩ : Gh) hh /\ Sd hh 2 (G.S (.inb p)) (W.pr p).inb.length cs /\ (∀ b, vb (G.S (.inb p)) = some b -> ¬ Gh.mut (⟨G.B, Sk, Ck, rk⟩ : Gh) b /\ ¬ rk b) /\ Ls (RAr hh rk) 2 (W.pr p).inb cs /\
    fr 0 = ptr (G.B .wd) /\ fr 1 = nv (p : Int) /\ fr 5 = G.S (.inb p) /\ fr 27 = G.S (.inb p) /\ fr 28 = nv ((W.pr p).inb.length : Int) /\ fr 29 = nv (k : Int)) ((W.pr p).inb.length) ?_ ?_
 ·
   exact ⟨0, W.setPr p { W.pr p with inb := [] }, S0, C0, ro0, rfl, Nat.zero_le _, by rw [List.drop_zero]; exact he, rfl, R0, X0, hs0, nm0, ls0, kr, kr, kr, kr, kr, kr⟩
 clear hs0 nm0 ls0 R0 X0
 rintro mm fr hh ⟨k, Wk, Sk, Ck, rk, hm, hk, hst, hn, Rk, Xk, hs, hb9, ls, y0, y1, y5, y27, y28, y29⟩
 refine j8 (k := 0) y0 (j8 (k := 1) y1 (j8 (k := 5) y5 (j8 (k := 27) y27 (j8 (k := 28) y28 (j8 (k := 29) y29 ?_)))))
 have TK : Sm Nix hh hh := .refl
 have NK := Xk.sm.nx
 refine z1 1 kr (q5 (q7 ?_))
 refine Q0 (decide ((k : Int) < ((W.pr p).inb.length : Nat))) kr (fun hb => ?_) (fun hb => ?_)
 ·
   have hlt : k < (W.pr p).inb.length := by simp at hb; omega
   obtain ⟨x, hx⟩ : ∃ x, (W.pr p).inb[k]? = some x := ⟨_, List.getElem?_eq_getElem hlt⟩
   rw [jj7 hx] at hst
   obtain ⟨W1, hst, hst2⟩ := Wd.handles_cons hst
   have hn1 : W1.n = W.n := (Wd.handle_n hst).trans hn
   obtain ⟨c, ⟨pv, hpv, rfl⟩, hcl, hcc⟩ := ls.get hx
   obtain ⟨f, pk⟩ := x
   dsimp only at hpv hst hcc
   obtain ⟨b9, o9, _, i9, l9⟩ := hs.at (P := Tryz.prog) (T := 69) (el := 131) kr kr hlt .i64
   have hp' : p < Wk.n := by rw [hn]; exact hp
   have hl9 : ∀ j, j < 2 -> hh.cell ⟨b9, o9 + j, none⟩ = [nv f, pv][j]? := fun j hj => (l9 j hj).trans (hcc j hj)
   refine z6 (q7 (u3 (q7 ?_)))
   rcases pk with ⟨e, d⟩ | ⟨e, q⟩ | _ | q | ⟨q, d⟩ | ⟨q, i, d⟩
   ·
    obtain ⟨dv, hd, rfl⟩ := hpv
    obtain ⟨da, dc, rfl⟩ := hd.1.form
    have he1 : Wk.came p (.eager e d) = some W1 := hst
    refine q6 (Z8 _ rfl rfl kr kr (i9) (z9 _ rfl rfl kr (zk6 (l := [nv f, .iface Tys.e (.agg ⟨[nv e.src, nv e.ctx, nv e.tag, nv e.size, nv e.parts, .slice da (List.map bv d).length dc]⟩)]) kr (fun j hj => hl9 j hj)) ?_))
    have m96 : ¬ (Gh.mut (⟨G.B, Sk, Ck, rk⟩ : Gh)) hh.next /\ ¬ (Gh.ro (⟨G.B, Sk, Ck, rk⟩ : Gh)) hh.next := ⟨(Rk.ext TK).op.new (Nat.le_refl _), (Rk.ext TK).op.newr (Nat.le_refl _)⟩
    refine Q1 [nv 0, .nilIface] .ptr rfl rfl kr fun h96 c96 t96 n96 => ?_
    have T96 := TK.ext t96
    have N96 := T96.nx
    obtain ⟨h97, e97, d97, t97, n97⟩ := c96.sA 131 [nv f, .iface Tys.e (.agg ⟨[nv e.src, nv e.ctx, nv e.tag, nv e.size, nv e.parts, .slice da (List.map bv d).length dc]⟩)]
    replace c96 := d97
    have T97 := T96.tr t97
    have N97 := T97.nx
    refine Q3 _ rfl rfl rfl kr kr (e97) (q5 (Z3 1 kr (z9 _ rfl rfl kr (c96.ld (o := 1) kr rfl) (L_g 3 kr (z9 _ rfl rfl kr (c96.ld (o := 0) kr rfl) (L_c rfl rfl kr (jx9 (f := f) (Rk.ext T97) hp' (Dr.ext hd T97) he1) ?_))))))
    rintro v98 h98 N98
    dsimp only at N98
    obtain ⟨S98, C98, ro98, R98, Y98⟩ := N98
    have X98 := ((Xk).trans (Gx.of T97)).trans Y98
    have m96_98 : ¬ (Gh.mut ⟨Gh.B (⟨G.B, Sk, Ck, rk⟩ : Gh), S98, C98, ro98⟩) (hh.next) /\ ¬ (Gh.ro ⟨Gh.B (⟨G.B, Sk, Ck, rk⟩ : Gh), S98, C98, ro98⟩) (hh.next) := ⟨fun hm => (Y98.mu _ hm).elim m96.1 (fun e => by have := c96.lt; omega), fun hm => (Y98.ron _ hm).elim m96.2 (fun e => by have := c96.lt; omega)⟩
    have T98 : Sm (Ow h (⟨Gh.B (⟨G.B, Sk, Ck, rk⟩ : Gh), S98, C98, ro98⟩ : Gh)) h98 h98 := .refl
    have hc9 := hs.ext T97
    have hs9 := hc9.sm Y98.sm (fun b hb => (hb9 b hb).1)
    have nm9 : ∀ b, vb (G.S (.inb p)) = some b -> ¬ (Gh.mut ⟨G.B, S98, C98, ro98⟩) b /\ ¬ ro98 b := fun b hb => ⟨fun hm => (Y98.mu b hm).elim (hb9 b hb).1 (fun e => by have := hc9.lt hb; omega), fun hm => (Y98.ron b hm).elim (hb9 b hb).2 (fun e => by have := hc9.lt hb; omega)⟩
    have ls9 := ls.mono (fun _ _ z => z.mono (Gx.dr ((Gx.of T97).trans Y98) Rk.op))
    refine q5 (q6 (L_i ((k : Int)) (1) (nv ((k + 1 : Nat) : Int)) rfl rfl kr kr rfl (Z4 (by omega)) (L_g 1 kr (q5 ?_))))
    exact ⟨(W.pr p).inb.length - (k + 1), by omega, k + 1, _, _, _, _, rfl, by omega, hst2, hn1, (R98.ow T98), ((X98).ow T98), hs9, nm9, ls9, kr, kr, kr, kr, kr, kr⟩
   ·
    obtain rfl := hpv
    have he1 : Wk.came p (.ask e q) = some W1 := hst
    refine q6 (Z8 _ rfl rfl kr kr (i9) (z9 _ rfl rfl kr (zk6 (l := [nv f, .iface Tys.a (.agg ⟨[nv e.src, nv e.ctx, nv e.tag, nv e.size, nv e.parts, nv q]⟩)]) kr (fun j hj => hl9 j hj)) ?_))
    have m99 : ¬ (Gh.mut (⟨G.B, Sk, Ck, rk⟩ : Gh)) hh.next /\ ¬ (Gh.ro (⟨G.B, Sk, Ck, rk⟩ : Gh)) hh.next := ⟨(Rk.ext TK).op.new (Nat.le_refl _), (Rk.ext TK).op.newr (Nat.le_refl _)⟩
    refine Q1 [nv 0, .nilIface] .ptr rfl rfl kr fun h99 c99 t99 n99 => ?_
    have T99 := TK.ext t99
    have N99 := T99.nx
    obtain ⟨h100, e100, d100, t100, n100⟩ := c99.sA 131 [nv f, .iface Tys.a (.agg ⟨[nv e.src, nv e.ctx, nv e.tag, nv e.size, nv e.parts, nv q]⟩)]
    replace c99 := d100
    have T100 := T99.tr t100
    have N100 := T100.nx
    refine Q3 _ rfl rfl rfl kr kr (e100) (q5 (Z3 1 kr (z9 _ rfl rfl kr (c99.ld (o := 1) kr rfl) (L_g 3 kr (z9 _ rfl rfl kr (c99.ld (o := 0) kr rfl) (L_c rfl rfl kr (Qx3 (f := f) (Rk.ext T100) hp' he1) ?_))))))
    rintro v101 h101 N101
    dsimp only at N101
    obtain ⟨S101, C101, ro101, R101, Y101⟩ := N101
    have X101 := ((Xk).trans (Gx.of T100)).trans Y101
    have m99_101 : ¬ (Gh.mut ⟨Gh.B (⟨G.B, Sk, Ck, rk⟩ : Gh), S101, C101, ro101⟩) (hh.next) /\ ¬ (Gh.ro ⟨Gh.B (⟨G.B, Sk, Ck, rk⟩ : Gh), S101, C101, ro101⟩) (hh.next) := ⟨fun hm => (Y101.mu _ hm).elim m99.1 (fun e => by have := c99.lt; omega), fun hm => (Y101.ron _ hm).elim m99.2 (fun e => by have := c99.lt; omega)⟩
    have T101 : Sm (Ow h (⟨Gh.B (⟨G.B, Sk, Ck, rk⟩ : Gh), S101, C101, ro101⟩ : Gh)) h101 h101 := .refl
    have hc9 := hs.ext T100
    have hs9 := hc9.sm Y101.sm (fun b hb => (hb9 b hb).1)
    have nm9 : ∀ b, vb (G.S (.inb p)) = some b -> ¬ (Gh.mut ⟨G.B, S101, C101, ro101⟩) b /\ ¬ ro101 b := fun b hb => ⟨fun hm => (Y101.mu b hm).elim (hb9 b hb).1 (fun e => by have := hc9.lt hb; omega), fun hm => (Y101.ron b hm).elim (hb9 b hb).2 (fun e => by have := hc9.lt hb; omega)⟩
    have ls9 := ls.mono (fun _ _ z => z.mono (Gx.dr ((Gx.of T100).trans Y101) Rk.op))
    refine q5 (q6 (L_i ((k : Int)) (1) (nv ((k + 1 : Nat) : Int)) rfl rfl kr kr rfl (Z4 (by omega)) (L_g 1 kr (q5 ?_))))
    exact ⟨(W.pr p).inb.length - (k + 1), by omega, k + 1, _, _, _, _, rfl, by omega, hst2, hn1, (R101.ow T101), ((X101).ow T101), hs9, nm9, ls9, kr, kr, kr, kr, kr, kr⟩
   ·
    obtain rfl := hpv
    unfold Wd.handle at hst
    dsimp only at hst
    split at hst
    rotate_right
    . cases hst
    rename_i hcr
    obtain rfl := Option.some.inj hst
    obtain ⟨i, rfl⟩ : ∃ i : Nat, f = (i : Int) := ⟨f.toNat, by omega⟩
    simp only [Int.toNat_natCast] at hst2 hcr ⊢
    refine q6 (Z8 _ rfl rfl kr kr (i9) (z9 _ rfl rfl kr (zk6 (l := [nv (i : Int), .iface Tys.c (.agg ⟨[]⟩)]) kr (fun j hj => hl9 j hj)) ?_))
    have m102 : ¬ (Gh.mut (⟨G.B, Sk, Ck, rk⟩ : Gh)) hh.next /\ ¬ (Gh.ro (⟨G.B, Sk, Ck, rk⟩ : Gh)) hh.next := ⟨(Rk.ext TK).op.new (Nat.le_refl _), (Rk.ext TK).op.newr (Nat.le_refl _)⟩
    refine Q1 [nv 0, .nilIface] .ptr rfl rfl kr fun h102 c102 t102 n102 => ?_
    have T102 := TK.ext t102
    have N102 := T102.nx
    obtain ⟨h103, e103, d103, t103, n103⟩ := c102.sA 131 [nv (i : Int), .iface Tys.c (.agg ⟨[]⟩)]
    replace c102 := d103
    have T103 := T102.tr t103
    have N103 := T103.nx
    refine Q3 _ rfl rfl rfl kr kr (e103) (q5 (Z3 1 kr (z9 _ rfl rfl kr (c102.ld (o := 1) kr rfl) (L_g 3 kr (z9 _ rfl rfl kr (c102.ld (o := 0) kr rfl) (L_c rfl rfl kr (xx4 (i := i) (Rk.ext T103) hp' (by omega) hcr.2.2.1 (Int.lt_of_lt_of_le (by decide) hcr.2.2.2)) ?_))))))
    rintro v104 h104 N104
    dsimp only at N104
    obtain ⟨S104, C104, ro104, R104, Y104⟩ := N104
    have X104 := ((Xk).trans (Gx.of T103)).trans Y104
    have m102_104 : ¬ (Gh.mut ⟨Gh.B (⟨G.B, Sk, Ck, rk⟩ : Gh), S104, C104, ro104⟩) (hh.next) /\ ¬ (Gh.ro ⟨Gh.B (⟨G.B, Sk, Ck, rk⟩ : Gh), S104, C104, ro104⟩) (hh.next) := ⟨fun hm => (Y104.mu _ hm).elim m102.1 (fun e => by have := c102.lt; omega), fun hm => (Y104.ron _ hm).elim m102.2 (fun e => by have := c102.lt; omega)⟩
    have T104 : Sm (Ow h (⟨Gh.B (⟨G.B, Sk, Ck, rk⟩ : Gh), S104, C104, ro104⟩ : Gh)) h104 h104 := .refl
    have hc9 := hs.ext T103
    have hs9 := hc9.sm Y104.sm (fun b hb => (hb9 b hb).1)
    have nm9 : ∀ b, vb (G.S (.inb p)) = some b -> ¬ (Gh.mut ⟨G.B, S104, C104, ro104⟩) b /\ ¬ ro104 b := fun b hb => ⟨fun hm => (Y104.mu b hm).elim (hb9 b hb).1 (fun e => by have := hc9.lt hb; omega), fun hm => (Y104.ron b hm).elim (hb9 b hb).2 (fun e => by have := hc9.lt hb; omega)⟩
    have ls9 := ls.mono (fun _ _ z => z.mono (Gx.dr ((Gx.of T103).trans Y104) Rk.op))
    refine q5 (q6 (L_i ((k : Int)) (1) (nv ((k + 1 : Nat) : Int)) rfl rfl kr kr rfl (Z4 (by omega)) (L_g 1 kr (q5 ?_))))
    exact ⟨(W.pr p).inb.length - (k + 1), by omega, k + 1, _, _, _, _, rfl, by omega, hst2, hn1, (R104.ow T104), ((X104).ow T104), hs9, nm9, ls9, kr, kr, kr, kr, kr, kr⟩
   ·
    obtain rfl := hpv
    refine q6 (Z8 _ rfl rfl kr kr (i9) (z9 _ rfl rfl kr (zk6 (l := [nv f, .iface Tys.l (.agg ⟨[nv q]⟩)]) kr (fun j hj => hl9 j hj)) ?_))
    have m105 : ¬ (Gh.mut (⟨G.B, Sk, Ck, rk⟩ : Gh)) hh.next /\ ¬ (Gh.ro (⟨G.B, Sk, Ck, rk⟩ : Gh)) hh.next := ⟨(Rk.ext TK).op.new (Nat.le_refl _), (Rk.ext TK).op.newr (Nat.le_refl _)⟩
    refine Q1 [nv 0, .nilIface] .ptr rfl rfl kr fun h105 c105 t105 n105 => ?_
    have T105 := TK.ext t105
    have N105 := T105.nx
    obtain ⟨h106, e106, d106, t106, n106⟩ := c105.sA 131 [nv f, .iface Tys.l (.agg ⟨[nv q]⟩)]
    replace c105 := d106
    have T106 := T105.tr t106
    have N106 := T106.nx
    refine Q3 _ rfl rfl rfl kr kr (e106) (q5 (Z3 1 kr (z9 _ rfl rfl kr (c105.ld (o := 1) kr rfl) (L_g 3 kr (z9 _ rfl rfl kr (c105.ld (o := 0) kr rfl) (L_c rfl rfl kr (Qx2 (Rk.ext T106) hp' hst) ?_))))))
    rintro v107 h107 N107
    dsimp only at N107
    obtain ⟨S107, C107, ro107, R107, Y107⟩ := N107
    have X107 := ((Xk).trans (Gx.of T106)).trans Y107
    have m105_107 : ¬ (Gh.mut ⟨Gh.B (⟨G.B, Sk, Ck, rk⟩ : Gh), S107, C107, ro107⟩) (hh.next) /\ ¬ (Gh.ro ⟨Gh.B (⟨G.B, Sk, Ck, rk⟩ : Gh), S107, C107, ro107⟩) (hh.next) := ⟨fun hm => (Y107.mu _ hm).elim m105.1 (fun e => by have := c105.lt; omega), fun hm => (Y107.ron _ hm).elim m105.2 (fun e => by have := c105.lt; omega)⟩
    have T107 : Sm (Ow h (⟨Gh.B (⟨G.B, Sk, Ck, rk⟩ : Gh), S107, C107, ro107⟩ : Gh)) h107 h107 := .refl
    have hc9 := hs.ext T106
    have hs9 := hc9.sm Y107.sm (fun b hb => (hb9 b hb).1)
    have nm9 : ∀ b, vb (G.S (.inb p)) = some b -> ¬ (Gh.mut ⟨G.B, S107, C107, ro107⟩) b /\ ¬ ro107 b := fun b hb => ⟨fun hm => (Y107.mu b hm).elim (hb9 b hb).1 (fun e => by have := hc9.lt hb; omega), fun hm => (Y107.ron b hm).elim (hb9 b hb).2 (fun e => by have := hc9.lt hb; omega)⟩
    have ls9 := ls.mono (fun _ _ z => z.mono (Gx.dr ((Gx.of T106).trans Y107) Rk.op))
    refine q5 (q6 (L_i ((k : Int)) (1) (nv ((k + 1 : Nat) : Int)) rfl rfl kr kr rfl (Z4 (by omega)) (L_g 1 kr (q5 ?_))))
    exact ⟨(W.pr p).inb.length - (k + 1), by omega, k + 1, _, _, _, _, rfl, by omega, hst2, hn1, (R107.ow T107), ((X107).ow T107), hs9, nm9, ls9, kr, kr, kr, kr, kr, kr⟩
   ·
    obtain ⟨dv, hd, rfl⟩ := hpv
    obtain ⟨da, dc, rfl⟩ := hd.1.form
    unfold Wd.handle at hst
    dsimp only at hst
    split at hst
    rotate_right
    . cases hst
    rename_i no hkx
    split at hst
    rotate_right
    . cases hst
    rename_i hcr
    obtain rfl := Option.some.inj hst
    refine q6 (Z8 _ rfl rfl kr kr (i9) (z9 _ rfl rfl kr (zk6 (l := [nv f, .iface Tys.b (.agg ⟨[nv q, .slice da (List.map bv d).length dc]⟩)]) kr (fun j hj => hl9 j hj)) ?_))
    have m108 : ¬ (Gh.mut (⟨G.B, Sk, Ck, rk⟩ : Gh)) hh.next /\ ¬ (Gh.ro (⟨G.B, Sk, Ck, rk⟩ : Gh)) hh.next := ⟨(Rk.ext TK).op.new (Nat.le_refl _), (Rk.ext TK).op.newr (Nat.le_refl _)⟩
    refine Q1 [nv 0, .nilIface] .ptr rfl rfl kr fun h108 c108 t108 n108 => ?_
    have T108 := TK.ext t108
    have N108 := T108.nx
    obtain ⟨h109, e109, d109, t109, n109⟩ := c108.sA 131 [nv f, .iface Tys.b (.agg ⟨[nv q, .slice da (List.map bv d).length dc]⟩)]
    replace c108 := d109
    have T109 := T108.tr t109
    have N109 := T109.nx
    refine Q3 _ rfl rfl rfl kr kr (e109) (q5 (Z3 1 kr (z9 _ rfl rfl kr (c108.ld (o := 1) kr rfl) (L_g 3 kr (z9 _ rfl rfl kr (c108.ld (o := 0) kr rfl) (L_c rfl rfl kr (ux3 (Rk.ext T109) hp' hkx (Dr.ext hd T109) hcr.1 hcr.2) ?_))))))
    rintro v110 h110 N110
    dsimp only at N110
    obtain ⟨S110, C110, ro110, R110, Y110⟩ := N110
    have X110 := ((Xk).trans (Gx.of T109)).trans Y110
    have m108_110 : ¬ (Gh.mut ⟨Gh.B (⟨G.B, Sk, Ck, rk⟩ : Gh), S110, C110, ro110⟩) (hh.next) /\ ¬ (Gh.ro ⟨Gh.B (⟨G.B, Sk, Ck, rk⟩ : Gh), S110, C110, ro110⟩) (hh.next) := ⟨fun hm => (Y110.mu _ hm).elim m108.1 (fun e => by have := c108.lt; omega), fun hm => (Y110.ron _ hm).elim m108.2 (fun e => by have := c108.lt; omega)⟩
    have T110 : Sm (Ow h (⟨Gh.B (⟨G.B, Sk, Ck, rk⟩ : Gh), S110, C110, ro110⟩ : Gh)) h110 h110 := .refl
    have hc9 := hs.ext T109
    have hs9 := hc9.sm Y110.sm (fun b hb => (hb9 b hb).1)
    have nm9 : ∀ b, vb (G.S (.inb p)) = some b -> ¬ (Gh.mut ⟨G.B, S110, C110, ro110⟩) b /\ ¬ ro110 b := fun b hb => ⟨fun hm => (Y110.mu b hm).elim (hb9 b hb).1 (fun e => by have := hc9.lt hb; omega), fun hm => (Y110.ron b hm).elim (hb9 b hb).2 (fun e => by have := hc9.lt hb; omega)⟩
    have ls9 := ls.mono (fun _ _ z => z.mono (Gx.dr ((Gx.of T109).trans Y110) Rk.op))
    refine q5 (q6 (L_i ((k : Int)) (1) (nv ((k + 1 : Nat) : Int)) rfl rfl kr kr rfl (Z4 (by omega)) (L_g 1 kr (q5 ?_))))
    exact ⟨(W.pr p).inb.length - (k + 1), by omega, k + 1, _, _, _, _, rfl, by omega, hst2, hn1, (R110.ow T110), ((X110).ow T110), hs9, nm9, ls9, kr, kr, kr, kr, kr, kr⟩
   ·
    obtain ⟨dv, hd, ⟨ad, nd, cd, rfl⟩, rfl⟩ := hpv
    refine q6 (Z8 _ rfl rfl kr kr (i9) (z9 _ rfl rfl kr (zk6 (l := [nv f, .iface Tys.p (.agg ⟨[nv q, nv i, .slice (some ad) nd cd]⟩)]) kr (fun j hj => hl9 j hj)) ?_))
    have m111 : ¬ (Gh.mut (⟨G.B, Sk, Ck, rk⟩ : Gh)) hh.next /\ ¬ (Gh.ro (⟨G.B, Sk, Ck, rk⟩ : Gh)) hh.next := ⟨(Rk.ext TK).op.new (Nat.le_refl _), (Rk.ext TK).op.newr (Nat.le_refl _)⟩
    refine Q1 [nv 0, .nilIface] .ptr rfl rfl kr fun h111 c111 t111 n111 => ?_
    have T111 := TK.ext t111
    have N111 := T111.nx
    obtain ⟨h112, e112, d112, t112, n112⟩ := c111.sA 131 [nv f, .iface Tys.p (.agg ⟨[nv q, nv i, .slice (some ad) nd cd]⟩)]
    replace c111 := d112
    have T112 := T111.tr t112
    have N112 := T112.nx
    refine Q3 _ rfl rfl rfl kr kr (e112) (q5 (Z3 1 kr (z9 _ rfl rfl kr (c111.ld (o := 1) kr rfl) (L_g 3 kr (z9 _ rfl rfl kr (c111.ld (o := 0) kr rfl) (L_c rfl rfl kr (ux2 (Rk.ext T112) hp' (Dr.ext hd T112) hst) ?_))))))
    rintro v113 h113 N113
    dsimp only at N113
    obtain ⟨S113, C113, ro113, R113, Y113⟩ := N113
    have X113 := ((Xk).trans (Gx.of T112)).trans Y113
    have m111_113 : ¬ (Gh.mut ⟨Gh.B (⟨G.B, Sk, Ck, rk⟩ : Gh), S113, C113, ro113⟩) (hh.next) /\ ¬ (Gh.ro ⟨Gh.B (⟨G.B, Sk, Ck, rk⟩ : Gh), S113, C113, ro113⟩) (hh.next) := ⟨fun hm => (Y113.mu _ hm).elim m111.1 (fun e => by have := c111.lt; omega), fun hm => (Y113.ron _ hm).elim m111.2 (fun e => by have := c111.lt; omega)⟩
    have T113 : Sm (Ow h (⟨Gh.B (⟨G.B, Sk, Ck, rk⟩ : Gh), S113, C113, ro113⟩ : Gh)) h113 h113 := .refl
    have hc9 := hs.ext T112
    have hs9 := hc9.sm Y113.sm (fun b hb => (hb9 b hb).1)
    have nm9 : ∀ b, vb (G.S (.inb p)) = some b -> ¬ (Gh.mut ⟨G.B, S113, C113, ro113⟩) b /\ ¬ ro113 b := fun b hb => ⟨fun hm => (Y113.mu b hm).elim (hb9 b hb).1 (fun e => by have := hc9.lt hb; omega), fun hm => (Y113.ron b hm).elim (hb9 b hb).2 (fun e => by have := hc9.lt hb; omega)⟩
    have ls9 := ls.mono (fun _ _ z => z.mono (Gx.dr ((Gx.of T112).trans Y113) Rk.op))
    refine q5 (q6 (L_i ((k : Int)) (1) (nv ((k + 1 : Nat) : Int)) rfl rfl kr kr rfl (Z4 (by omega)) (L_g 1 kr (q5 ?_))))
    exact ⟨(W.pr p).inb.length - (k + 1), by omega, k + 1, _, _, _, _, rfl, by omega, hst2, hn1, (R113.ow T113), ((X113).ow T113), hs9, nm9, ls9, kr, kr, kr, kr, kr, kr⟩
 ·
   have hge : k = (W.pr p).inb.length := by simp at hb; omega
   subst hge
   rw [List.drop_length] at hst
   obtain rfl := Option.some.inj hst
   refine J8 ?_
   refine rx ?_
   refine Q7 (z1 1 kr (V4 _ rfl rfl kr (hs.len (T := 69) (el := 131) kr) (L_g 1 kr (q5 (j7 ?_)))))
   refine rr ?_
   refine z0 (v := nv ((W.pr p).inb.length : Int)) (.inl rfl) kr ?_
   exact ⟨rfl, _, _, _, (Rk.ext TK), ((Xk).trans (Gx.of TK))⟩
end
end Go.Proofs.YtjealfplbigphaaGreat
namespace Go.Proofs.YtjealfplbigphaaGreat
noncomputable section
open Go Go.X Go.Arm Go.Mt
theorem uy1 {f : Nat -> Value} {l : List Nat} {k : Nat} (h : k ∉ l) : kset (l.map fun (x : Nat) => ((x : Int), f x)) (k : Int) (f k) = (l ++ [k]).map fun (x : Nat) => ((x : Int), f x) := by
 induction l with
 | nil => rfl
 | cons x l ih =>
  simp only [List.map_cons, List.cons_append]
  unfold kset
  rw [if_neg (show ¬ ((x : Int) = (k : Int)) by intro e; exact h (by rw [Int.ofNat.inj e]; simp)), ih (fun h2 => h (List.mem_cons_of_mem _ h2))]
def NxtN (W' : Wd) (G : Gh) (h : AH) (p no : Nat) (r : Value × AH) : Prop := ∃ b S C ro, Rep W' ⟨ups G.B (.rq p no) b, S, C, ro⟩ r.2 /\ Gx G h ⟨ups G.B (.rq p no) b, S, C, ro⟩ r.2 /\ C (.rq p no) ≠ .no /\ r.1 = ptr b
theorem add_ok {W : Wd} {G : Gh} {h : AH} {p : Nat} {r : Rq} {W' : Wd} (R : Rep W G h) (hp : p < W.n) (hrd : r.data = []) (hrp : r.pcs = []) (hrs : r.sent = []) (he : W.add p r = some W') :
   Arm.Calls Tryz.prog 51 [ptr (G.B .wd), nv (p : Int), .agg ⟨(rqX r (.slice none 0 0) (.slice none 0 0) (.slice none 0 0))⟩] h (NxtN W' G h p (W.pr p).next) := by
 unfold Wd.add at he
 split at he
 rotate_right
 . cases he
 rename_i hc
 obtain ⟨hnx, hnot⟩ := hc
 have hnx : (W.pr p).next < 1000000000 := hnx
 obtain rfl := Option.some.inj he
 have hpl := R.prLt hp
 refine j9 33 Tryz.f51 ?_
 have T0 : Sm Nix h h := .refl
 refine q7 (q6 ?_)
 have m114 : ¬ (Gh.mut G) h.next /\ ¬ (Gh.ro G) h.next := ⟨(R.ext T0).op.new (Nat.le_refl _), (R.ext T0).op.newr (Nat.le_refl _)⟩
 refine Q1 (rqX r (.slice none 0 0) (.slice none 0 0) (.slice none 0 0)) .ptr rfl rfl kr fun h114 c114 t114 n114 => ?_
 have T114 := T0.ext t114
 have N114 := T114.nx
 refine L_g 1 kr (q5 (z1 3 kr (z9 _ rfl rfl kr ((R.ext T114).wdL.ld (o := 1) kr rfl) (L_g 1 kr ?_))))
 obtain ⟨b1, o1, i1, l1⟩ := (R.ext T114).prsAt (P := Tryz.prog) (T := 61) (el := 64) kr kr kr hp
 refine Z8 _ rfl rfl kr kr (i1) (z9 _ rfl rfl kr (l1) (L_g 1 kr (q5 (z1 3 kr (z9 _ rfl rfl kr (((R.ext T114).prL hp).ld (o := 0) kr rfl) (L_g 1 kr ?_))))))
 obtain ⟨h115, e115, d115, t115, n115⟩ := c114.s1 3 0 (nk (W.pr p).next)
 replace d115 : Cl h115 (h.next) [nk (W.pr p).next, nv r.peer, nv r.ctx, nv r.tag, nv r.room, .bool r.send, .bool r.sync, .bool r.pers, .bool r.act, .bool r.done, nk r.parts, nk r.size, .slice none 0 0, .slice none 0 0, nk r.gone, .slice none 0 0, .bool r.clr, nv r.st.src, nv r.st.tag, nv r.st.size, nv r.st.err] := d115
 replace c114 := d115
 have T115 := T114.tr t115
 have N115 := T115.nx
 refine Q3 _ rfl rfl rfl kr kr (e115) (q5 (z1 3 kr (z9 _ rfl rfl kr (((R.ext T115).prL hp).ld (o := 0) kr rfl) (L_i (((W.pr p).next : Int)) (1) (nk ((W.pr p).next + 1)) rfl rfl kr kr rfl (Z4 hnx) (L_g 2 kr ?_)))))
 obtain ⟨h116, e116, d116, t116, n116⟩ := ((R.ext T115).prL hp).store (P := Tryz.prog) (T := 3) (o := 0) (v := nk ((W.pr p).next + 1)) kr rfl rfl (by simp [prC])
 obtain ⟨S0, C0, ro0, ⟨R0, Y0⟩, f0⟩ := (R.ext T115).setNextF hp ((W.pr p).next + 1) (Nat.le_succ _) d116 t116 (R.fresh hp)
 have X0 := ((Gx.refl).trans (Gx.of T115)).trans Y0
 have l5 := c114.lt
 have m9 : ¬ (Gh.mut ⟨G.B, S0, C0, ro0⟩) (h.next) /\ ¬ ro0 (h.next) := ⟨fun hm => (Y0.mu _ hm).elim m114.1 (fun e => by omega), fun hm => (Y0.ron _ hm).elim m114.2 (fun e => by omega)⟩
 refine Q3 _ rfl rfl rfl kr kr (e116) ?_
 replace c114 := c114.sn t116
 have T116 : Sm Nix h116 h116 := .refl
 refine q5 (q7 (u4 kr (D_e (e := 6) (l := [0,1,2,3,4,5]) (s' := []) kr kr rfl kr z4 (z2 3 kr (q9 _ rfl rfl kr kr kr (((R0.ext T116).prL hp).ld (o := 1) kr rfl) (z2 1 kr (q9 _ rfl rfl kr kr kr (c114.ld (o := 0) kr rfl) (z5 ?_))))))))
 have hn9 : (W.pr p).next < ((W.setPr p { W.pr p with next := (W.pr p).next + 1 }).pr p).next := by rw [Wd.setPr_at]; exact Nat.lt_succ_self _
 obtain ⟨C9, R9, X9, hr9⟩ := (R0.ext T116).adopt ((X0).trans (Gx.of T116)) (W := (W.setPr p { W.pr p with next := (W.pr p).next + 1 })) hp hn9 f0 (r := { r with no := (W.pr p).next }) (dv := nilS) ⟨by omega, m9⟩ (by show Dr _ _ _ r.data; rw [hrd]; exact ⟨Rb.nil, fun b hb => by cases hb⟩) hrp hrs c114
 have hE := R9.rqs (p := p) hp
 obtain ⟨h117, e117, mp117, t117, n117⟩ := hE.1.update (P := Tryz.prog) (T := 65) (el := 100) kr kNum ((W.pr p).next : Int) (v := ptr (h.next)) (y := ptr (h.next)) rfl
 have hB9 : ups G.B (.rq p (W.pr p).next) (h.next) (.rq p (W.pr p).next) = h.next := j0 _ _ _
 have e9 := uy1 (f := fun k => ptr (ups G.B (.rq p (W.pr p).next) (h.next) (.rq p k))) hnot
 rw [hB9] at e9
 have hq9 : ((W.setPr p { W.pr p with next := (W.pr p).next + 1 }).pr p).reqs = (W.pr p).reqs := by rw [Wd.setPr_at]
 have mp9117 : Mp h117 (G.B (.rqs p)) nv Eq (((W.pr p).reqs ++ [(W.pr p).next]).map fun (k : Nat) => ((k : Int), ptr (ups G.B (.rq p (W.pr p).next) (h.next) (.rq p k)))) := e9 ▸ (by have := mp117; rw [show (((W.setPr p { W.pr p with next := (W.pr p).next + 1 }).setRq p (W.pr p).next { r with no := (W.pr p).next }).pr p).reqs = (W.pr p).reqs from hq9] at this; exact this)
 obtain ⟨S8, C8, ro8, R8, Y8⟩ := R9.setRqs (p := p) hp (l := (W.pr p).reqs ++ [(W.pr p).next]) (fun k hk => by
   rcases List.mem_append.1 hk with hk | hk
   . exact (R9.rel.pr p hp).rqp k (by rw [show (((W.setPr p { W.pr p with next := (W.pr p).next + 1 }).setRq p (W.pr p).next { r with no := (W.pr p).next }).pr p).reqs = (W.pr p).reqs from hq9]; exact hk)
   . cases List.mem_singleton.1 hk; exact hr9) mp9117 (hE.2.update e117) t117
 have X8 := X9.trans Y8
 refine L_mu _ rfl rfl rfl kr kr kr e117 ?_
 replace c114 := c114
 have T117 : Sm Nix h117 h117 := .refl
 refine q5 ⟨rfl, ?_⟩
 refine D_l (l := []) kr kr z4 (z5 (z1 1 kr (q5 (j7 ?_))))
 refine rr ?_
 refine z0 (v := ptr (h.next)) (.inl rfl) kr ?_
 have hw9 : (((W.setPr p { W.pr p with next := (W.pr p).next + 1 }).setRq p (W.pr p).next { r with no := (W.pr p).next }).setPr p { ((W.setPr p { W.pr p with next := (W.pr p).next + 1 }).setRq p (W.pr p).next { r with no := (W.pr p).next }).pr p with reqs := (W.pr p).reqs ++ [(W.pr p).next] }) = (((W.setPr p { W.pr p with next := (W.pr p).next + 1 }).setRq p (W.pr p).next { r with no := (W.pr p).next }).setPr p { W.pr p with next := (W.pr p).next + 1, reqs := (W.pr p).reqs ++ [(W.pr p).next] }) := by
   rw [show ((W.setPr p { W.pr p with next := (W.pr p).next + 1 }).setRq p (W.pr p).next { r with no := (W.pr p).next }).pr p = { W.pr p with next := (W.pr p).next + 1 } from Wd.setPr_at _ _ _]
 rw [hw9] at R8
 exact ⟨h.next, S8, C8, ro8, R8, X8, (Y8.keep (.rq p (W.pr p).next) hr9).1, rfl⟩
end
end Go.Proofs.YtjealfplbigphaaGreat
namespace Go.Proofs.YtjealfplbigphaaGreat
noncomputable section
open Go Go.X Go.Arm Go.Mt
abbrev A17x1 (W : Wd) (e : En) (i : Nat) (no : Nat) (p : Nat) : Wd := (W.setPr p { W.pr p with crds := (W.pr p).crds.set i (((W.pr p).crds.getD i 0) - 1) }).setWay p (W.rq p no).peer ((W.setPr p { W.pr p with crds := (W.pr p).crds.set i (((W.pr p).crds.getD i 0) - 1) }).way p (W.rq p no).peer ++ [Pk.eager e (W.rq p no).data])
theorem Qj5 {x : Int} (h0 : 0 < x) (h1 : x < (big : Nat)) : Value.int .i64 (IntKind.i64.wrap (x - 1)) = nv (x - 1) := by
 have h1 : x < 1000000000 := h1
 have : IntKind.i64.wrap (x - 1) = x - 1 := by rw [IntKind.wrap_i64]; omega
 rw [this]; rfl
theorem _root_.Go.Arm.Dr.ext3 {h0 h h' : AH} {G : Gh} {v : Value} {d : By} (H : Dr h G.ro v d) (s : Sm (Ow h0 G) h h') : Dr h' G.ro v d := ⟨H.1.sm s (fun b hb hx => hx.2.2 (H.2 b hb)), H.2⟩
set_option maxHeartbeats 2000000 in
theorem Qq0 {W : Wd} {G : Gh} {h : AH} {p no : Nat} {e : En} {W' : Wd} (R : Rep W G h) (hp : p < W.n) (hr : G.C (.rq p no) ≠ .no) (he : W.send p no e = some W') :
   Arm.Calls Tryz.prog 79 [ptr (G.B .wd), nv (p : Int), ptr (G.B (.rq p no)), .agg ⟨[nv e.src, nv e.ctx, nv e.tag, nv e.size, nv e.parts]⟩] h (fun r => Nxt W' G h r.2) := by
 obtain ⟨dv0, hd0, c0⟩ := R.rqL hp hr
 replace c0 : Arm.Cl h (G.B (.rq p no)) (rqX (W.rq p no) dv0 (G.S (.pcs p no)) (G.S (.snt p no))) := c0
 rcases Wd.send_split he with hc | hc | hc | hc | hc | hc
 . obtain ⟨h1, rfl⟩ := hc
   refine j9 102 Tryz.f79 ?_
   have T0 : Sm Nix h h := .refl
   refine q7 (q6 ?_)
   have m118 : ¬ (Gh.mut G) h.next /\ ¬ (Gh.ro G) h.next := ⟨(R.ext T0).op.new (Nat.le_refl _), (R.ext T0).op.newr (Nat.le_refl _)⟩
   refine Q1 [nv e.src, nv e.ctx, nv e.tag, nv e.size, nv e.parts] .ptr rfl rfl kr fun h118 c118 t118 n118 => ?_
   have T118 := T0.ext t118
   have N118 := T118.nx
   refine q5 (z1 3 kr (z9 _ rfl rfl kr ((R.ext T118).wdL.ld (o := 1) kr rfl) (L_g 1 kr ?_)))
   obtain ⟨b1, o1, i1, l1⟩ := (R.ext T118).prsAt (P := Tryz.prog) (T := 61) (el := 64) kr kr kr hp
   refine Z8 _ rfl rfl kr kr (i1) (z9 _ rfl rfl kr (l1) (L_g 1 kr (q5 (u3 (z1 3 kr (z9 _ rfl rfl kr ((c0.ext T118).ld (o := 1) kr rfl) (L_i ((W.rq p no).peer) (-2) (.bool true) rfl rfl kr kr rfl (by simp; omega) (L_g 1 kr (q5 ?_)))))))))
   refine U7 kr (q6 (L_g 3 kr ?_))
   obtain ⟨dv9, hd9, c9⟩ := (R.ext T118).rqL hp hr
   replace c9 : Cl h118 (Gh.B G (.rq p no)) (rqX (W.rq p no) dv9 (G.S (.pcs p no)) (G.S (.snt p no))) := c9
   obtain ⟨h119, e119, d119, t119, n119⟩ := c9.s1 4 9 (.bool true)
   have N119 : Nxt (W.setRq p no { (W.rq p no) with done := true }) G h118 h119 := (R.ext T118).stRq hp hr (r := { (W.rq p no) with done := true }) hd9 d119 t119 rfl rfl rfl
   clear hd9
   refine Q3 _ rfl rfl rfl kr kr (e119) ?_
   obtain ⟨S119, C119, ro119, R119, Y119⟩ := N119
   have X119 := ((Gx.refl).trans (Gx.of T118)).trans Y119
   have hr_119 := (Y119.keep _ hr).1
   have m118_119 : ¬ (Gh.mut ⟨Gh.B G, S119, C119, ro119⟩) (h.next) /\ ¬ (Gh.ro ⟨Gh.B G, S119, C119, ro119⟩) (h.next) := ⟨fun hm => (Y119.mu _ hm).elim m118.1 (fun e => by have := c118.lt; omega), fun hm => (Y119.ron _ hm).elim m118.2 (fun e => by have := c118.lt; omega)⟩
   have T119 : Sm (Ow h (⟨Gh.B G, S119, C119, ro119⟩ : Gh)) h119 h119 := .refl
   refine q5 ?_
   repeat with_reducible refine Q9 ?_
   refine z0 (v := .tuple ⟨[]⟩) (.inr rfl) kr ?_
   exact ⟨_, _, _, (R119.ow T119), ((X119).ow T119)⟩
 . obtain ⟨h1, hs, hput⟩ := hc
   unfold Wd.put at hput
   split at hput
   rotate_right
   . cases hput
   rename_i hlw
   obtain rfl := Option.some.inj hput
   refine j9 102 Tryz.f79 ?_
   have T0 : Sm Nix h h := .refl
   refine q7 (q6 ?_)
   have m120 : ¬ (Gh.mut G) h.next /\ ¬ (Gh.ro G) h.next := ⟨(R.ext T0).op.new (Nat.le_refl _), (R.ext T0).op.newr (Nat.le_refl _)⟩
   refine Q1 [nv e.src, nv e.ctx, nv e.tag, nv e.size, nv e.parts] .ptr rfl rfl kr fun h120 c120 t120 n120 => ?_
   have T120 := T0.ext t120
   have N120 := T120.nx
   refine q5 (z1 3 kr (z9 _ rfl rfl kr ((R.ext T120).wdL.ld (o := 1) kr rfl) (L_g 1 kr ?_)))
   obtain ⟨b1, o1, i1, l1⟩ := (R.ext T120).prsAt (P := Tryz.prog) (T := 61) (el := 64) kr kr kr hp
   refine Z8 _ rfl rfl kr kr (i1) (z9 _ rfl rfl kr (l1) (L_g 1 kr (q5 (u3 (z1 3 kr (z9 _ rfl rfl kr ((c0.ext T120).ld (o := 1) kr rfl) (L_i ((W.rq p no).peer) (-2) (.bool false) rfl rfl kr kr rfl (by simp; omega) (L_g 1 kr (q5 ?_)))))))))
   refine Q2 kr (q7 (u4 kr (D_l (l := [0,1,2,3,4,5,6,7,8,9,10,11,12,13,14,15,16,17,18,19,20,21,22,23,24,25,26,27,28,29,30,31,32,33]) kr kr z4 (z2 3 kr (q9 _ rfl rfl kr kr kr (((c0.ext T120).ld (o := 6) kr (by rw [<- hs]; rfl) : aLoad Tryz.prog 4 ⟨G.B (.rq p no), 6, none⟩ h120 = some (.bool true))) (z2 30 kr (z5 (U7 kr (u4 kr (D_e (e := 13) (l := [0,1,2,3,4,5,6,7,8,9,10,11,12]) (s' := []) kr kr rfl kr z4 (z2 5 kr ?_)))))))))))
   refine q9 _ rfl rfl kr kr kr ((c0.ext T120).ld (o := 1) kr rfl) (q9 _ rfl rfl kr kr kr (Cl.allN (n := 5) c120 rfl kr) (z2 3 kr (q9 _ rfl rfl kr kr kr ((c0.ext T120).ld (o := 0) kr rfl) (z2 2 kr (z5 (L_c rfl rfl kr (E8 (R.ext T120) (x := .ask e (W.rq p no).no) rfl hlw) ?_))))))
   rintro v121 h121 N121
   dsimp only at N121
   obtain ⟨S121, C121, ro121, R121, Y121⟩ := N121
   have X121 := ((Gx.refl).trans (Gx.of T120)).trans Y121
   have hr_121 := (Y121.keep _ hr).1
   have m120_121 : ¬ (Gh.mut ⟨Gh.B G, S121, C121, ro121⟩) (h.next) /\ ¬ (Gh.ro ⟨Gh.B G, S121, C121, ro121⟩) (h.next) := ⟨fun hm => (Y121.mu _ hm).elim m120.1 (fun e => by have := c120.lt; omega), fun hm => (Y121.ron _ hm).elim m120.2 (fun e => by have := c120.lt; omega)⟩
   have T121 : Sm (Ow h (⟨Gh.B G, S121, C121, ro121⟩ : Gh)) h121 h121 := .refl
   refine q5 ⟨rfl, ?_⟩
   refine D_l (l := []) kr kr z4 (z5 ?_)
   repeat with_reducible refine Q9 ?_
   refine z0 (v := .tuple ⟨[]⟩) (.inr rfl) kr ?_
   exact ⟨_, _, _, (R121.ow T121), ((X121).ow T121)⟩
 . obtain ⟨h1, hs, hpp, hput⟩ := hc
   unfold Wd.put at hput
   split at hput
   rotate_right
   . cases hput
   rename_i hlw
   obtain rfl := Option.some.inj hput
   refine j9 102 Tryz.f79 ?_
   have T0 : Sm Nix h h := .refl
   refine q7 (q6 ?_)
   have m122 : ¬ (Gh.mut G) h.next /\ ¬ (Gh.ro G) h.next := ⟨(R.ext T0).op.new (Nat.le_refl _), (R.ext T0).op.newr (Nat.le_refl _)⟩
   refine Q1 [nv e.src, nv e.ctx, nv e.tag, nv e.size, nv e.parts] .ptr rfl rfl kr fun h122 c122 t122 n122 => ?_
   have T122 := T0.ext t122
   have N122 := T122.nx
   refine q5 (z1 3 kr (z9 _ rfl rfl kr ((R.ext T122).wdL.ld (o := 1) kr rfl) (L_g 1 kr ?_)))
   obtain ⟨b1, o1, i1, l1⟩ := (R.ext T122).prsAt (P := Tryz.prog) (T := 61) (el := 64) kr kr kr hp
   refine Z8 _ rfl rfl kr kr (i1) (z9 _ rfl rfl kr (l1) (L_g 1 kr (q5 (u3 (z1 3 kr (z9 _ rfl rfl kr ((c0.ext T122).ld (o := 1) kr rfl) (L_i ((W.rq p no).peer) (-2) (.bool false) rfl rfl kr kr rfl (by simp; omega) (L_g 1 kr (q5 ?_)))))))))
   refine Q2 kr (q7 (u4 kr (D_l (l := [0,1,2,3,4,5,6,7,8,9,10,11,12,13,14,15,16,17,18,19,20,21,22,23,24,25,26,27,28,29,30,31,32,33]) kr kr z4 (z2 3 kr (q9 _ rfl rfl kr kr kr (((c0.ext T122).ld (o := 6) kr (by rw [<- hs]; rfl) : aLoad Tryz.prog 4 ⟨G.B (.rq p no), 6, none⟩ h122 = some (.bool false))) (z2 4 kr (q9 _ rfl rfl kr kr kr ((c0.ext T122).ld (o := 10) kr rfl) (J3 (((W.rq p no).parts : Int)) (0) (.bool true) rfl rfl kr kr kr kr rfl (by simp; omega) (z2 24 kr (z5 (U7 kr ?_)))))))))))
   refine u4 kr (D_e (e := 13) (l := [0,1,2,3,4,5,6,7,8,9,10,11,12]) (s' := []) kr kr rfl kr z4 (z2 5 kr (q9 _ rfl rfl kr kr kr ((c0.ext T122).ld (o := 1) kr rfl) (q9 _ rfl rfl kr kr kr (Cl.allN (n := 5) c122 rfl kr) (z2 3 kr (q9 _ rfl rfl kr kr kr ((c0.ext T122).ld (o := 0) kr rfl) (z2 2 kr (z5 (L_c rfl rfl kr (E8 (R.ext T122) (x := .ask e (W.rq p no).no) rfl hlw) ?_)))))))))
   rintro v123 h123 N123
   dsimp only at N123
   obtain ⟨S123, C123, ro123, R123, Y123⟩ := N123
   have X123 := ((Gx.refl).trans (Gx.of T122)).trans Y123
   have hr_123 := (Y123.keep _ hr).1
   have m122_123 : ¬ (Gh.mut ⟨Gh.B G, S123, C123, ro123⟩) (h.next) /\ ¬ (Gh.ro ⟨Gh.B G, S123, C123, ro123⟩) (h.next) := ⟨fun hm => (Y123.mu _ hm).elim m122.1 (fun e => by have := c122.lt; omega), fun hm => (Y123.ron _ hm).elim m122.2 (fun e => by have := c122.lt; omega)⟩
   have T123 : Sm (Ow h (⟨Gh.B G, S123, C123, ro123⟩ : Gh)) h123 h123 := .refl
   refine q5 ⟨rfl, ?_⟩
   refine D_l (l := []) kr kr z4 (z5 ?_)
   repeat with_reducible refine Q9 ?_
   refine z0 (v := .tuple ⟨[]⟩) (.inr rfl) kr ?_
   exact ⟨_, _, _, (R123.ow T123), ((X123).ow T123)⟩
 . obtain ⟨h1, hs, hpp, hll, hput⟩ := hc
   unfold Wd.put at hput
   split at hput
   rotate_right
   . cases hput
   rename_i hlw
   obtain rfl := Option.some.inj hput
   refine j9 102 Tryz.f79 ?_
   have T0 : Sm Nix h h := .refl
   refine q7 (q6 ?_)
   have m124 : ¬ (Gh.mut G) h.next /\ ¬ (Gh.ro G) h.next := ⟨(R.ext T0).op.new (Nat.le_refl _), (R.ext T0).op.newr (Nat.le_refl _)⟩
   refine Q1 [nv e.src, nv e.ctx, nv e.tag, nv e.size, nv e.parts] .ptr rfl rfl kr fun h124 c124 t124 n124 => ?_
   have T124 := T0.ext t124
   have N124 := T124.nx
   refine q5 (z1 3 kr (z9 _ rfl rfl kr ((R.ext T124).wdL.ld (o := 1) kr rfl) (L_g 1 kr ?_)))
   obtain ⟨b1, o1, i1, l1⟩ := (R.ext T124).prsAt (P := Tryz.prog) (T := 61) (el := 64) kr kr kr hp
   refine Z8 _ rfl rfl kr kr (i1) (z9 _ rfl rfl kr (l1) (L_g 1 kr (q5 (u3 (z1 3 kr (z9 _ rfl rfl kr ((c0.ext T124).ld (o := 1) kr rfl) (L_i ((W.rq p no).peer) (-2) (.bool false) rfl rfl kr kr rfl (by simp; omega) (L_g 1 kr (q5 ?_)))))))))
   refine Q2 kr (q7 (u4 kr (D_l (l := [0,1,2,3,4,5,6,7,8,9,10,11,12,13,14,15,16,17,18,19,20,21,22,23,24,25,26,27,28,29,30,31,32,33]) kr kr z4 (z2 3 kr (q9 _ rfl rfl kr kr kr (((c0.ext T124).ld (o := 6) kr (by rw [<- hs]; rfl) : aLoad Tryz.prog 4 ⟨G.B (.rq p no), 6, none⟩ h124 = some (.bool false))) (z2 4 kr (q9 _ rfl rfl kr kr kr ((c0.ext T124).ld (o := 10) kr rfl) (J3 (((W.rq p no).parts : Int)) (0) (.bool false) rfl rfl kr kr kr kr rfl (by simp; omega) (z2 3 kr (q9 _ rfl rfl kr kr kr (c124.ld (o := 3) kr rfl) (z2 3 kr ?_)))))))))))
   refine q9 _ rfl rfl kr kr kr ((R.ext T124).wdL.ld (o := 0) kr rfl) (J3 (e.size) (W.lim) (.bool true) rfl rfl kr kr kr kr rfl (by simp; omega) (z2 15 kr (z5 (U7 kr (u4 kr (D_e (e := 13) (l := [0,1,2,3,4,5,6,7,8,9,10,11,12]) (s' := []) kr kr rfl kr z4 (z2 5 kr (q9 _ rfl rfl kr kr kr ((c0.ext T124).ld (o := 1) kr rfl) (q9 _ rfl rfl kr kr kr (Cl.allN (n := 5) c124 rfl kr) (z2 3 kr (q9 _ rfl rfl kr kr kr ((c0.ext T124).ld (o := 0) kr rfl) ?_)))))))))))
   refine z2 2 kr (z5 (L_c rfl rfl kr (E8 (R.ext T124) (x := .ask e (W.rq p no).no) rfl hlw) ?_))
   rintro v125 h125 N125
   dsimp only at N125
   obtain ⟨S125, C125, ro125, R125, Y125⟩ := N125
   have X125 := ((Gx.refl).trans (Gx.of T124)).trans Y125
   have hr_125 := (Y125.keep _ hr).1
   have m124_125 : ¬ (Gh.mut ⟨Gh.B G, S125, C125, ro125⟩) (h.next) /\ ¬ (Gh.ro ⟨Gh.B G, S125, C125, ro125⟩) (h.next) := ⟨fun hm => (Y125.mu _ hm).elim m124.1 (fun e => by have := c124.lt; omega), fun hm => (Y125.ron _ hm).elim m124.2 (fun e => by have := c124.lt; omega)⟩
   have T125 : Sm (Ow h (⟨Gh.B G, S125, C125, ro125⟩ : Gh)) h125 h125 := .refl
   refine q5 ⟨rfl, ?_⟩
   refine D_l (l := []) kr kr z4 (z5 ?_)
   repeat with_reducible refine Q9 ?_
   refine z0 (v := .tuple ⟨[]⟩) (.inr rfl) kr ?_
   exact ⟨_, _, _, (R125.ow T125), ((X125).ow T125)⟩
 . obtain ⟨i, hpi, hi, hs, hpp, hll, hz, hput⟩ := hc
   unfold Wd.put at hput
   split at hput
   rotate_right
   . cases hput
   rename_i hlw
   obtain rfl := Option.some.inj hput
   refine j9 102 Tryz.f79 ?_
   have T0 : Sm Nix h h := .refl
   refine q7 (q6 ?_)
   have m126 : ¬ (Gh.mut G) h.next /\ ¬ (Gh.ro G) h.next := ⟨(R.ext T0).op.new (Nat.le_refl _), (R.ext T0).op.newr (Nat.le_refl _)⟩
   refine Q1 [nv e.src, nv e.ctx, nv e.tag, nv e.size, nv e.parts] .ptr rfl rfl kr fun h126 c126 t126 n126 => ?_
   have T126 := T0.ext t126
   have N126 := T126.nx
   refine q5 (z1 3 kr (z9 _ rfl rfl kr ((R.ext T126).wdL.ld (o := 1) kr rfl) (L_g 1 kr ?_)))
   obtain ⟨b1, o1, i1, l1⟩ := (R.ext T126).prsAt (P := Tryz.prog) (T := 61) (el := 64) kr kr kr hp
   refine Z8 _ rfl rfl kr kr (i1) (z9 _ rfl rfl kr (l1) (L_g 1 kr (q5 (u3 (z1 3 kr (z9 _ rfl rfl kr ((c0.ext T126).ld (o := 1) kr rfl) (L_i ((W.rq p no).peer) (-2) (.bool false) rfl rfl kr kr rfl (by simp; omega) (L_g 1 kr (q5 ?_)))))))))
   refine Q2 kr (q7 (u4 kr (D_l (l := [0,1,2,3,4,5,6,7,8,9,10,11,12,13,14,15,16,17,18,19,20,21,22,23,24,25,26,27,28,29,30,31,32,33]) kr kr z4 (z2 3 kr (q9 _ rfl rfl kr kr kr (((c0.ext T126).ld (o := 6) kr (by rw [<- hs]; rfl) : aLoad Tryz.prog 4 ⟨G.B (.rq p no), 6, none⟩ h126 = some (.bool false))) (z2 4 kr (q9 _ rfl rfl kr kr kr ((c0.ext T126).ld (o := 10) kr rfl) (J3 (((W.rq p no).parts : Int)) (0) (.bool false) rfl rfl kr kr kr kr rfl (by simp; omega) (z2 3 kr (q9 _ rfl rfl kr kr kr (c126.ld (o := 3) kr rfl) (z2 3 kr ?_)))))))))))
   refine q9 _ rfl rfl kr kr kr ((R.ext T126).wdL.ld (o := 0) kr rfl) (J3 (e.size) (W.lim) (.bool false) rfl rfl kr kr kr kr rfl (by simp; omega) (z2 5 kr (q9 _ rfl rfl kr kr kr (((R.ext T126).prL hp).ld (o := 6) kr rfl) (z2 3 kr (q9 _ rfl rfl kr kr kr (((c0.ext T126).ld (o := 1) kr (by rw [<- hpi]; rfl) : aLoad Tryz.prog 3 ⟨G.B (.rq p no), 1, none⟩ h126 = some (nv (i : Int)))) ?_)))))
   have hci : ((W.pr p).crds.map nv)[i]? = some (nv ((W.pr p).crds.getD i 0)) := by rw [List.getElem?_map, List.getElem?_eq_getElem hi, List.getD_eq_getElem?_getD, List.getElem?_eq_getElem hi]; rfl
   obtain ⟨pa, xa, i1, i2, i3, i4, i5⟩ := ((R.ext T126).crd hp).elem (P := Tryz.prog) (T := 67) (el := 3) kr kr kr hi .i64
   obtain rfl : xa = nv ((W.pr p).crds.getD i 0) := Option.some.inj (i2.symm.trans hci)
   refine U0 _ rfl rfl kr kr kr kr (i1) (q9 _ rfl rfl kr kr kr (i3) ?_)
   refine J3 (((W.pr p).crds.getD i 0)) (0) (.bool true) rfl rfl kr kr kr kr rfl (by simp [-List.getD_eq_getElem?_getD]; omega) ?_
   refine z2 2 kr (z5 (U7 kr (u4 kr (D_e (e := 13) (l := [0,1,2,3,4,5,6,7,8,9,10,11,12]) (s' := []) kr kr rfl kr z4 (z2 5 kr (q9 _ rfl rfl kr kr kr ((c0.ext T126).ld (o := 1) kr rfl) (q9 _ rfl rfl kr kr kr (Cl.allN (n := 5) c126 rfl kr) (z2 3 kr (q9 _ rfl rfl kr kr kr ((c0.ext T126).ld (o := 0) kr rfl) (z2 2 kr (z5 ?_)))))))))))
   refine L_c rfl rfl kr (E8 (R.ext T126) (x := .ask e (W.rq p no).no) rfl hlw) ?_
   rintro v127 h127 N127
   dsimp only at N127
   obtain ⟨S127, C127, ro127, R127, Y127⟩ := N127
   have X127 := ((Gx.refl).trans (Gx.of T126)).trans Y127
   have hr_127 := (Y127.keep _ hr).1
   have m126_127 : ¬ (Gh.mut ⟨Gh.B G, S127, C127, ro127⟩) (h.next) /\ ¬ (Gh.ro ⟨Gh.B G, S127, C127, ro127⟩) (h.next) := ⟨fun hm => (Y127.mu _ hm).elim m126.1 (fun e => by have := c126.lt; omega), fun hm => (Y127.ron _ hm).elim m126.2 (fun e => by have := c126.lt; omega)⟩
   have T127 : Sm (Ow h (⟨Gh.B G, S127, C127, ro127⟩ : Gh)) h127 h127 := .refl
   refine q5 ⟨rfl, ?_⟩
   refine D_l (l := []) kr kr z4 (z5 ?_)
   repeat with_reducible refine Q9 ?_
   refine z0 (v := .tuple ⟨[]⟩) (.inr rfl) kr ?_
   exact ⟨_, _, _, (R127.ow T127), ((X127).ow T127)⟩
 . obtain ⟨i, W1, hpi, hi, hs, hpp, hll, hz1, hz2, hput, rfl⟩ := hc
   unfold Wd.put at hput
   split at hput
   rotate_right
   . cases hput
   rename_i hlw
   obtain rfl := Option.some.inj hput
   refine j9 102 Tryz.f79 ?_
   have T0 : Sm Nix h h := .refl
   refine q7 (q6 ?_)
   have m128 : ¬ (Gh.mut G) h.next /\ ¬ (Gh.ro G) h.next := ⟨(R.ext T0).op.new (Nat.le_refl _), (R.ext T0).op.newr (Nat.le_refl _)⟩
   refine Q1 [nv e.src, nv e.ctx, nv e.tag, nv e.size, nv e.parts] .ptr rfl rfl kr fun h128 c128 t128 n128 => ?_
   have T128 := T0.ext t128
   have N128 := T128.nx
   refine q5 (z1 3 kr (z9 _ rfl rfl kr ((R.ext T128).wdL.ld (o := 1) kr rfl) (L_g 1 kr ?_)))
   obtain ⟨b1, o1, i1, l1⟩ := (R.ext T128).prsAt (P := Tryz.prog) (T := 61) (el := 64) kr kr kr hp
   refine Z8 _ rfl rfl kr kr (i1) (z9 _ rfl rfl kr (l1) (L_g 1 kr (q5 (u3 (z1 3 kr (z9 _ rfl rfl kr ((c0.ext T128).ld (o := 1) kr rfl) (L_i ((W.rq p no).peer) (-2) (.bool false) rfl rfl kr kr rfl (by simp; omega) (L_g 1 kr (q5 ?_)))))))))
   refine Q2 kr (q7 (u4 kr (D_l (l := [0,1,2,3,4,5,6,7,8,9,10,11,12,13,14,15,16,17,18,19,20,21,22,23,24,25,26,27,28,29,30,31,32,33]) kr kr z4 (z2 3 kr (q9 _ rfl rfl kr kr kr (((c0.ext T128).ld (o := 6) kr (by rw [<- hs]; rfl) : aLoad Tryz.prog 4 ⟨G.B (.rq p no), 6, none⟩ h128 = some (.bool false))) (z2 4 kr (q9 _ rfl rfl kr kr kr ((c0.ext T128).ld (o := 10) kr rfl) (J3 (((W.rq p no).parts : Int)) (0) (.bool false) rfl rfl kr kr kr kr rfl (by simp; omega) (z2 3 kr (q9 _ rfl rfl kr kr kr (c128.ld (o := 3) kr rfl) (z2 3 kr ?_)))))))))))
   refine q9 _ rfl rfl kr kr kr ((R.ext T128).wdL.ld (o := 0) kr rfl) (J3 (e.size) (W.lim) (.bool false) rfl rfl kr kr kr kr rfl (by simp; omega) (z2 5 kr (q9 _ rfl rfl kr kr kr (((R.ext T128).prL hp).ld (o := 6) kr rfl) (z2 3 kr (q9 _ rfl rfl kr kr kr (((c0.ext T128).ld (o := 1) kr (by rw [<- hpi]; rfl) : aLoad Tryz.prog 3 ⟨G.B (.rq p no), 1, none⟩ h128 = some (nv (i : Int)))) ?_)))))
   have hci : ((W.pr p).crds.map nv)[i]? = some (nv ((W.pr p).crds.getD i 0)) := by rw [List.getElem?_map, List.getElem?_eq_getElem hi, List.getD_eq_getElem?_getD, List.getElem?_eq_getElem hi]; rfl
   obtain ⟨pa, xa, i1, i2, i3, i4, i5⟩ := ((R.ext T128).crd hp).elem (P := Tryz.prog) (T := 67) (el := 3) kr kr kr hi .i64
   obtain rfl : xa = nv ((W.pr p).crds.getD i 0) := Option.some.inj (i2.symm.trans hci)
   refine U0 _ rfl rfl kr kr kr kr (i1) (q9 _ rfl rfl kr kr kr (i3) ?_)
   refine J3 (((W.pr p).crds.getD i 0)) (0) (.bool false) rfl rfl kr kr kr kr rfl (by simp [-List.getD_eq_getElem?_getD]; omega) ?_
   refine z2 2 kr (z5 (Q2 kr (q7 (u4 kr (D_e (e := 12) (l := [0,1,2,3,4,5,6,7,8,9,10,11]) (s' := []) kr kr rfl kr z4 (z2 3 kr (q9 _ rfl rfl kr kr kr (((R.ext T128).prL hp).ld (o := 6) kr rfl) (z2 3 kr (q9 _ rfl rfl kr kr kr (((c0.ext T128).ld (o := 1) kr (by rw [<- hpi]; rfl) : aLoad Tryz.prog 3 ⟨G.B (.rq p no), 1, none⟩ h128 = some (nv (i : Int)))) ?_)))))))))
   have hci : ((W.pr p).crds.map nv)[i]? = some (nv ((W.pr p).crds.getD i 0)) := by rw [List.getElem?_map, List.getElem?_eq_getElem hi, List.getD_eq_getElem?_getD, List.getElem?_eq_getElem hi]; rfl
   obtain ⟨pb, xb, j1, j2, j3, j4, j5⟩ := ((R.ext T128).crd hp).elem (P := Tryz.prog) (T := 67) (el := 3) kr kr kr hi .i64
   obtain rfl : xb = nv ((W.pr p).crds.getD i 0) := Option.some.inj (j2.symm.trans hci)
   refine U0 _ rfl rfl kr kr kr kr (j1) (q9 _ rfl rfl kr kr kr (j3) (J3 (((W.pr p).crds.getD i 0)) (1) (nv (((W.pr p).crds.getD i 0) - 1)) rfl rfl kr kr kr kr rfl (Qj5 hz1 hz2) (U0 _ rfl rfl kr kr kr kr (j1) (z5 ?_))))
   obtain ⟨h129, e129, w129, t129, n129⟩ := j5 (nv (((W.pr p).crds.getD i 0) - 1)) rfl rfl
   have N129 : Nxt (W.setPr p { W.pr p with crds := (W.pr p).crds.set i (((W.pr p).crds.getD i 0) - 1) }) G h128 h129 := (R.ext T128).setCrd hp (by rw [List.length_set, List.map_set]; exact w129) t129
   refine Q3 _ rfl rfl rfl kr kr (e129) ?_
   obtain ⟨S129, C129, ro129, R129, Y129⟩ := N129
   have X129 := ((Gx.refl).trans (Gx.of T128)).trans Y129
   have hr_129 := (Y129.keep _ hr).1
   have m128_129 : ¬ (Gh.mut ⟨Gh.B G, S129, C129, ro129⟩) (h.next) /\ ¬ (Gh.ro ⟨Gh.B G, S129, C129, ro129⟩) (h.next) := ⟨fun hm => (Y129.mu _ hm).elim m128.1 (fun e => by have := c128.lt; omega), fun hm => (Y129.ron _ hm).elim m128.2 (fun e => by have := c128.lt; omega)⟩
   replace c128 := c128.sm Y129.sm m128.1
   have T129 : Sm (Ow h (⟨Gh.B G, S129, C129, ro129⟩ : Gh)) h129 h129 := .refl
   obtain ⟨dvz, hdz, cz⟩ := R129.rqL (p := p) hp hr_129
   replace cz : Arm.Cl h129 (G.B (.rq p no)) (rqX (W.rq p no) dvz ((⟨G.B, S129, C129, ro129⟩ : Gh).S (.pcs p no)) ((⟨G.B, S129, C129, ro129⟩ : Gh).S (.snt p no))) := cz
   obtain ⟨da, dc, rfl⟩ := hdz.1.form
   refine q5 ⟨rfl, ?_⟩
   refine D_l (l := []) kr kr z4 (z5 (q7 (u4 kr (D_e (e := 13) (l := [0,1,2,3,4,5,6,7,8,9,10,11,12]) (s' := []) kr kr rfl kr z4 (z2 5 kr (q9 _ rfl rfl kr kr kr ((cz.sm T129 (fun hx => hx.2.1 ⟨.rq p no, hr_129, rfl⟩)).ld (o := 1) kr rfl) (q9 _ rfl rfl kr kr kr (Cl.allN (n := 5) c128 rfl kr) (z2 3 kr (q9 _ rfl rfl kr kr kr ((cz.sm T129 (fun hx => hx.2.1 ⟨.rq p no, hr_129, rfl⟩)).ld (o := 12) kr rfl) (z2 2 kr (z5 ?_)))))))))))
   refine L_c rfl rfl kr (E8 (R129.ow T129) (x := .eager e (W.rq p no).data) ⟨_, hdz.ext3 T129, rfl⟩ hlw) ?_
   rintro v130 h130 N130
   dsimp only at N130
   obtain ⟨S130, C130, ro130, R130, Y130⟩ := N130
   have X130 := ((X129).ow T129).trans Y130
   have hr_130 := (Y130.keep _ hr_129).1
   have m128_129_130 : ¬ (Gh.mut ⟨Gh.B G, S130, C130, ro130⟩) (h.next) /\ ¬ (Gh.ro ⟨Gh.B G, S130, C130, ro130⟩) (h.next) := ⟨fun hm => (Y130.mu _ hm).elim m128_129.1 (fun e => by have := c128.lt; omega), fun hm => (Y130.ron _ hm).elim m128_129.2 (fun e => by have := c128.lt; omega)⟩
   replace c128 := c128.sm Y130.sm m128_129.1
   have T130 : Sm (Ow h (⟨Gh.B G, S130, C130, ro130⟩ : Gh)) h130 h130 := .refl
   refine q5 ⟨rfl, ?_⟩
   refine D_l (l := []) kr kr z4 (z5 (q6 (L_g 3 kr ?_)))
   obtain ⟨dv9, hd9, c9⟩ := (R130.ow T130).rqL hp hr_130
   replace c9 : Cl h130 (Gh.B G (.rq p no)) (rqX ((A17x1 W e i no p).rq p no) dv9 ((⟨Gh.B G, S130, C130, ro130⟩ : Gh).S (.pcs p no)) ((⟨Gh.B G, S130, C130, ro130⟩ : Gh).S (.snt p no))) := c9
   obtain ⟨h131, e131, d131, t131, n131⟩ := c9.s1 4 9 (.bool true)
   have N131 : Nxt ((A17x1 W e i no p).setRq p no { ((A17x1 W e i no p).rq p no) with done := true }) (⟨Gh.B G, S130, C130, ro130⟩ : Gh) h130 h131 := (R130.ow T130).stRq hp hr_130 (r := { ((A17x1 W e i no p).rq p no) with done := true }) hd9 d131 t131 rfl rfl rfl
   clear hd9
   refine Q3 _ rfl rfl rfl kr kr (e131) ?_
   obtain ⟨S131, C131, ro131, R131, Y131⟩ := N131
   have X131 := ((X130).ow T130).trans Y131
   have hr_131 := (Y131.keep _ hr_130).1
   have m128_129_130_131 : ¬ (Gh.mut ⟨Gh.B G, S131, C131, ro131⟩) (h.next) /\ ¬ (Gh.ro ⟨Gh.B G, S131, C131, ro131⟩) (h.next) := ⟨fun hm => (Y131.mu _ hm).elim m128_129_130.1 (fun e => by have := c128.lt; omega), fun hm => (Y131.ron _ hm).elim m128_129_130.2 (fun e => by have := c128.lt; omega)⟩
   have T131 : Sm (Ow h (⟨Gh.B G, S131, C131, ro131⟩ : Gh)) h131 h131 := .refl
   refine q5 ?_
   repeat with_reducible refine Q9 ?_
   refine z0 (v := .tuple ⟨[]⟩) (.inr rfl) kr ?_
   exact ⟨_, _, _, (R131.ow T131), ((X131).ow T131)⟩
end
end Go.Proofs.YtjealfplbigphaaGreat
namespace Go.Proofs.YtjealfplbigphaaGreat
noncomputable section
open Go Go.X Go.Arm Go.Mt
abbrev A18x1 (W : Wd) (d : By) (no : Nat) (p : Nat) : Wd := W.setRq p no { W.rq p no with act := true, done := false, st := St.z, data := d }
abbrev A18x2 (W : Wd) (no : Nat) (p : Nat) : Wd := W.setRq p no { (W.rq p no) with act := true }
abbrev A18x3 (G : Gh) (d : By) (va133 : Option Addr) (vc133 : Nat) : Gh := Gh.more G (fun b => vb (Value.slice va133 (List.map bv d).length vc133) = some b)
abbrev A18x4 (W : Wd) (no : Nat) (p : Nat) : Wd := (A18x2 W no p).setRq p no { ((A18x2 W no p).rq p no) with done := false }
abbrev A18x5 (W : Wd) (d : By) (no : Nat) (p : Nat) : Rq := ((A18x1 W d no p).setRq p no { ((A18x1 W d no p).rq p no) with st := ⟨-2, -1, 0, 0⟩ }).rq p no
abbrev A18x6 (W : Wd) (no : Nat) (p : Nat) : Rq := ((A18x4 W no p).setRq p no { ((A18x4 W no p).rq p no) with st := St.z }).rq p no
theorem xu6 {a b : Nat} {d : By} (h : a * b < big) (hl : d.length < big) : Value.int .i64 (IntKind.i64.wrap (((List.map bv d).length : Int) + IntKind.i64.wrap ((a : Int) * (b : Int)))) = nv ((d.length + a * b : Nat) : Int) := by
 have h1 : a * b < 1000000000 := h
 have hl : d.length < 1000000000 := hl
 rw [yx7 h, List.length_map]
 have : IntKind.i64.wrap ((d.length : Int) + ((a * b : Nat) : Int)) = ((d.length + a * b : Nat) : Int) := by rw [IntKind.wrap_i64]; omega
 rw [this]; rfl
set_option maxHeartbeats 4000000 in
theorem jk4 {W : Wd} {G : Gh} {h : AH} {p no : Nat} {d : By} {s : Value} {W' : Wd} (R : Rep W G h) (hp : p < W.n) (hr : G.C (.rq p no) ≠ .no) (H : Rb h s (d.map bv)) (he : W.start p no d = some W') :
   Arm.Calls Tryz.prog 52 [ptr (G.B .wd), nv (p : Int), ptr (G.B (.rq p no)), s] h (fun r => Nxt W' G h r.2) := by
 unfold Wd.start at he
 dsimp only at he
 split at he
 . cases he
 rename_i hguard
 obtain ⟨hsm, hld, hlm, hroom⟩ := Classical.not_not.1 hguard
 have hsm : (W.rq p no).parts * (W.rq p no).size < big := hsm
 refine j9 116 Tryz.f52 ?_
 have T0 : Sm Nix h h := .refl
 refine q7 (q6 ?_)
 have m132 : ¬ (Gh.mut G) h.next /\ ¬ (Gh.ro G) h.next := ⟨(R.ext T0).op.new (Nat.le_refl _), (R.ext T0).op.newr (Nat.le_refl _)⟩
 refine Q1 [ptr (G.B (.rq p no))] .ptr rfl rfl kr fun h132 c132 t132 n132 => ?_
 have T132 := T0.ext t132
 have N132 := T132.nx
 refine q5 (q7 (u4 kr (D_e (e := 6) (l := [0,1,2,3,4,5]) (s' := [0,1,2,3,4]) kr kr rfl kr z4 (q9 _ rfl rfl kr kr kr (c132.ld (o := 0) kr rfl) (q9 _ rfl rfl kr kr kr (c132.ld (o := 0) kr rfl) (q9 _ rfl rfl kr kr kr (c132.ld (o := 0) kr rfl) (q9 _ rfl rfl kr kr kr (c132.ld (o := 0) kr rfl) (z2 2 kr (z5 (L_c rfl rfl kr (qu3 (H.ext T132) (qw2 d) (by rw [List.length_map]; exact hld)) ?_))))))))))
 rintro v133 h133 ⟨r133, k133, t133, f133, s133⟩
 dsimp only at r133 k133 t133 f133 s133
 obtain ⟨R133, X133⟩ := (R.ext T132).more (Q := fun b => vb v133 = some b) t133 (fun b hb => (f133 b hb).1) (fun b hb => (f133 b hb).2)
 obtain ⟨va133, vc133, ev133⟩ := r133.form
 subst ev133
 have hdv : Dr h133 (G.more (fun b => vb (Value.slice va133 (List.map bv d).length vc133) = some b)).ro (.slice va133 (List.map bv d).length vc133) d := ⟨r133, fun b hb => .inr hb⟩
 have mZ6 : ¬ (Gh.mut (G.more (fun b => vb (Value.slice va133 (List.map bv d).length vc133) = some b))) (h.next) /\ ¬ (Gh.ro (G.more (fun b => vb (Value.slice va133 (List.map bv d).length vc133) = some b))) (h.next) := ⟨fun hm => by obtain ⟨r, q1, q2⟩ := hm; rw [qw3] at q2; exact m132.1 ⟨r, q1, q2⟩, fun hm => hm.elim m132.2 (fun e => by have := (f133 _ e).1; have := c132.lt; omega)⟩
 have X133x := (Gx.of T132).trans X133
 replace c132 := c132.ext t133
 have T133 : Sm Nix h133 h133 := .refl
 refine q5 ⟨rfl, ?_⟩
 refine D_e (e := 9) (l := [7,8]) (s' := [1,2,3,4]) kr kr rfl kr (u6 _ rfl rfl rfl kr (c132.ld (o := 0) kr rfl) kr (u6 _ rfl rfl rfl kr (c132.ld (o := 0) kr rfl) kr (u6 _ rfl rfl rfl kr (c132.ld (o := 0) kr rfl) kr (u6 _ rfl rfl rfl kr (c132.ld (o := 0) kr rfl) kr (z3 rfl rfl z4))))) (z2 2 kr (z5 ?_))
 obtain ⟨dv9, hd9, c9⟩ := (R133.ext T133).rqL hp hr
 replace c9 : Cl h133 (Gh.B (A18x3 G d va133 vc133) (.rq p no)) (rqX (W.rq p no) dv9 ((A18x3 G d va133 vc133).S (.pcs p no)) ((A18x3 G d va133 vc133).S (.snt p no))) := c9
 obtain ⟨h134, e134, d134, t134, n134⟩ := c9.s1 4 8 (.bool true)
 have N134 : Nxt (A18x2 W no p) (A18x3 G d va133 vc133) h133 h134 := (R133.ext T133).stRq hp hr (r := { (W.rq p no) with act := true }) hd9 d134 t134 rfl rfl rfl
 clear hd9
 refine Q3 _ rfl rfl rfl kr kr (e134) ?_
 obtain ⟨S134, C134, ro134, R134, Y134⟩ := N134
 have X134 := ((X133x).trans (Gx.of T133)).trans Y134
 have hr_134 := (Y134.keep _ hr).1
 have hdv_134 := Dr.mono0 hdv (Gx.dr Y134 (R133.ext T133).op)
 have mZ6_134 : ¬ (Gh.mut ⟨Gh.B (A18x3 G d va133 vc133), S134, C134, ro134⟩) (h.next) /\ ¬ (Gh.ro ⟨Gh.B (A18x3 G d va133 vc133), S134, C134, ro134⟩) (h.next) := ⟨fun hm => (Y134.mu _ hm).elim mZ6.1 (fun e => by have := c132.lt; omega), fun hm => (Y134.ron _ hm).elim mZ6.2 (fun e => by have := c132.lt; omega)⟩
 replace c132 := c132.sm Y134.sm mZ6.1
 have T134 : Sm (Ow h (⟨Gh.B (A18x3 G d va133 vc133), S134, C134, ro134⟩ : Gh)) h134 h134 := .refl
 refine q5 ⟨rfl, ?_⟩
 refine D_e (e := 12) (l := [10,11]) (s' := [2,3,4]) kr kr rfl kr (u6 _ rfl rfl rfl kr (c132.ld (o := 0) kr rfl) kr (u6 _ rfl rfl rfl kr (c132.ld (o := 0) kr rfl) kr (u6 _ rfl rfl rfl kr (c132.ld (o := 0) kr rfl) kr (z3 rfl rfl z4)))) (z2 2 kr (z5 ?_))
 obtain ⟨dv9, hd9, c9⟩ := (R134.ow T134).rqL hp hr_134
 replace c9 : Cl h134 (Gh.B (A18x3 G d va133 vc133) (.rq p no)) (rqX ((A18x2 W no p).rq p no) dv9 ((⟨Gh.B (A18x3 G d va133 vc133), S134, C134, ro134⟩ : Gh).S (.pcs p no)) ((⟨Gh.B (A18x3 G d va133 vc133), S134, C134, ro134⟩ : Gh).S (.snt p no))) := c9
 obtain ⟨h135, e135, d135, t135, n135⟩ := c9.s1 4 9 (.bool false)
 have N135 : Nxt (A18x4 W no p) (⟨Gh.B (A18x3 G d va133 vc133), S134, C134, ro134⟩ : Gh) h134 h135 := (R134.ow T134).stRq hp hr_134 (r := { ((A18x2 W no p).rq p no) with done := false }) hd9 d135 t135 rfl rfl rfl
 clear hd9
 refine Q3 _ rfl rfl rfl kr kr (e135) ?_
 obtain ⟨S135, C135, ro135, R135, Y135⟩ := N135
 have X135 := ((X134).ow T134).trans Y135
 have hr_135 := (Y135.keep _ hr_134).1
 have hdv_135 := Dr.mono0 hdv_134 (Gx.dr Y135 (R134.ow T134).op)
 have mZ6_134_135 : ¬ (Gh.mut ⟨Gh.B (A18x3 G d va133 vc133), S135, C135, ro135⟩) (h.next) /\ ¬ (Gh.ro ⟨Gh.B (A18x3 G d va133 vc133), S135, C135, ro135⟩) (h.next) := ⟨fun hm => (Y135.mu _ hm).elim mZ6_134.1 (fun e => by have := c132.lt; omega), fun hm => (Y135.ron _ hm).elim mZ6_134.2 (fun e => by have := c132.lt; omega)⟩
 replace c132 := c132.sm Y135.sm mZ6_134.1
 have T135 : Sm (Ow h (⟨Gh.B (A18x3 G d va133 vc133), S135, C135, ro135⟩ : Gh)) h135 h135 := .refl
 refine q5 ⟨rfl, ?_⟩
 refine D_e (e := 15) (l := [13,14]) (s' := [3]) kr kr rfl kr (u6 _ rfl rfl rfl kr (c132.ld (o := 0) kr rfl) kr (u6 _ rfl rfl rfl kr (c132.ld (o := 0) kr rfl) kr (z3 rfl rfl z4))) (z2 2 kr (z5 ?_))
 obtain ⟨dv9, hd9, c9⟩ := (R135.ow T135).rqL hp hr_135
 replace c9 : Cl h135 (Gh.B (A18x3 G d va133 vc133) (.rq p no)) (rqX ((A18x4 W no p).rq p no) dv9 ((⟨Gh.B (A18x3 G d va133 vc133), S135, C135, ro135⟩ : Gh).S (.pcs p no)) ((⟨Gh.B (A18x3 G d va133 vc133), S135, C135, ro135⟩ : Gh).S (.snt p no))) := c9
 obtain ⟨h136, e136, d136, t136, n136⟩ := c9.storeAt (P := Tryz.prog) (T := 50) (o := 17) (v := .agg ⟨[nv 0, nv 0, nv 0, nv 0]⟩) (vs := [nv 0, nv 0, nv 0, nv 0]) kr rfl (by simp) (List.all_eq_true.1 rfl)
 have N136 : Nxt ((A18x4 W no p).setRq p no { ((A18x4 W no p).rq p no) with st := St.z }) (⟨Gh.B (A18x3 G d va133 vc133), S135, C135, ro135⟩ : Gh) h135 h136 := (R135.ow T135).stRq hp hr_135 (r := { ((A18x4 W no p).rq p no) with st := St.z }) hd9 d136 t136 rfl rfl rfl
 clear hd9
 refine Q3 _ rfl rfl rfl kr kr (e136) ?_
 obtain ⟨S136, C136, ro136, R136, Y136⟩ := N136
 have X136 := ((X135).ow T135).trans Y136
 have hr_136 := (Y136.keep _ hr_135).1
 have hdv_136 := Dr.mono0 hdv_135 (Gx.dr Y136 (R135.ow T135).op)
 have mZ6_134_135_136 : ¬ (Gh.mut ⟨Gh.B (A18x3 G d va133 vc133), S136, C136, ro136⟩) (h.next) /\ ¬ (Gh.ro ⟨Gh.B (A18x3 G d va133 vc133), S136, C136, ro136⟩) (h.next) := ⟨fun hm => (Y136.mu _ hm).elim mZ6_134_135.1 (fun e => by have := c132.lt; omega), fun hm => (Y136.ron _ hm).elim mZ6_134_135.2 (fun e => by have := c132.lt; omega)⟩
 replace c132 := c132.sm Y136.sm mZ6_134_135.1
 have T136 : Sm (Ow h (⟨Gh.B (A18x3 G d va133 vc133), S136, C136, ro136⟩ : Gh)) h136 h136 := .refl
 refine q5 ⟨rfl, ?_⟩
 refine D_e (e := 18) (l := [16,17]) (s' := []) kr kr rfl kr (u6 _ rfl rfl rfl kr (c132.ld (o := 0) kr rfl) kr z4) (z2 2 kr (z5 ?_))
 obtain ⟨dv9, hd9, c9⟩ := (R136.ow T136).rqL hp hr_136
 replace c9 : Arm.Cl h136 (Gh.B (A18x3 G d va133 vc133) (.rq p no)) (rqX (A18x6 W no p) dv9 ((⟨Gh.B (A18x3 G d va133 vc133), S136, C136, ro136⟩ : Gh).S (.pcs p no)) ((⟨Gh.B (A18x3 G d va133 vc133), S136, C136, ro136⟩ : Gh).S (.snt p no))) := c9
 obtain ⟨h137, e137, d137, t137, n137⟩ := c9.s1 23 12 (.slice va133 (List.map bv d).length vc133)
 have N137 : Nxt ((((A18x4 W no p).setRq p no { ((A18x4 W no p).rq p no) with st := St.z }).setRq p no { (A18x6 W no p) with data := d })) (⟨Gh.B (A18x3 G d va133 vc133), S136, C136, ro136⟩ : Gh) h136 h137 := by
   have := (R136.ow T136).setRq hp hr_136 (r := { (A18x6 W no p) with data := d }) (dv := .slice va133 (List.map bv d).length vc133) d137 t137 (fun k hk => .inl hk) (((R136.ow T136).op.dr (t137.mono fun k hk => ⟨.rq p no, hr_136, by subst hk; rfl⟩)) _ _ hdv_136) rfl rfl
   exact ⟨_, _, _, this⟩
 clear hd9
 refine Q3 _ rfl rfl rfl kr kr (e137) ?_
 obtain ⟨S137, C137, ro137, R137, Y137⟩ := N137
 have X137 := ((X136).ow T136).trans Y137
 have hr_137 := (Y137.keep _ hr_136).1
 have hdv_137 := Dr.mono0 hdv_136 (Gx.dr Y137 (R136.ow T136).op)
 have mZ6_134_135_136_137 : ¬ (Gh.mut ⟨Gh.B (A18x3 G d va133 vc133), S137, C137, ro137⟩) (h.next) /\ ¬ (Gh.ro ⟨Gh.B (A18x3 G d va133 vc133), S137, C137, ro137⟩) (h.next) := ⟨fun hm => (Y137.mu _ hm).elim mZ6_134_135_136.1 (fun e => by have := c132.lt; omega), fun hm => (Y137.ron _ hm).elim mZ6_134_135_136.2 (fun e => by have := c132.lt; omega)⟩
 replace c132 := c132.sm Y137.sm mZ6_134_135_136.1
 have T137 : Sm (Ow h (⟨Gh.B (A18x3 G d va133 vc133), S137, C137, ro137⟩ : Gh)) h137 h137 := .refl
 have eW : (((A18x4 W no p).setRq p no { ((A18x4 W no p).rq p no) with st := St.z }).setRq p no { (A18x6 W no p) with data := d }) = W.setRq p no { W.rq p no with act := true, done := false, st := St.z, data := d } := by simp only [Wd.setRq_at, Wd.setRq_setRq]
 rw [eW] at R137
 have eR : (A18x1 W d no p).rq p no = { W.rq p no with act := true, done := false, st := St.z, data := d } := Wd.setRq_at _ _ _ _
 obtain ⟨dvz, hdz, cz⟩ := R137.rqL (p := p) hp hr_137
 rw [eR] at hdz cz
 replace cz : Arm.Cl h137 (G.B (.rq p no)) [nk (W.rq p no).no, nv (W.rq p no).peer, nv (W.rq p no).ctx, nv (W.rq p no).tag, nv (W.rq p no).room, .bool (W.rq p no).send, .bool (W.rq p no).sync, .bool (W.rq p no).pers, .bool true, .bool false, nk (W.rq p no).parts, nk (W.rq p no).size, dvz, (⟨G.B, S137, C137, ro137⟩ : Gh).S (.pcs p no), nk (W.rq p no).gone, (⟨G.B, S137, C137, ro137⟩ : Gh).S (.snt p no), .bool (W.rq p no).clr, nv 0, nv 0, nv 0, nv 0] := cz
 have l6 := c132.lt
 refine q5 ⟨rfl, ?_⟩
 refine D_l (l := []) kr kr z4 (z5 (q7 (u4 kr (D_e (e := 27) (l := [0,1,2,3,4,5,6,7,8,9,10,11,12,13,14,15,16,17,18,19,20,21,22,23,24,25,26]) (s' := []) kr kr rfl kr z4 (z2 1 kr (q9 _ rfl rfl kr kr kr (c132.ld (o := 0) kr rfl) (z2 2 kr (q9 _ rfl rfl kr kr kr ((cz.sm T137 (fun hx => hx.2.1 ⟨.rq p no, hr_137, rfl⟩)).ld (o := 2) kr rfl) (q9 _ rfl rfl kr kr kr (c132.ld (o := 0) kr rfl) (z2 2 kr (q9 _ rfl rfl kr kr kr ((cz.sm T137 (fun hx => hx.2.1 ⟨.rq p no, hr_137, rfl⟩)).ld (o := 3) kr rfl) ?_)))))))))))
 refine z2 1 kr (uw2 _ rfl rfl kr kr kr (H.lenA (T := 23) (el := 5) kr _) (q9 _ rfl rfl kr kr kr (c132.ld (o := 0) kr rfl) (z2 2 kr (q9 _ rfl rfl kr kr kr ((cz.sm T137 (fun hx => hx.2.1 ⟨.rq p no, hr_137, rfl⟩)).ld (o := 10) kr rfl) (q9 _ rfl rfl kr kr kr (c132.ld (o := 0) kr rfl) (z2 2 kr (q9 _ rfl rfl kr kr kr ((cz.sm T137 (fun hx => hx.2.1 ⟨.rq p no, hr_137, rfl⟩)).ld (o := 11) kr rfl) (U8 (.int .i64 (IntKind.i64.wrap (((W.rq p no).parts : Int) * ((W.rq p no).size : Int)))) rfl kr rfl kr kr (J3 (((List.map bv d).length : Int)) (IntKind.i64.wrap (((W.rq p no).parts : Int) * ((W.rq p no).size : Int))) (nv ((d.length + (W.rq p no).parts * (W.rq p no).size : Nat) : Int)) rfl rfl kr kr kr kr rfl (xu6 hsm hld) (q9 _ rfl rfl kr kr kr (c132.ld (o := 0) kr rfl) (z2 2 kr ?_)))))))))))
 refine q9 _ rfl rfl kr kr kr ((cz.sm T137 (fun hx => hx.2.1 ⟨.rq p no, hr_137, rfl⟩)).ld (o := 10) kr rfl) (z2 1 kr ?_)
 have m138 : ¬ (Gh.mut (⟨Gh.B (A18x3 G d va133 vc133), S137, C137, ro137⟩ : Gh)) h137.next /\ ¬ (Gh.ro (⟨Gh.B (A18x3 G d va133 vc133), S137, C137, ro137⟩ : Gh)) h137.next := ⟨(R137.ow T137).op.new (Nat.le_refl _), (R137.ow T137).op.newr (Nat.le_refl _)⟩
 refine zj3 (Al.cells [nv 0, nv 0, nv 0, nv 0, nv 0]) .ptr rfl kr rfl rfl kr (z3 rfl rfl (u6 _ rfl rfl rfl kr ((c132.ext (.push h137 _)).ld (o := 0) kr rfl) kr (z3 rfl rfl (z3 rfl rfl (u6 _ rfl rfl rfl kr ((cz.sm (T137.ext (.push h137 _)) (fun hx => hx.2.1 ⟨.rq p no, hr_137, rfl⟩)).ld (o := 2) kr rfl) kr (u6 _ rfl rfl rfl kr ((c132.ext (.push h137 _)).ld (o := 0) kr rfl) kr (z3 rfl rfl (z3 rfl rfl (u6 _ rfl rfl rfl kr ((cz.sm (T137.ext (.push h137 _)) (fun hx => hx.2.1 ⟨.rq p no, hr_137, rfl⟩)).ld (o := 3) kr rfl) kr (z3 rfl rfl (Rk_ln _ rfl rfl rfl kr (H.lenA (T := 23) (el := 5) kr _) kr (u6 _ rfl rfl rfl kr ((c132.ext (.push h137 _)).ld (o := 0) kr rfl) kr (z3 rfl rfl (z3 rfl rfl (u6 _ rfl rfl rfl kr ((cz.sm (T137.ext (.push h137 _)) (fun hx => hx.2.1 ⟨.rq p no, hr_137, rfl⟩)).ld (o := 10) kr rfl) kr (u6 _ rfl rfl rfl kr ((c132.ext (.push h137 _)).ld (o := 0) kr rfl) kr (z3 rfl rfl (z3 rfl rfl (u6 _ rfl rfl rfl kr ((cz.sm (T137.ext (.push h137 _)) (fun hx => hx.2.1 ⟨.rq p no, hr_137, rfl⟩)).ld (o := 11) kr rfl) kr (V8 (v := (.int .i64 (IntKind.i64.wrap (((W.rq p no).parts : Int) * ((W.rq p no).size : Int))))) rfl rfl kr kr (Rk_i (((List.map bv d).length : Int)) (IntKind.i64.wrap (((W.rq p no).parts : Int) * ((W.rq p no).size : Int))) (nv ((d.length + (W.rq p no).parts * (W.rq p no).size : Nat) : Int)) rfl rfl rfl kr kr rfl (xu6 hsm hld) kr (u6 _ rfl rfl rfl kr ((c132.ext (.push h137 _)).ld (o := 0) kr rfl) kr (z3 rfl rfl (z3 rfl rfl (u6 _ rfl rfl rfl kr ((cz.sm (T137.ext (.push h137 _)) (fun hx => hx.2.1 ⟨.rq p no, hr_137, rfl⟩)).ld (o := 10) kr rfl) kr (z3 rfl rfl (z3 rfl rfl z4))))))))))))))))))))))))))) ?_
 have l138_t6 := c132.lt
 have c138 : Cl (h137.push (Al.cells [nv 0, nv 0, nv 0, nv 0, nv 0]).obj) h137.next [nv 0, nv 0, nv 0, nv 0, nv 0] := Cl.new h137 _
 have t138 : Sm Nix h137 (h137.push (Al.cells [nv 0, nv 0, nv 0, nv 0, nv 0]).obj) := .push h137 _
 have n138 : (h137.push (Al.cells [nv 0, nv 0, nv 0, nv 0, nv 0]).obj).next = h137.next + 1 := rfl
 generalize h137.push (Al.cells [nv 0, nv 0, nv 0, nv 0, nv 0]).obj = h138 at c138 t138 n138 ⊢
 replace c132 := c132.ext t138
 have T138 : Sm (Ow h (⟨Gh.B (A18x3 G d va133 vc133), S137, C137, ro137⟩ : Gh)) h137 h138 := T137.ext t138
 have N138 := T138.nx
 refine z5 ?_
 obtain ⟨h139, e139, d139, t139, n139⟩ := c138.sA 157 [nv (p : Int), nv (W.rq p no).ctx, nv (W.rq p no).tag, nv ((d.length + (W.rq p no).parts * (W.rq p no).size : Nat) : Int), nk (W.rq p no).parts]
 replace c132 := c132.sn t139
 replace c138 := d139
 have T139 : Sm (Ow h (⟨Gh.B (A18x3 G d va133 vc133), S137, C137, ro137⟩ : Gh)) h137 h139 := T138.trans t139 (fun x hx => by have hx : x = h137.next := hx; subst hx; first | exact .inr (by omega) | exact .inl ⟨by omega, m138.1, m138.2⟩ | exact .inl rfl)
 have N139 := T139.nx
 refine Q3 _ rfl rfl rfl kr kr (e139) ?_
 refine q5 ⟨rfl, ?_⟩
 refine D_l (l := []) kr kr z4 (z5 (u3 (q7 ?_)))
 split at he
 ·
   rename_i hsend
   have hsend : (W.rq p no).send = true := hsend
   refine q6 (z9 _ rfl rfl kr (c132.ld (o := 0) kr rfl) (L_g 2 kr (z9 _ rfl rfl kr (((cz.sm T139 (fun hx => hx.2.1 ⟨.rq p no, hr_137, rfl⟩)).ld (o := 5) kr (by rw [<- hsend]; rfl) : aLoad Tryz.prog 4 ⟨G.B (.rq p no), 5, none⟩ h139 = some (.bool true))) (L_g 1 kr (q5 (U7 kr (q7 (u4 kr (D_e (e := 14) (l := [0,1,2,3,4,5,6,7,8,9,10,11,12,13]) (s' := []) kr kr rfl kr z4 (q9 _ rfl rfl kr kr kr (c132.ld (o := 0) kr rfl) (q9 _ rfl rfl kr kr kr (c132.ld (o := 0) kr rfl) ?_)))))))))))
   refine z2 2 kr (q9 _ rfl rfl kr kr kr ((cz.sm T139 (fun hx => hx.2.1 ⟨.rq p no, hr_137, rfl⟩)).ld (o := 1) kr rfl) (q9 _ rfl rfl kr kr kr (c132.ld (o := 0) kr rfl) (z2 2 kr (q9 _ rfl rfl kr kr kr ((cz.sm T139 (fun hx => hx.2.1 ⟨.rq p no, hr_137, rfl⟩)).ld (o := 3) kr rfl) (z2 1 kr (q9 _ rfl rfl kr kr kr (c138.ld (o := 3) kr rfl) (z2 3 kr (z5 ?_))))))))
   obtain ⟨dv9, hd9, c9⟩ := (R137.ow T139).rqL hp hr_137
   replace c9 : Cl h139 (Gh.B (A18x3 G d va133 vc133) (.rq p no)) (rqX ((A18x1 W d no p).rq p no) dv9 ((⟨Gh.B (A18x3 G d va133 vc133), S137, C137, ro137⟩ : Gh).S (.pcs p no)) ((⟨Gh.B (A18x3 G d va133 vc133), S137, C137, ro137⟩ : Gh).S (.snt p no))) := c9
   obtain ⟨h140, e140, d140, t140, n140⟩ := c9.storeAt (P := Tryz.prog) (T := 50) (o := 17) (v := .agg ⟨[nv (W.rq p no).peer, nv (W.rq p no).tag, nv ((d.length + (W.rq p no).parts * (W.rq p no).size : Nat) : Int), nv 0]⟩) (vs := [nv (W.rq p no).peer, nv (W.rq p no).tag, nv ((d.length + (W.rq p no).parts * (W.rq p no).size : Nat) : Int), nv 0]) kr rfl (by simp) (List.all_eq_true.1 rfl)
   have N140 : Nxt ((A18x1 W d no p).setRq p no { ((A18x1 W d no p).rq p no) with st := ⟨(W.rq p no).peer, (W.rq p no).tag, (⟨p, (W.rq p no).ctx, (W.rq p no).tag, ((d.length + (W.rq p no).parts * (W.rq p no).size : Nat) : Int), (W.rq p no).parts⟩ : En).size, 0⟩ }) (⟨Gh.B (A18x3 G d va133 vc133), S137, C137, ro137⟩ : Gh) h139 h140 := (R137.ow T139).stRq hp hr_137 (r := { ((A18x1 W d no p).rq p no) with st := ⟨(W.rq p no).peer, (W.rq p no).tag, (⟨p, (W.rq p no).ctx, (W.rq p no).tag, ((d.length + (W.rq p no).parts * (W.rq p no).size : Nat) : Int), (W.rq p no).parts⟩ : En).size, 0⟩ }) hd9 d140 t140 rfl rfl rfl
   clear hd9
   refine Q3 _ rfl rfl rfl kr kr (e140) ?_
   obtain ⟨S140, C140, ro140, R140, Y140⟩ := N140
   have X140 := ((X137).ow T139).trans Y140
   have hr_140 := (Y140.keep _ hr_137).1
   have mZ6_134_135_136_137_140 : ¬ (Gh.mut ⟨Gh.B (A18x3 G d va133 vc133), S140, C140, ro140⟩) (h.next) /\ ¬ (Gh.ro ⟨Gh.B (A18x3 G d va133 vc133), S140, C140, ro140⟩) (h.next) := ⟨fun hm => (Y140.mu _ hm).elim mZ6_134_135_136_137.1 (fun e => by have := c132.lt; omega), fun hm => (Y140.ron _ hm).elim mZ6_134_135_136_137.2 (fun e => by have := c132.lt; omega)⟩
   replace c132 := c132.sm Y140.sm mZ6_134_135_136_137.1
   have m138_140 : ¬ (Gh.mut ⟨Gh.B (A18x3 G d va133 vc133), S140, C140, ro140⟩) (h137.next) /\ ¬ (Gh.ro ⟨Gh.B (A18x3 G d va133 vc133), S140, C140, ro140⟩) (h137.next) := ⟨fun hm => (Y140.mu _ hm).elim m138.1 (fun e => by have := c138.lt; omega), fun hm => (Y140.ron _ hm).elim m138.2 (fun e => by have := c138.lt; omega)⟩
   replace c138 := c138.sm Y140.sm m138.1
   have T140 : Sm (Ow h (⟨Gh.B (A18x3 G d va133 vc133), S140, C140, ro140⟩ : Gh)) h140 h140 := .refl
   have eW2 : ((A18x1 W d no p).setRq p no { ((A18x1 W d no p).rq p no) with st := ⟨(W.rq p no).peer, (W.rq p no).tag, (⟨p, (W.rq p no).ctx, (W.rq p no).tag, ((d.length + (W.rq p no).parts * (W.rq p no).size : Nat) : Int), (W.rq p no).parts⟩ : En).size, 0⟩ }) = W.setRq p no { { W.rq p no with act := true, done := false, st := St.z, data := d } with st := ⟨(W.rq p no).peer, (W.rq p no).tag, (⟨p, (W.rq p no).ctx, (W.rq p no).tag, ((d.length + (W.rq p no).parts * (W.rq p no).size : Nat) : Int), (W.rq p no).parts⟩ : En).size, 0⟩ } := by rw [Wd.setRq_at, Wd.setRq_setRq]
   rw [eW2] at R140
   refine q5 ⟨rfl, ?_⟩
   refine D_l (l := []) kr kr z4 (z5 (Z3 2 kr (z9 _ rfl rfl kr (c132.ld (o := 0) kr rfl) (z9 _ rfl rfl kr (Cl.allN (n := 5) c138 rfl kr) (L_c rfl rfl kr (Qq0 (e := (⟨p, (W.rq p no).ctx, (W.rq p no).tag, ((d.length + (W.rq p no).parts * (W.rq p no).size : Nat) : Int), (W.rq p no).parts⟩ : En)) (R140.ow T140) hp hr_140 he) ?_)))))
   rintro v141 h141 N141
   dsimp only at N141
   obtain ⟨S141, C141, ro141, R141, Y141⟩ := N141
   have X141 := ((X140).ow T140).trans Y141
   have hr_141 := (Y141.keep _ hr_140).1
   have mZ6_134_135_136_137_140_141 : ¬ (Gh.mut ⟨Gh.B (A18x3 G d va133 vc133), S141, C141, ro141⟩) (h.next) /\ ¬ (Gh.ro ⟨Gh.B (A18x3 G d va133 vc133), S141, C141, ro141⟩) (h.next) := ⟨fun hm => (Y141.mu _ hm).elim mZ6_134_135_136_137_140.1 (fun e => by have := c132.lt; omega), fun hm => (Y141.ron _ hm).elim mZ6_134_135_136_137_140.2 (fun e => by have := c132.lt; omega)⟩
   have m138_140_141 : ¬ (Gh.mut ⟨Gh.B (A18x3 G d va133 vc133), S141, C141, ro141⟩) (h137.next) /\ ¬ (Gh.ro ⟨Gh.B (A18x3 G d va133 vc133), S141, C141, ro141⟩) (h137.next) := ⟨fun hm => (Y141.mu _ hm).elim m138_140.1 (fun e => by have := c138.lt; omega), fun hm => (Y141.ron _ hm).elim m138_140.2 (fun e => by have := c138.lt; omega)⟩
   have T141 : Sm (Ow h (⟨Gh.B (A18x3 G d va133 vc133), S141, C141, ro141⟩ : Gh)) h141 h141 := .refl
   refine q5 ?_
   repeat with_reducible refine Q9 ?_
   refine z0 (v := .tuple ⟨[]⟩) (.inr rfl) kr ?_
   exact ⟨_, _, _, (R141.ow T141), ((X141).ow T141)⟩
 ·
   rename_i hsend
   have hsend : (W.rq p no).send = false := by simpa using hsend
   refine q6 (z9 _ rfl rfl kr (c132.ld (o := 0) kr rfl) (L_g 2 kr (z9 _ rfl rfl kr (((cz.sm T139 (fun hx => hx.2.1 ⟨.rq p no, hr_137, rfl⟩)).ld (o := 5) kr (by rw [<- hsend]; rfl) : aLoad Tryz.prog 4 ⟨G.B (.rq p no), 5, none⟩ h139 = some (.bool false))) (L_g 1 kr (q5 (Q2 kr (q7 ?_)))))))
   split at he
   ·
    rename_i hpeer
    have hpeer : (W.rq p no).peer = -2 := hpeer
    obtain rfl := Option.some.inj he
    refine q6 (z9 _ rfl rfl kr (c132.ld (o := 0) kr rfl) (L_g 2 kr (z9 _ rfl rfl kr ((cz.sm T139 (fun hx => hx.2.1 ⟨.rq p no, hr_137, rfl⟩)).ld (o := 1) kr rfl) (L_i ((W.rq p no).peer) (-2) (.bool true) rfl rfl kr kr rfl (by simp; omega) (L_g 1 kr (q5 (U7 kr (u4 kr (D_e (e := 5) (l := [0,1,2,3,4]) (s' := [1]) kr kr rfl kr z4 (q9 _ rfl rfl kr kr kr (c132.ld (o := 0) kr rfl) (q9 _ rfl rfl kr kr kr (c132.ld (o := 0) kr rfl) ?_)))))))))))
    refine z2 3 kr (z5 ?_)
    obtain ⟨dv9, hd9, c9⟩ := (R137.ow T139).rqL hp hr_137
    replace c9 : Cl h139 (Gh.B (A18x3 G d va133 vc133) (.rq p no)) (rqX ((A18x1 W d no p).rq p no) dv9 ((⟨Gh.B (A18x3 G d va133 vc133), S137, C137, ro137⟩ : Gh).S (.pcs p no)) ((⟨Gh.B (A18x3 G d va133 vc133), S137, C137, ro137⟩ : Gh).S (.snt p no))) := c9
    obtain ⟨h142, e142, d142, t142, n142⟩ := c9.storeAt (P := Tryz.prog) (T := 50) (o := 17) (v := .agg ⟨[nv (-2), nv (-1), nv 0, nv 0]⟩) (vs := [nv (-2), nv (-1), nv 0, nv 0]) kr rfl (by simp) (List.all_eq_true.1 rfl)
    have N142 : Nxt ((A18x1 W d no p).setRq p no { ((A18x1 W d no p).rq p no) with st := ⟨-2, -1, 0, 0⟩ }) (⟨Gh.B (A18x3 G d va133 vc133), S137, C137, ro137⟩ : Gh) h139 h142 := (R137.ow T139).stRq hp hr_137 (r := { ((A18x1 W d no p).rq p no) with st := ⟨-2, -1, 0, 0⟩ }) hd9 d142 t142 rfl rfl rfl
    clear hd9
    refine Q3 _ rfl rfl rfl kr kr (e142) ?_
    obtain ⟨S142, C142, ro142, R142, Y142⟩ := N142
    have X142 := ((X137).ow T139).trans Y142
    have hr_142 := (Y142.keep _ hr_137).1
    have mZ6_134_135_136_137_142 : ¬ (Gh.mut ⟨Gh.B (A18x3 G d va133 vc133), S142, C142, ro142⟩) (h.next) /\ ¬ (Gh.ro ⟨Gh.B (A18x3 G d va133 vc133), S142, C142, ro142⟩) (h.next) := ⟨fun hm => (Y142.mu _ hm).elim mZ6_134_135_136_137.1 (fun e => by have := c132.lt; omega), fun hm => (Y142.ron _ hm).elim mZ6_134_135_136_137.2 (fun e => by have := c132.lt; omega)⟩
    replace c132 := c132.sm Y142.sm mZ6_134_135_136_137.1
    have m138_142 : ¬ (Gh.mut ⟨Gh.B (A18x3 G d va133 vc133), S142, C142, ro142⟩) (h137.next) /\ ¬ (Gh.ro ⟨Gh.B (A18x3 G d va133 vc133), S142, C142, ro142⟩) (h137.next) := ⟨fun hm => (Y142.mu _ hm).elim m138.1 (fun e => by have := c138.lt; omega), fun hm => (Y142.ron _ hm).elim m138.2 (fun e => by have := c138.lt; omega)⟩
    replace c138 := c138.sm Y142.sm m138.1
    have T142 : Sm (Ow h (⟨Gh.B (A18x3 G d va133 vc133), S142, C142, ro142⟩ : Gh)) h142 h142 := .refl
    refine q5 ⟨rfl, ?_⟩
    refine D_e (e := 8) (l := [6,7]) (s' := []) kr kr rfl kr (u6 _ rfl rfl rfl kr (c132.ld (o := 0) kr rfl) kr z4) (z2 2 kr (z5 ?_))
    obtain ⟨dv9, hd9, c9⟩ := (R142.ow T142).rqL hp hr_142
    replace c9 : Cl h142 (Gh.B (A18x3 G d va133 vc133) (.rq p no)) (rqX (A18x5 W d no p) dv9 ((⟨Gh.B (A18x3 G d va133 vc133), S142, C142, ro142⟩ : Gh).S (.pcs p no)) ((⟨Gh.B (A18x3 G d va133 vc133), S142, C142, ro142⟩ : Gh).S (.snt p no))) := c9
    obtain ⟨h143, e143, d143, t143, n143⟩ := c9.s1 4 9 (.bool true)
    have N143 : Nxt (((A18x1 W d no p).setRq p no { ((A18x1 W d no p).rq p no) with st := ⟨-2, -1, 0, 0⟩ }).setRq p no { (A18x5 W d no p) with done := true }) (⟨Gh.B (A18x3 G d va133 vc133), S142, C142, ro142⟩ : Gh) h142 h143 := (R142.ow T142).stRq hp hr_142 (r := { (A18x5 W d no p) with done := true }) hd9 d143 t143 rfl rfl rfl
    clear hd9
    refine Q3 _ rfl rfl rfl kr kr (e143) ?_
    obtain ⟨S143, C143, ro143, R143, Y143⟩ := N143
    have X143 := ((X142).ow T142).trans Y143
    have hr_143 := (Y143.keep _ hr_142).1
    have mZ6_134_135_136_137_142_143 : ¬ (Gh.mut ⟨Gh.B (A18x3 G d va133 vc133), S143, C143, ro143⟩) (h.next) /\ ¬ (Gh.ro ⟨Gh.B (A18x3 G d va133 vc133), S143, C143, ro143⟩) (h.next) := ⟨fun hm => (Y143.mu _ hm).elim mZ6_134_135_136_137_142.1 (fun e => by have := c132.lt; omega), fun hm => (Y143.ron _ hm).elim mZ6_134_135_136_137_142.2 (fun e => by have := c132.lt; omega)⟩
    have m138_142_143 : ¬ (Gh.mut ⟨Gh.B (A18x3 G d va133 vc133), S143, C143, ro143⟩) (h137.next) /\ ¬ (Gh.ro ⟨Gh.B (A18x3 G d va133 vc133), S143, C143, ro143⟩) (h137.next) := ⟨fun hm => (Y143.mu _ hm).elim m138_142.1 (fun e => by have := c138.lt; omega), fun hm => (Y143.ron _ hm).elim m138_142.2 (fun e => by have := c138.lt; omega)⟩
    have T143 : Sm (Ow h (⟨Gh.B (A18x3 G d va133 vc133), S143, C143, ro143⟩ : Gh)) h143 h143 := .refl
    simp only [Wd.setRq_at, Wd.setRq_setRq] at R143
    refine q5 ⟨rfl, ?_⟩
    refine D_l (l := []) kr kr z4 (z5 ?_)
    repeat with_reducible refine Q9 ?_
    refine z0 (v := .tuple ⟨[]⟩) (.inr rfl) kr ?_
    exact ⟨_, _, _, (R143.ow T143), ((X143).ow T143)⟩
   ·
    rename_i hpeer
    have hpeer : ¬ (W.rq p no).peer = -2 := hpeer
    have hsm9 : ((A18x1 W d no p).rq p no).small := by rw [Wd.setRq_at]; exact hsm
    refine q6 (z9 _ rfl rfl kr (c132.ld (o := 0) kr rfl) (L_g 2 kr (z9 _ rfl rfl kr ((cz.sm T139 (fun hx => hx.2.1 ⟨.rq p no, hr_137, rfl⟩)).ld (o := 1) kr rfl) (L_i ((W.rq p no).peer) (-2) (.bool false) rfl rfl kr kr rfl (by simp; omega) (L_g 1 kr (q5 (Q2 kr (q7 ?_))))))))
    split at he
    ·
     rename_i i hf
     have hf9 : ((A18x1 W d no p).pr p).msgs.findIdx? (fun m => ((A18x1 W d no p).rq p no).fits m.en) = some i := by rw [Wd.setRq_at]; exact hf
     obtain ⟨x, hx⟩ : ∃ x, (W.pr p).msgs[i]? = some x := ⟨_, List.getElem?_eq_getElem (xw1 hf)⟩
     rw [List.getD_eq_getElem?_getD, hx, Option.getD_some] at he
     refine Z3 3 kr (z9 _ rfl rfl kr ((R137.ow T139).wdL.ld (o := 1) kr rfl) (L_g 1 kr ?_))
     obtain ⟨b1, o1, i1, l1⟩ := (R137.ow T139).prsAt (P := Tryz.prog) (T := 61) (el := 64) kr kr kr hp
     refine Z8 _ rfl rfl kr kr (i1) (z9 _ rfl rfl kr (l1) (L_g 1 kr (q5 (q7 (q6 (L_g 4 kr ?_))))))
     refine L_c rfl rfl kr (uw7 (R137.ow T139) hp (pr := fun m => ((A18x1 W d no p).rq p no).fits m.en) hlm (fun _ _ => by kernel_rfl) (fun x v hv h' t => by
       obtain ⟨ty, u, rfl⟩ := hv.iface
       exact jk5 (e := x.en) ((R137.ow T139).ext t) hp hr_137 hsm9 ((c132.ext t))) hf9 hx) ?_
     rintro v144 h144 ⟨v9144, hv144, e144, N144⟩
     dsimp only at hv144 e144 N144
     subst e144
     obtain ⟨ty, u, rfl⟩ := hv144.iface
     obtain ⟨S144, C144, ro144, R144, Y144⟩ := N144
     have X144 := ((X137).ow T139).trans Y144
     have hr_144 := (Y144.keep _ hr_137).1
     have mZ6_134_135_136_137_144 : ¬ (Gh.mut ⟨Gh.B (A18x3 G d va133 vc133), S144, C144, ro144⟩) (h.next) /\ ¬ (Gh.ro ⟨Gh.B (A18x3 G d va133 vc133), S144, C144, ro144⟩) (h.next) := ⟨fun hm => (Y144.mu _ hm).elim mZ6_134_135_136_137.1 (fun e => by have := c132.lt; omega), fun hm => (Y144.ron _ hm).elim mZ6_134_135_136_137.2 (fun e => by have := c132.lt; omega)⟩
     replace c132 := c132.sm Y144.sm mZ6_134_135_136_137.1
     have m138_144 : ¬ (Gh.mut ⟨Gh.B (A18x3 G d va133 vc133), S144, C144, ro144⟩) (h137.next) /\ ¬ (Gh.ro ⟨Gh.B (A18x3 G d va133 vc133), S144, C144, ro144⟩) (h137.next) := ⟨fun hm => (Y144.mu _ hm).elim m138.1 (fun e => by have := c138.lt; omega), fun hm => (Y144.ron _ hm).elim m138.2 (fun e => by have := c138.lt; omega)⟩
     replace c138 := c138.sm Y144.sm m138.1
     have T144 : Sm (Ow h (⟨Gh.B (A18x3 G d va133 vc133), S144, C144, ro144⟩ : Gh)) h144 h144 := .refl
     have hv9 := hv144.mono (Gx.dr Y144 (R137.ow T139).op)
     refine L_g 3 kr ?_
     have m145 : ¬ (Gh.mut (⟨Gh.B (A18x3 G d va133 vc133), S144, C144, ro144⟩ : Gh)) h144.next /\ ¬ (Gh.ro (⟨Gh.B (A18x3 G d va133 vc133), S144, C144, ro144⟩ : Gh)) h144.next := ⟨(R144.ow T144).op.new (Nat.le_refl _), (R144.ow T144).op.newr (Nat.le_refl _)⟩
     refine L_nw (Al.cells [nv 0, nv 0, nv 0, nv 0, nv 0, .nilIface]) .ptr rfl rfl kr ?_
     have l145_t6 := c132.lt
     have l145_t8 := c138.lt
     have c145 : Cl (h144.push (Al.cells [nv 0, nv 0, nv 0, nv 0, nv 0, .nilIface]).obj) h144.next [nv 0, nv 0, nv 0, nv 0, nv 0, .nilIface] := Cl.new h144 _
     have t145 : Sm Nix h144 (h144.push (Al.cells [nv 0, nv 0, nv 0, nv 0, nv 0, .nilIface]).obj) := .push h144 _
     have n145 : (h144.push (Al.cells [nv 0, nv 0, nv 0, nv 0, nv 0, .nilIface]).obj).next = h144.next + 1 := rfl
     generalize h144.push (Al.cells [nv 0, nv 0, nv 0, nv 0, nv 0, .nilIface]).obj = h145 at c145 t145 n145 ⊢
     replace c132 := c132.ext t145
     replace c138 := c138.ext t145
     have T145 : Sm (Ow h (⟨Gh.B (A18x3 G d va133 vc133), S144, C144, ro144⟩ : Gh)) h144 h145 := T144.ext t145
     have N145 := T145.nx
     obtain ⟨h146, e146, d146, t146, n146⟩ := c145.sA 160 [nv x.en.src, nv x.en.ctx, nv x.en.tag, nv x.en.size, nv x.en.parts, .iface ty u]
     replace c132 := c132.sn t146
     replace c138 := c138.sn t146
     replace c145 := d146
     have T146 : Sm (Ow h (⟨Gh.B (A18x3 G d va133 vc133), S144, C144, ro144⟩ : Gh)) h144 h146 := T145.trans t146 (fun x hx => by have hx : x = h144.next := hx; subst hx; first | exact .inr (by omega) | exact .inl ⟨by omega, m145.1, m145.2⟩ | exact .inl rfl)
     have N146 := T146.nx
     refine Q3 _ rfl rfl rfl kr kr (e146) (L_g 1 kr (q5 (z1 1 kr (q5 (U7 kr (Z3 2 kr (z9 _ rfl rfl kr (c132.ld (o := 0) kr rfl) (z9 _ rfl rfl kr (Cl.allN (n := 6) c145 rfl kr) ?_))))))))
     refine L_c rfl rfl kr (yv6 (v := .iface ty u) (R144.ow T146) hp hr_144 (hv9.mono (fun _ _ z => z.ext3 T146)) he) ?_
     rintro v147 h147 N147
     dsimp only at N147
     obtain ⟨S147, C147, ro147, R147, Y147⟩ := N147
     have X147 := ((X144).ow T146).trans Y147
     have hr_147 := (Y147.keep _ hr_144).1
     have mZ6_134_135_136_137_144_147 : ¬ (Gh.mut ⟨Gh.B (A18x3 G d va133 vc133), S147, C147, ro147⟩) (h.next) /\ ¬ (Gh.ro ⟨Gh.B (A18x3 G d va133 vc133), S147, C147, ro147⟩) (h.next) := ⟨fun hm => (Y147.mu _ hm).elim mZ6_134_135_136_137_144.1 (fun e => by have := c132.lt; omega), fun hm => (Y147.ron _ hm).elim mZ6_134_135_136_137_144.2 (fun e => by have := c132.lt; omega)⟩
     have m138_144_147 : ¬ (Gh.mut ⟨Gh.B (A18x3 G d va133 vc133), S147, C147, ro147⟩) (h137.next) /\ ¬ (Gh.ro ⟨Gh.B (A18x3 G d va133 vc133), S147, C147, ro147⟩) (h137.next) := ⟨fun hm => (Y147.mu _ hm).elim m138_144.1 (fun e => by have := c138.lt; omega), fun hm => (Y147.ron _ hm).elim m138_144.2 (fun e => by have := c138.lt; omega)⟩
     have m145_147 : ¬ (Gh.mut ⟨Gh.B (A18x3 G d va133 vc133), S147, C147, ro147⟩) (h144.next) /\ ¬ (Gh.ro ⟨Gh.B (A18x3 G d va133 vc133), S147, C147, ro147⟩) (h144.next) := ⟨fun hm => (Y147.mu _ hm).elim m145.1 (fun e => by have := c145.lt; omega), fun hm => (Y147.ron _ hm).elim m145.2 (fun e => by have := c145.lt; omega)⟩
     have T147 : Sm (Ow h (⟨Gh.B (A18x3 G d va133 vc133), S147, C147, ro147⟩ : Gh)) h147 h147 := .refl
     refine q5 ?_
     repeat with_reducible refine Q9 ?_
     refine z0 (v := .tuple ⟨[]⟩) (.inr rfl) kr ?_
     exact ⟨_, _, _, (R147.ow T147), ((X147).ow T147)⟩
    ·
     rename_i hf
     have hf9 : ((A18x1 W d no p).pr p).msgs.findIdx? (fun m => ((A18x1 W d no p).rq p no).fits m.en) = none := by rw [Wd.setRq_at]; exact hf
     split at he
     rotate_right
     . cases he
     rename_i hlr
     obtain rfl := Option.some.inj he
     refine Z3 3 kr (z9 _ rfl rfl kr ((R137.ow T139).wdL.ld (o := 1) kr rfl) (L_g 1 kr ?_))
     obtain ⟨b1, o1, i1, l1⟩ := (R137.ow T139).prsAt (P := Tryz.prog) (T := 61) (el := 64) kr kr kr hp
     refine Z8 _ rfl rfl kr kr (i1) (z9 _ rfl rfl kr (l1) (L_g 1 kr (q5 (q7 (q6 (L_g 4 kr ?_))))))
     refine L_c rfl rfl kr (xq6 (R137.ow T139) hp (pr := fun m => ((A18x1 W d no p).rq p no).fits m.en) hlm (fun _ _ => by kernel_rfl) (fun x v hv h' t => by
       obtain ⟨ty, u, rfl⟩ := hv.iface
       exact jk5 (e := x.en) ((R137.ow T139).ext t) hp hr_137 hsm9 ((c132.ext t))) hf9) ?_
     rintro v148 h148 ⟨e148, t148⟩
     try dsimp only at e148 t148
     subst e148
     replace c132 := c132.ext t148
     replace c138 := c138.ext t148
     have T148 : Sm (Ow h (⟨Gh.B (A18x3 G d va133 vc133), S137, C137, ro137⟩ : Gh)) h137 h148 := T139.ext t148
     have N148 := T148.nx
     have M148 := t148.nx
     refine L_g 3 kr ?_
     have m149 : ¬ (Gh.mut (⟨Gh.B (A18x3 G d va133 vc133), S137, C137, ro137⟩ : Gh)) h148.next /\ ¬ (Gh.ro (⟨Gh.B (A18x3 G d va133 vc133), S137, C137, ro137⟩ : Gh)) h148.next := ⟨(R137.ow T148).op.new (Nat.le_refl _), (R137.ow T148).op.newr (Nat.le_refl _)⟩
     refine L_nw (Al.cells [nv 0, nv 0, nv 0, nv 0, nv 0, .nilIface]) .ptr rfl rfl kr ?_
     have l149_t6 := c132.lt
     have l149_t8 := c138.lt
     have c149 : Cl (h148.push (Al.cells [nv 0, nv 0, nv 0, nv 0, nv 0, .nilIface]).obj) h148.next [nv 0, nv 0, nv 0, nv 0, nv 0, .nilIface] := Cl.new h148 _
     have t149 : Sm Nix h148 (h148.push (Al.cells [nv 0, nv 0, nv 0, nv 0, nv 0, .nilIface]).obj) := .push h148 _
     have n149 : (h148.push (Al.cells [nv 0, nv 0, nv 0, nv 0, nv 0, .nilIface]).obj).next = h148.next + 1 := rfl
     generalize h148.push (Al.cells [nv 0, nv 0, nv 0, nv 0, nv 0, .nilIface]).obj = h149 at c149 t149 n149 ⊢
     replace c132 := c132.ext t149
     replace c138 := c138.ext t149
     have T149 : Sm (Ow h (⟨Gh.B (A18x3 G d va133 vc133), S137, C137, ro137⟩ : Gh)) h137 h149 := T148.ext t149
     have N149 := T149.nx
     obtain ⟨h150, e150, d150, t150, n150⟩ := c149.sA 160 [.int .i64 0, .int .i64 0, .int .i64 0, .int .i64 0, .int .i64 0, .nilIface]
     replace c132 := c132.sn t150
     replace c138 := c138.sn t150
     replace c149 := d150
     have T150 : Sm (Ow h (⟨Gh.B (A18x3 G d va133 vc133), S137, C137, ro137⟩ : Gh)) h137 h150 := T149.trans t150 (fun x hx => by have hx : x = h148.next := hx; subst hx; first | exact .inr (by omega) | exact .inl ⟨by omega, m149.1, m149.2⟩ | exact .inl rfl)
     have N150 := T150.nx
     refine Q3 _ rfl rfl rfl kr kr (e150) (L_g 1 kr (q5 (z1 1 kr (q5 (Q2 kr (u4 kr (D_e (e := 4) (l := [0,1,2,3]) (s' := []) kr kr rfl kr z4 (z2 3 kr (q9 _ rfl rfl kr kr kr (c132.ld (o := 0) kr rfl) ?_)))))))))
     refine z5 (L_c rfl rfl kr (Qq9 (R137.ow T150) hp hr_137 hlr) ?_)
     rintro v151 h151 N151
     dsimp only at N151
     obtain ⟨S151, C151, ro151, R151, Y151⟩ := N151
     have X151 := ((X137).ow T150).trans Y151
     have hr_151 := (Y151.keep _ hr_137).1
     have mZ6_134_135_136_137_151 : ¬ (Gh.mut ⟨Gh.B (A18x3 G d va133 vc133), S151, C151, ro151⟩) (h.next) /\ ¬ (Gh.ro ⟨Gh.B (A18x3 G d va133 vc133), S151, C151, ro151⟩) (h.next) := ⟨fun hm => (Y151.mu _ hm).elim mZ6_134_135_136_137.1 (fun e => by have := c132.lt; omega), fun hm => (Y151.ron _ hm).elim mZ6_134_135_136_137.2 (fun e => by have := c132.lt; omega)⟩
     have m138_151 : ¬ (Gh.mut ⟨Gh.B (A18x3 G d va133 vc133), S151, C151, ro151⟩) (h137.next) /\ ¬ (Gh.ro ⟨Gh.B (A18x3 G d va133 vc133), S151, C151, ro151⟩) (h137.next) := ⟨fun hm => (Y151.mu _ hm).elim m138.1 (fun e => by have := c138.lt; omega), fun hm => (Y151.ron _ hm).elim m138.2 (fun e => by have := c138.lt; omega)⟩
     have m149_151 : ¬ (Gh.mut ⟨Gh.B (A18x3 G d va133 vc133), S151, C151, ro151⟩) (h148.next) /\ ¬ (Gh.ro ⟨Gh.B (A18x3 G d va133 vc133), S151, C151, ro151⟩) (h148.next) := ⟨fun hm => (Y151.mu _ hm).elim m149.1 (fun e => by have := c149.lt; omega), fun hm => (Y151.ron _ hm).elim m149.2 (fun e => by have := c149.lt; omega)⟩
     have T151 : Sm (Ow h (⟨Gh.B (A18x3 G d va133 vc133), S151, C151, ro151⟩ : Gh)) h151 h151 := .refl
     refine q5 ⟨rfl, ?_⟩
     refine D_l (l := []) kr kr z4 (z5 ?_)
     repeat with_reducible refine Q9 ?_
     refine z0 (v := .tuple ⟨[]⟩) (.inr rfl) kr ?_
     exact ⟨_, _, _, (R151.ow T151), ((X151).ow T151)⟩
end
end Go.Proofs.YtjealfplbigphaaGreat
