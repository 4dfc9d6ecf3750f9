/- Worlds of the program and walks of its functions. -/
import Derived.Test.YtmehemeoaplepaaZl
import Derived.Test.YtmehemeoaplepaaZk
import Derived.Test.YtmehemeoaplepaaZj
namespace Go.Proofs.Ytmehemeoaplepaa
noncomputable section
open Go Go.X Go.Arm Go.Mt
theorem inc_int {x : Int} (h0 : -1000000000 < x) (h1 : x < 1000000000) : Value.int .i64 (IntKind.i64.wrap (x + 1)) = nv (x + 1) := by
 have : IntKind.i64.wrap (x + 1) = x + 1 := by rw [IntKind.wrap_i64]; omega
 rw [this]; rfl
theorem _root_.Go.Arm.Dr.ext {h h' : AH} {ro : Nat → Prop} {v : Value} {d : By} (H : Dr h ro v d) (s : Sm Nix h h') : Dr h' ro v d := ⟨H.1.ext s, H.2⟩
theorem find_lt {α : Type} {l : List α} {pr : α → Bool} {i : Nat} (h : l.findIdx? pr = some i) : i < l.length := by
 rw [List.findIdx?_eq_some_iff_getElem] at h
 exact h.1
theorem came_ok {W : Wd} {G : Gh} {h : AH} {p : Nat} {m : Ms} {W' : Wd} {v : Value} (R : Rep W G h) (hp : p < W.n) (hv : MsV h G.ro v m) (he : W.came p m = some W') :
   Arm.Calls Try.prog 90 [ptr (G.B .wd), nv (p : Int), .agg ⟨[nv m.en.src, nv m.en.ctx, nv m.en.tag, nv m.en.size, nv m.en.parts, v]⟩] h (fun r => Nxt W' G h r.2) := by
 obtain ⟨ty, u, rfl⟩ := hv.iface
 unfold Wd.came at he
 split at he
 · cases he
 · rename_i hc
   obtain ⟨hsm, hl⟩ := Classical.not_not.1 hc
   split at he
   · rename_i i hf
     obtain ⟨x, hx⟩ : ∃ x, (W.pr p).rcvs[i]? = some x := ⟨_, List.getElem?_eq_getElem (find_lt hf)⟩
     have hr := (R.rel.pr p hp).rcp x (List.mem_of_getElem? hx)
     rw [List.getD_eq_getElem?_getD, hx, Option.getD_some] at he
     refine Calls_W 35 Try.f90 ?_
     have T0 : Sm Nix h h := .refl
     refine W_seq (W_region ?_)
     have m75 : ¬ (Gh.mut G) h.next ∧ ¬ (Gh.ro G) h.next := ⟨(R.ext T0).op.new (Nat.le_refl _), (R.ext T0).op.newr (Nat.le_refl _)⟩
     refine L_nwc [nv m.en.src, nv m.en.ctx, nv m.en.tag, nv m.en.size, nv m.en.parts, .iface ty u] .ptr rfl rfl kr fun h75 c75 t75 n75 => ?_
     have T75 := T0.ext t75
     have N75 := T75.nx
     refine L_nil (W_sg 3 kr (L_ld _ rfl rfl kr ((R.ext T75).wdL.ld (o := 1) kr rfl) (L_g 1 kr ?_)))
     obtain ⟨b1, o1, i1, l1⟩ := (R.ext T75).prsAt (P := Try.prog) (T := 74) (el := 77) kr kr kr hp
     refine L_ix _ rfl rfl kr kr (i1) (L_ld _ rfl rfl kr (l1) (L_g 1 kr (L_nil (W_sg 4 kr (L_c rfl rfl kr (take_rq (R.ext T75) hp (pr := fun no => (W.rq p no).fits m.en) hl (fun _ _ => rfl) (fun x hx h' t => cm1_ok (e := m.en) ((R.ext T75).ext t) hp ((R.rel.pr p hp).rcp x hx) (hsm x hx) (c75.ext t)) hf hx) ?_)))))
     rintro v76 h76 ⟨e76, N76⟩
     dsimp only at e76 N76
     subst e76
     obtain ⟨S76, C76, ro76, R76, Y76⟩ := N76
     have X76 := ((Gx.refl).trans (Gx.of T75)).trans Y76
     have m75_76 : ¬ (Gh.mut ⟨Gh.B G, S76, C76, ro76⟩) (h.next) ∧ ¬ (Gh.ro ⟨Gh.B G, S76, C76, ro76⟩) (h.next) := ⟨fun hm => (Y76.mu _ hm).elim m75.1 (fun e => by have := c75.lt; omega), fun hm => (Y76.ron _ hm).elim m75.2 (fun e => by have := c75.lt; omega)⟩
     replace c75 := c75.sm Y76.sm m75.1
     have T76 : Sm (Ow h (⟨Gh.B G, S76, C76, ro76⟩ : Gh)) h76 h76 := .refl
     refine L_g 5 kr (L_nil (W_sg 1 kr (L_nil ?_)))
     refine W_cond true kr (fun _ => ?_) (fun e => by cases e)
     refine W_rg 3 kr (L_ld _ rfl rfl kr (Cl.allN (n := 6) c75 rfl kr) (L_c rfl rfl kr (match_ok (v := .iface ty u) (R76.ow T76) hp (((((X76).ow T76)).keep _ hr).1) (hv.mono ((((X76).ow T76)).dr R.op)) he) ?_))
     rintro v77 h77 N77
     dsimp only at N77
     obtain ⟨S77, C77, ro77, R77, Y77⟩ := N77
     have X77 := ((X76).ow T76).trans Y77
     have m75_76_77 : ¬ (Gh.mut ⟨Gh.B (⟨Gh.B G, S76, C76, ro76⟩ : Gh), S77, C77, ro77⟩) (h.next) ∧ ¬ (Gh.ro ⟨Gh.B (⟨Gh.B G, S76, C76, ro76⟩ : Gh), S77, C77, ro77⟩) (h.next) := ⟨fun hm => (Y77.mu _ hm).elim m75_76.1 (fun e => by have := c75.lt; omega), fun hm => (Y77.ron _ hm).elim m75_76.2 (fun e => by have := c75.lt; omega)⟩
     have T77 : Sm (Ow h (⟨Gh.B (⟨Gh.B G, S76, C76, ro76⟩ : Gh), S77, C77, ro77⟩ : Gh)) h77 h77 := .refl
     refine L_nil ?_
     repeat with_reducible refine blk_norm ?_
     refine done_of (v := .tuple ⟨[]⟩) (.inr rfl) kr ?_
     exact ⟨_, _, _, (R77.ow T77), ((X77).ow T77)⟩
   · rename_i hf
     split at he
     · rename_i hl2
       obtain rfl := Option.some.inj he
       refine Calls_W 35 Try.f90 ?_
       have T0 : Sm Nix h h := .refl
       refine W_seq (W_region ?_)
       have m78 : ¬ (Gh.mut G) h.next ∧ ¬ (Gh.ro G) h.next := ⟨(R.ext T0).op.new (Nat.le_refl _), (R.ext T0).op.newr (Nat.le_refl _)⟩
       refine L_nwc [nv m.en.src, nv m.en.ctx, nv m.en.tag, nv m.en.size, nv m.en.parts, .iface ty u] .ptr rfl rfl kr fun h78 c78 t78 n78 => ?_
       have T78 := T0.ext t78
       have N78 := T78.nx
       refine L_nil (W_sg 3 kr (L_ld _ rfl rfl kr ((R.ext T78).wdL.ld (o := 1) kr rfl) (L_g 1 kr ?_)))
       obtain ⟨b1, o1, i1, l1⟩ := (R.ext T78).prsAt (P := Try.prog) (T := 74) (el := 77) kr kr kr hp
       refine L_ix _ rfl rfl kr kr (i1) (L_ld _ rfl rfl kr (l1) (L_g 1 kr (L_nil (W_sg 4 kr (L_c rfl rfl kr (take_rq_no (R.ext T78) hp (pr := fun no => (W.rq p no).fits m.en) hl (fun _ _ => rfl) (fun x hx h' t => cm1_ok (e := m.en) ((R.ext T78).ext t) hp ((R.rel.pr p hp).rcp x hx) (hsm x hx) (c78.ext t)) hf) ?_)))))
       rintro v79 h79 ⟨e79, t79⟩
       try dsimp only at e79
       try dsimp only at t79
       subst e79
       replace c78 := c78.ext t79
       have T79 := T78.ext t79
       have N79 := T79.nx
       have M79 := t79.nx
       refine L_g 5 kr (L_nil (W_sg 1 kr (L_nil ?_)))
       refine W_cond false kr (fun e => by cases e) (fun _ => ?_)
       refine W_drawn kr (D_e (e := 4) (l := [0,1,2,3]) (s' := []) kr kr rfl kr Rk_nil (NS_b 3 kr (NS_ld _ rfl rfl kr kr kr (Cl.allN (n := 6) c78 rfl kr) (NS_nil (L_c rfl rfl kr (putq_ms (R.ext T79) hp (hv.mono ((((Gx.refl).trans (Gx.of T79))).dr R.op)) hl2) ?_)))))
       rintro v80 h80 N80
       dsimp only at N80
       obtain ⟨S80, C80, ro80, R80, Y80⟩ := N80
       have X80 := ((Gx.refl).trans (Gx.of T79)).trans Y80
       have m78_80 : ¬ (Gh.mut ⟨Gh.B G, S80, C80, ro80⟩) (h.next) ∧ ¬ (Gh.ro ⟨Gh.B G, S80, C80, ro80⟩) (h.next) := ⟨fun hm => (Y80.mu _ hm).elim m78.1 (fun e => by have := c78.lt; omega), fun hm => (Y80.ron _ hm).elim m78.2 (fun e => by have := c78.lt; omega)⟩
       have T80 : Sm (Ow h (⟨Gh.B G, S80, C80, ro80⟩ : Gh)) h80 h80 := .refl
       refine L_nil ⟨rfl, ?_⟩
       refine D_l (l := []) kr kr Rk_nil (NS_nil ?_)
       repeat with_reducible refine blk_norm ?_
       refine done_of (v := .tuple ⟨[]⟩) (.inr rfl) kr ?_
       exact ⟨_, _, _, (R80.ow T80), ((X80).ow T80)⟩
     · cases he
end
end Go.Proofs.Ytmehemeoaplepaa
namespace Go.Proofs.Ytmehemeoaplepaa
noncomputable section
open Go Go.X Go.Arm Go.Mt
theorem heager_ok {W : Wd} {G : Gh} {h : AH} {p : Nat} {f : Int} {e : En} {d : By} {W' : Wd} {da : Option Addr} {dc : Nat} (R : Rep W G h) (hp : p < W.n) (hd : Dr h G.ro (.slice da (List.map bv d).length dc) d) (he : W.came p (.eager e d) = some W') :
  Arm.Calls Try.prog 97 [.agg ⟨[nv e.src, nv e.ctx, nv e.tag, nv e.size, nv e.parts, .slice da (List.map bv d).length dc]⟩, ptr (G.B .wd), nv (p : Int), nv f] h (fun r => Nxt W' G h r.2) := by
 refine Calls_W 16 Try.f97 ?_
 have T0 : Sm Nix h h := .refl
 refine W_seq (W_region ?_)
 have m81 : ¬ (Gh.mut G) h.next ∧ ¬ (Gh.ro G) h.next := ⟨(R.ext T0).op.new (Nat.le_refl _), (R.ext T0).op.newr (Nat.le_refl _)⟩
 refine L_nwc [nv e.src, nv e.ctx, nv e.tag, nv e.size, nv e.parts, .slice da (List.map bv d).length dc] .ptr rfl rfl kr fun h81 c81 t81 n81 => ?_
 have T81 := T0.ext t81
 have N81 := T81.nx
 refine L_nil (W_rg 3 kr (L_ld _ rfl rfl kr (Cl.ldS (k := 5) (o := 0) c81 kr (by simp)) (L_ld _ rfl rfl kr (Cl.allN (n := 6) c81 rfl kr) (L_g 2 kr (L_c rfl rfl kr (came_ok (m := .eager e d) (v := .iface Tys.e (.agg ⟨[nv e.src, nv e.ctx, nv e.tag, nv e.size, nv e.parts, .slice da (List.map bv d).length dc]⟩)) (R.ext T81) hp ⟨_, Dr.ext hd (by first | exact T0 | assumption), rfl⟩ he) ?_)))))
 rintro v82 h82 N82
 dsimp only at N82
 obtain ⟨S82, C82, ro82, R82, Y82⟩ := N82
 have X82 := ((Gx.refl).trans (Gx.of T81)).trans Y82
 have m81_82 : ¬ (Gh.mut ⟨Gh.B G, S82, C82, ro82⟩) (h.next) ∧ ¬ (Gh.ro ⟨Gh.B G, S82, C82, ro82⟩) (h.next) := ⟨fun hm => (Y82.mu _ hm).elim m81.1 (fun e => by have := c81.lt; omega), fun hm => (Y82.ron _ hm).elim m81.2 (fun e => by have := c81.lt; omega)⟩
 have T82 : Sm (Ow h (⟨Gh.B G, S82, C82, ro82⟩ : Gh)) h82 h82 := .refl
 refine L_nil ?_
 repeat with_reducible refine blk_norm ?_
 refine done_of (v := .tuple ⟨[]⟩) (.inr rfl) kr ?_
 exact ⟨_, _, _, (R82.ow T82), ((X82).ow T82)⟩
theorem hask_ok {W : Wd} {G : Gh} {h : AH} {p : Nat} {f : Int} {e : En} {q : Int} {W' : Wd} (R : Rep W G h) (hp : p < W.n) (he : W.came p (.ask e q) = some W') :
  Arm.Calls Try.prog 89 [.agg ⟨[nv e.src, nv e.ctx, nv e.tag, nv e.size, nv e.parts, nv q]⟩, ptr (G.B .wd), nv (p : Int), nv f] h (fun r => Nxt W' G h r.2) := by
 refine Calls_W 16 Try.f89 ?_
 have T0 : Sm Nix h h := .refl
 refine W_seq (W_region ?_)
 have m83 : ¬ (Gh.mut G) h.next ∧ ¬ (Gh.ro G) h.next := ⟨(R.ext T0).op.new (Nat.le_refl _), (R.ext T0).op.newr (Nat.le_refl _)⟩
 refine L_nwc [nv e.src, nv e.ctx, nv e.tag, nv e.size, nv e.parts, nv q] .ptr rfl rfl kr fun h83 c83 t83 n83 => ?_
 have T83 := T0.ext t83
 have N83 := T83.nx
 refine L_nil (W_rg 3 kr (L_ld _ rfl rfl kr (Cl.ldS (k := 5) (o := 0) c83 kr (by simp)) (L_ld _ rfl rfl kr (Cl.allN (n := 6) c83 rfl kr) (L_g 2 kr (L_c rfl rfl kr (came_ok (m := .ask e q) (v := .iface Tys.a (.agg ⟨[nv e.src, nv e.ctx, nv e.tag, nv e.size, nv e.parts, nv q]⟩)) (R.ext T83) hp rfl he) ?_)))))
 rintro v84 h84 N84
 dsimp only at N84
 obtain ⟨S84, C84, ro84, R84, Y84⟩ := N84
 have X84 := ((Gx.refl).trans (Gx.of T83)).trans Y84
 have m83_84 : ¬ (Gh.mut ⟨Gh.B G, S84, C84, ro84⟩) (h.next) ∧ ¬ (Gh.ro ⟨Gh.B G, S84, C84, ro84⟩) (h.next) := ⟨fun hm => (Y84.mu _ hm).elim m83.1 (fun e => by have := c83.lt; omega), fun hm => (Y84.ron _ hm).elim m83.2 (fun e => by have := c83.lt; omega)⟩
 have T84 : Sm (Ow h (⟨Gh.B G, S84, C84, ro84⟩ : Gh)) h84 h84 := .refl
 refine L_nil ?_
 repeat with_reducible refine blk_norm ?_
 refine done_of (v := .tuple ⟨[]⟩) (.inr rfl) kr ?_
 exact ⟨_, _, _, (R84.ow T84), ((X84).ow T84)⟩
theorem hcredit_ok {W : Wd} {G : Gh} {h : AH} {p i : Nat} (R : Rep W G h) (hp : p < W.n) (hi : i < (W.pr p).crds.length) (h1 : ((W.pr p).crds.getD i 0) < big) (h0 : -(big : Int) < ((W.pr p).crds.getD i 0)) :
  Arm.Calls Try.prog 98 [.agg ⟨[]⟩, ptr (G.B .wd), nv (p : Int), nv (i : Int)] h (fun r => Nxt (W.setPr p { W.pr p with crds := (W.pr p).crds.set i (((W.pr p).crds.getD i 0) + 1) }) G h r.2) := by
 have h1 : ((W.pr p).crds.getD i 0) < 1000000000 := h1
 have h0 : -1000000000 < ((W.pr p).crds.getD i 0) := h0
 have hci : ((W.pr p).crds.map nv)[i]? = some (nv ((W.pr p).crds.getD i 0)) := by rw [List.getElem?_map, List.getElem?_eq_getElem hi, List.getD_eq_getElem?_getD, List.getElem?_eq_getElem hi]; rfl
 refine Calls_W 23 Try.f98 ?_
 have T0 : Sm Nix h h := .refl
 refine W_seq (W_region ?_)
 have m85 : ¬ (Gh.mut G) h.next ∧ ¬ (Gh.ro G) h.next := ⟨(R.ext T0).op.new (Nat.le_refl _), (R.ext T0).op.newr (Nat.le_refl _)⟩
 refine L_nwc [] .ptr rfl rfl kr fun h85 c85 t85 n85 => ?_
 have T85 := T0.ext t85
 have N85 := T85.nx
 refine L_nil (W_rg 3 kr (L_ld _ rfl rfl kr ((R.ext T85).wdL.ld (o := 1) kr rfl) (L_g 1 kr ?_)))
 obtain ⟨b1, o1, i1, l1⟩ := (R.ext T85).prsAt (P := Try.prog) (T := 74) (el := 77) kr kr kr hp
 refine L_ix _ rfl rfl kr kr (i1) (L_ld _ rfl rfl kr (l1) (L_g 2 kr (L_ld _ rfl rfl kr (((R.ext T85).prL hp).ld (o := 6) kr rfl) (L_g 1 kr ?_))))
 obtain ⟨pa, xa, i1, i2, i3, i4, i5⟩ := ((R.ext T85).crd hp).elem (P := Try.prog) (T := 29) (el := 3) kr kr kr hi .i64
 obtain rfl : xa = nv ((W.pr p).crds.getD i 0) := Option.some.inj (i2.symm.trans hci)
 refine L_ix _ rfl rfl kr kr (i1) (L_ld _ rfl rfl kr (i3) (L_i (((W.pr p).crds.getD i 0)) (1) (nv (((W.pr p).crds.getD i 0) + 1)) rfl rfl kr kr rfl (inc_int h0 h1) (L_ix _ rfl rfl kr kr (i1) ?_)))
 obtain ⟨h86, e86, w86, t86, n86⟩ := i5 (nv (((W.pr p).crds.getD i 0) + 1)) rfl rfl
 have N86 : Nxt (W.setPr p { W.pr p with crds := (W.pr p).crds.set i (((W.pr p).crds.getD i 0) + 1) }) G h85 h86 := (R.ext T85).setCrd hp (by rw [List.length_set, List.map_set]; exact w86) t86
 refine L_st _ rfl rfl rfl kr kr (e86) ?_
 obtain ⟨S86, C86, ro86, R86, Y86⟩ := N86
 have X86 := ((Gx.refl).trans (Gx.of T85)).trans Y86
 have m85_86 : ¬ (Gh.mut ⟨Gh.B G, S86, C86, ro86⟩) (h.next) ∧ ¬ (Gh.ro ⟨Gh.B G, S86, C86, ro86⟩) (h.next) := ⟨fun hm => (Y86.mu _ hm).elim m85.1 (fun e => by have := c85.lt; omega), fun hm => (Y86.ron _ hm).elim m85.2 (fun e => by have := c85.lt; omega)⟩
 have T86 : Sm (Ow h (⟨Gh.B G, S86, C86, ro86⟩ : Gh)) h86 h86 := .refl
 refine L_nil ?_
 repeat with_reducible refine blk_norm ?_
 refine done_of (v := .tuple ⟨[]⟩) (.inr rfl) kr ?_
 exact ⟨_, _, _, (R86.ow T86), ((X86).ow T86)⟩
end
end Go.Proofs.Ytmehemeoaplepaa
namespace Go.Arm
noncomputable section
open Go Go.X Go.Mt
variable [Tys]
section
variable {W W' : Wd} {G G0 : Gh} {h h0 h' : AH} {p no b : Nat} {x : Pr} {q : Nat → Rq}
omit [Tys] in
theorem Op.adopt (O : Op G h) (X : Gx G0 h0 G h) (r : Ro) {v : Value} {y : Th} (hy : y ≠ .no) (h1 : G.C r = .no ∨ b = G.B r) (A : At h ((G.put r b v y).V r) y) (hr : r ≠ .prs)
   (hv : ∀ c, vbx ((G.put r b v y).V r) = some c → h0.next ≤ c ∧ ¬ G.mut c ∧ ¬ G.ro c) (hf : ∀ p no, r = .pcs p no ∨ r = .snt p no → G0.C (.rq p no) = .no) : Op (G.put r b v y) h ∧ Gx G0 h0 (G.put r b v y) h := by
 have hmu : ∀ c, (G.put r b v y).mut c → G.mut c ∨ (h0.next ≤ c ∧ ¬ G.mut c ∧ ¬ G.ro c) := by
   rintro c ⟨r', h3, h4⟩
   by_cases e : r' = r
   · subst e; exact .inr (hv c h4)
   · rw [C_put e] at h3; rw [V_put e] at h4; exact .inl ⟨r', h3, h4⟩
 refine ⟨⟨fun r' => ?_, fun r' r'' c h3 h4 h5 h6 => ?_, fun c hc hr => ?_, O.rolt⟩, ⟨X.sm, fun c hc => ?_, X.ron, X.rok, fun r' hr' => ?_, ?_, fun p no h9 => ?_⟩⟩
 · by_cases e : r' = r
   · subst e; rw [C_at]; exact A
   · rw [V_put e, C_put e]; exact O.here r'
 · by_cases e : r' = r
   · by_cases e2 : r'' = r
     · rw [e, e2]
     · subst e
       rw [C_put e2] at h4; rw [V_put e2] at h6
       exact ((hv c h5).2.1 ⟨_, h4, h6⟩).elim
   · rw [C_put e] at h3; rw [V_put e] at h5
     by_cases e2 : r'' = r
     · subst e2
       exact ((hv c h6).2.1 ⟨_, h3, h5⟩).elim
     · rw [C_put e2] at h4; rw [V_put e2] at h6
       exact O.inj _ _ _ h3 h4 h5 h6
 · rcases hmu c hc with q | q
   · exact O.ro c q hr
   · exact q.2.2 hr
 · rcases hmu c hc with q | q
   · exact X.mu c q
   · exact .inr q.1
 · obtain ⟨k1, k2⟩ := X.keep r' hr'
   by_cases e : r' = r
   · subst e
     refine ⟨by rw [C_at]; exact hy, ?_⟩
     show ups G.B r' b r' = _
     rw [ups_at]
     rcases h1 with h1 | h1
     · exact (k1 h1).elim
     · rw [h1]; exact k2
   · refine ⟨by rw [C_put e]; exact k1, ?_⟩
     show ups G.B r b r' = _
     rw [ups_ne _ _ e]; exact k2
 · show ups G.S r v .prs = _
   rw [ups_ne _ _ (Ne.symm hr)]; exact X.prs
 · have key : ∀ r', r' = .pcs p no ∨ r' = .snt p no → ups G.S r v r' = G.S r' := fun r' h8 => by
     by_cases e : r' = r
     · subst e; exact (h9 (hf p no h8)).elim
     · rw [ups_ne _ _ e]
   exact ⟨(key _ (.inl rfl)).trans (X.fix p no h9).1, (key _ (.inr rfl)).trans (X.fix p no h9).2⟩
theorem RelP.nextX (P : RelP x q G h p) (k : Nat) (hk : x.next ≤ k) : RelP { x with next := k } q (G.putC (.pr p) (.cl (prC k G p))) h p :=
 ⟨ups_at _ _ _, P.rqs, P.rqp, P.exs, P.exp, P.inb, P.msg, P.rcv, P.rcp, P.crd, P.rq, P.pcs, P.snt, fun j hj => Nat.lt_of_lt_of_le (P.nxt j hj) hk⟩
theorem Rep.setNextF (R : Rep W G h) (hp : p < W.n) (k : Nat) (hk : (W.pr p).next ≤ k) (c : Cl h' (G.B (.pr p)) (prC k G p)) (t : Sm (fun c => c = G.B (.pr p)) h h') {no : Nat} (h0 : G.C (.rq p no) = .no) :
   ∃ S C ro, (Rep (W.setPr p { W.pr p with next := k }) ⟨G.B, S, C, ro⟩ h' ∧ Gx G h ⟨G.B, S, C, ro⟩ h') ∧ C (.rq p no) = .no := by
 obtain ⟨O, X⟩ := R.op.putC (.pr p) (x := .cl (prC k G p)) (by simp) (by rw [(R.rel.pr p hp).pr]; simp) t (fun c hc => by subst hc; rfl) ⟨_, rfl, c⟩
 refine ⟨_, _, _, ⟨⟨O, (R.rel.mono0 (X.dr R.op)).at (p := p) rfl rfl rfl (fun k hk => ⟨ups_ne _ _ hk, rfl⟩) (fun r' hr' => ⟨ups_ne _ _ (of_ne rfl hr'), rfl, rfl⟩) rfl rfl fun hp => ?_⟩, X⟩, ?_⟩
 · show RelP (ups W.pr p _ p) _ _ _ _
   rw [ups_at]
   exact ((R.rel.mono0 (X.dr R.op)).pr p hp).nextX k hk
 · exact (ups_ne _ _ (by simp)).trans h0
theorem Rep.fresh (R : Rep W G h) (hp : p < W.n) : G.C (.rq p (W.pr p).next) = .no := by
 by_cases e : G.C (.rq p (W.pr p).next) = .no
 · exact e
 · have := (R.rel.pr p hp).nxt _ e; omega
end
end
end Go.Arm
namespace Go.Arm
noncomputable section
open Go Go.X Go.Mt
variable [Tys]
section
variable {W W' : Wd} {G G' : Gh} {h h' : AH} {p no : Nat} {v : Value} {x : Pr} {q : Nat → Rq} {cs : List Value} {S : Nat → Prop}
theorem RelP.pcsX (P : RelP x q G h p) (h0 : G.C (.rq p no) ≠ .no) {l : List (Option By)} (H : Ls (RPc h G.ro) 1 l cs) : RelP x (ups q no { q no with pcs := l }) (G.putC (.pcs p no) (.ws l.length cs)) h p := by
 have hpr : ∀ k, (G.putC (.pcs p no) (.ws l.length cs)).C (.rq p k) = G.C (.rq p k) := fun k => (show ups G.C (.pcs p no) (.ws l.length cs) (.rq p k) = _ from ups_ne _ _ (by simp))
 refine ⟨P.pr, P.rqs, fun k hk => by rw [hpr]; exact P.rqp k hk, P.exs, fun e he => by rw [hpr]; exact P.exp e he, P.inb, P.msg, P.rcv, fun k hk => by rw [hpr]; exact P.rcp k hk, P.crd, fun k hk => ?_, fun k hk => ?_, fun k hk => ?_, fun k hk => P.nxt k (by rw [hpr] at hk; exact hk)⟩
 · rw [hpr] at hk
   obtain ⟨dv, a, b⟩ := P.rq k hk
   refine ⟨dv, ?_, ?_⟩
   · by_cases e : k = no
     · subst e; rw [ups_at]; exact a
     · rw [ups_ne _ _ e]; exact a
   · rw [hpr, b]
     by_cases e : k = no
     · subst e; rw [ups_at]; rfl
     · rw [ups_ne _ _ e]; rfl
 · rw [hpr] at hk
   by_cases e : k = no
   · subst e
     rw [ups_at]; exact ⟨cs, ups_at _ _ _, H⟩
   · rw [ups_ne _ _ e]
     obtain ⟨cs', a, b⟩ := P.pcs k hk
     exact ⟨cs', (ups_ne _ _ (by simpa using e)).trans a, b⟩
 · rw [hpr] at hk
   have e0 : (G.putC (.pcs p no) (.ws l.length cs)).C (.snt p k) = G.C (.snt p k) := (show ups G.C (.pcs p no) (.ws l.length cs) (.snt p k) = _ from ups_ne _ _ (by simp))
   rw [e0, P.snt k hk]
   by_cases e : k = no
   · subst e; rw [ups_at]
   · rw [ups_ne _ _ e]
theorem RelP.sntX (P : RelP x q G h p) (h0 : G.C (.rq p no) ≠ .no) {l : List Bool} : RelP x (ups q no { q no with sent := l }) (G.putC (.snt p no) (.ws l.length (l.map .bool))) h p := by
 have hpr : ∀ k, (G.putC (.snt p no) (.ws l.length (l.map Value.bool))).C (.rq p k) = G.C (.rq p k) := fun k => (show ups G.C (.snt p no) (.ws l.length (l.map Value.bool)) (.rq p k) = _ from ups_ne _ _ (by simp))
 refine ⟨P.pr, P.rqs, fun k hk => by rw [hpr]; exact P.rqp k hk, P.exs, fun e he => by rw [hpr]; exact P.exp e he, P.inb, P.msg, P.rcv, fun k hk => by rw [hpr]; exact P.rcp k hk, P.crd, fun k hk => ?_, fun k hk => ?_, fun k hk => ?_, fun k hk => P.nxt k (by rw [hpr] at hk; exact hk)⟩
 · rw [hpr] at hk
   obtain ⟨dv, a, b⟩ := P.rq k hk
   refine ⟨dv, ?_, ?_⟩
   · by_cases e : k = no
     · subst e; rw [ups_at]; exact a
     · rw [ups_ne _ _ e]; exact a
   · rw [hpr, b]
     by_cases e : k = no
     · subst e; rw [ups_at]; rfl
     · rw [ups_ne _ _ e]; rfl
 · rw [hpr] at hk
   obtain ⟨cs', a, b⟩ := P.pcs k hk
   refine ⟨cs', ?_, ?_⟩
   · have e0 : (G.putC (.snt p no) (.ws l.length (l.map Value.bool))).C (.pcs p k) = G.C (.pcs p k) := (show ups G.C (.snt p no) (.ws l.length (l.map Value.bool)) (.pcs p k) = _ from ups_ne _ _ (by simp))
     rw [e0, a]
     by_cases e : k = no
     · subst e; rw [ups_at]
     · rw [ups_ne _ _ e]
   · by_cases e : k = no
     · subst e; rw [ups_at]; exact b
     · rw [ups_ne _ _ e]; exact b
 · rw [hpr] at hk
   by_cases e : k = no
   · subst e
     rw [ups_at]; exact ups_at _ _ _
   · rw [ups_ne _ _ e]
     exact (ups_ne _ _ (by simpa using e)).trans (P.snt k hk)
theorem Rep.pcs (R : Rep W G h) (hp : p < W.n) (hr : G.C (.rq p no) ≠ .no) : ∃ cs, Ws h 1 (G.S (.pcs p no)) (W.rq p no).pcs.length cs ∧ Ls (RPc h G.ro) 1 (W.rq p no).pcs cs ∧ G.C (.pcs p no) ≠ .no := by
 obtain ⟨cs, a, b⟩ := (R.rel.pr p hp).pcs no hr
 have := R.op.here (.pcs p no)
 rw [a] at this
 exact ⟨cs, this, b, by rw [a]; simp⟩
theorem Rep.snt (R : Rep W G h) (hp : p < W.n) (hr : G.C (.rq p no) ≠ .no) : Ws h 1 (G.S (.snt p no)) (W.rq p no).sent.length ((W.rq p no).sent.map .bool) ∧ G.C (.snt p no) ≠ .no := by
 have a := (R.rel.pr p hp).snt no hr
 have := R.op.here (.snt p no)
 rw [a] at this
 exact ⟨this, by rw [a]; simp⟩
theorem Rep.setPcs (R : Rep W G h) (hp : p < W.n) (hr : G.C (.rq p no) ≠ .no) {l : List (Option By)} (H : Ls (RPc h' G.ro) 1 l cs) (A : Ws h' 1 (G.S (.pcs p no)) l.length cs) (s : Sm (fun b => vb (G.S (.pcs p no)) = some b) h h') : Nxt (W.setRq p no { W.rq p no with pcs := l }) G h h' := by
 obtain ⟨cs0, _, _, h0⟩ := R.pcs hp hr
 obtain ⟨O, X⟩ := R.op.putC (.pcs p no) (x := .ws l.length cs) (by simp) h0 s (fun c hc => vb_vbx hc) A
 have hd := X.dr R.op
 refine ⟨_, _, _, ⟨O, (R.rel.mono0 hd).at (p := p) rfl rfl rfl (fun k hk => ⟨rfl, ups_ne _ _ hk⟩) (fun r hr => ⟨ups_ne _ _ (of_ne (by simp [Ro.of]) hr), rfl, rfl⟩) rfl rfl fun hp => ?_⟩, X⟩
 show RelP (W.pr p) (ups W.rq p (ups (W.rq p) no { W.rq p no with pcs := l }) p) _ _ _
 rw [ups_at]
 exact ((R.rel.mono0 hd).pr p hp).pcsX hr H
theorem Rep.setSnt (R : Rep W G h) (hp : p < W.n) (hr : G.C (.rq p no) ≠ .no) {l : List Bool} (A : Ws h' 1 (G.S (.snt p no)) l.length (l.map .bool)) (s : Sm (fun b => vb (G.S (.snt p no)) = some b) h h') : Nxt (W.setRq p no { W.rq p no with sent := l }) G h h' := by
 obtain ⟨_, h0⟩ := R.snt hp hr
 obtain ⟨O, X⟩ := R.op.putC (.snt p no) (x := .ws l.length (l.map .bool)) (by simp) h0 s (fun c hc => vb_vbx hc) A
 have hd := X.dr R.op
 refine ⟨_, _, _, ⟨O, (R.rel.mono0 hd).at (p := p) rfl rfl rfl (fun k hk => ⟨rfl, ups_ne _ _ hk⟩) (fun r hr => ⟨ups_ne _ _ (of_ne (by simp [Ro.of]) hr), rfl, rfl⟩) rfl rfl fun hp => ?_⟩, X⟩
 show RelP (W.pr p) (ups W.rq p (ups (W.rq p) no { W.rq p no with sent := l }) p) _ _ _
 rw [ups_at]
 exact ((R.rel.mono0 hd).pr p hp).sntX hr
end
end
end Go.Arm
namespace Go.Arm
noncomputable section
open Go Go.X Go.Mt
variable [Tys]
section
variable {W W' : Wd} {G G0 : Gh} {h h0 h' : AH} {p no b : Nat} {x : Pr} {q : Nat → Rq}
omit [Tys] in
theorem mut_put {r : Ro} {v : Value} {y : Th} {d : Nat} (hm : (G.put r b v y).mut d) : G.mut d ∨ vbx ((G.put r b v y).V r) = some d := by
 obtain ⟨r', h3, h4⟩ := hm
 by_cases e : r' = r
 · subst e; exact .inr h4
 · rw [C_put e] at h3; rw [V_put e] at h4; exact .inl ⟨r', h3, h4⟩
omit [Tys] in
theorem mut_putB {r : Ro} {y : Th} {d : Nat} (hm : (G.putB r b y).mut d) : G.mut d ∨ vbx ((G.putB r b y).V r) = some d := by
 rw [← put_B] at hm ⊢; exact mut_put hm
omit [Tys] in
theorem mut_putS {r : Ro} {v : Value} {y : Th} {d : Nat} (hm : (G.putS r v y).mut d) : G.mut d ∨ vbx ((G.putS r v y).V r) = some d := by
 rw [← put_S] at hm ⊢; exact mut_put hm
theorem Rep.adoptP (R : Rep W G h) (X : Gx G0 h0 G h) (hp : p < W.n) (hn : no < (W.pr p).next) (h1 : G.C (.rq p no) = .no) (hb : h0.next ≤ b ∧ ¬ G.mut b ∧ ¬ G.ro b) {r : Rq} {dv : Value} (hd : Dr h G.ro dv r.data) {vp vs : Value} {csP : List Value} (HP : Ls (RPc h G.ro) 1 r.pcs csP) (AP : Ws h 1 vp r.pcs.length csP) (AS : Ws h 1 vs r.sent.length (r.sent.map .bool)) (hbp : ∀ d, vbx vp = some d → h0.next ≤ d ∧ ¬ G.mut d ∧ ¬ G.ro d ∧ d ≠ b) (hbs : ∀ d, vbx vs = some d → h0.next ≤ d ∧ ¬ G.mut d ∧ ¬ G.ro d ∧ d ≠ b ∧ vbx vp ≠ some d)
   (c : Cl h b [nk r.no, nv r.peer, nv r.ctx, nv r.tag, nv r.room, .bool r.send, .bool r.sync, .bool r.pers, .bool r.act, .bool r.done, nk r.parts, nk r.size, dv, vp, nk r.gone, vs, .bool r.clr, nv r.st.src, nv r.st.tag, nv r.st.size, nv r.st.err]) :
   ∃ C, Rep (W.setRq p no r) ⟨ups G.B (.rq p no) b, ups (ups G.S (.pcs p no) vp) (.snt p no) vs, C, G.ro⟩ h ∧ Gx G0 h0 ⟨ups G.B (.rq p no) b, ups (ups G.S (.pcs p no) vp) (.snt p no) vs, C, G.ro⟩ h ∧ C (.rq p no) ≠ .no := by
 have hg0 : G0.C (.rq p no) = .no := Classical.byContradiction fun e => (X.keep _ e).1 h1
 obtain ⟨O1, X1⟩ := R.op.adopt X (.rq p no) (b := b) (v := G.S (.rq p no)) (y := .cl [nk r.no, nv r.peer, nv r.ctx, nv r.tag, nv r.room, .bool r.send, .bool r.sync, .bool r.pers, .bool r.act, .bool r.done, nk r.parts, nk r.size, dv, vp, nk r.gone, vs, .bool r.clr, nv r.st.src, nv r.st.tag, nv r.st.size, nv r.st.err]) (by simp) (.inl h1)
   ⟨b, congrArg ptr (ups_at G.B (.rq p no) b), c⟩ (by simp) (fun d hd => by
     have : vbx (ptr (ups G.B (.rq p no) b (.rq p no))) = some d := hd
     rw [ups_at] at this
     cases this; exact hb) (fun _ _ e => by rcases e with e | e <;> cases e)
 rw [put_B] at O1 X1
 have m1 : ∀ y d, (G.putB (.rq p no) b y).mut d → G.mut d ∨ d = b := fun y d hm => (mut_putB hm).imp id fun e => by
   have e : vbx (ptr (ups G.B (.rq p no) b (.rq p no))) = some d := e
   rw [ups_at] at e
   exact (Option.some.inj e).symm
 obtain ⟨O2, X2⟩ := O1.adopt X1 (.pcs p no) (b := (G.putB (.rq p no) b _).B (.pcs p no)) (v := vp) (y := .ws r.pcs.length csP) (by simp) (.inr rfl) (by
     rw [put_S]
     show Ws h 1 (ups _ _ _ _) _ _
     rw [ups_at]; exact AP) (by simp) (fun d hd => by
     rw [put_S] at hd
     have : vbx (ups (G.putB (.rq p no) b _).S (.pcs p no) vp (.pcs p no)) = some d := hd
     rw [ups_at] at this
     obtain ⟨a1, a2, a3, a4⟩ := hbp d this
     exact ⟨a1, fun hm => (m1 _ d hm).elim a2 a4, a3⟩) (fun p' no' e => by rcases e with e | e <;> cases e; exact hg0)
 rw [put_S] at O2 X2
 obtain ⟨O3, X3⟩ := O2.adopt X2 (.snt p no) (b := (Gh.putS (G.putB (.rq p no) b _) (.pcs p no) vp _).B (.snt p no)) (v := vs) (y := .ws r.sent.length (r.sent.map .bool)) (by simp) (.inr rfl) (by
     rw [put_S]
     show Ws h 1 (ups _ _ _ _) _ _
     rw [ups_at]; exact AS) (by simp) (fun d hd => by
     rw [put_S] at hd
     have : vbx (ups (Gh.putS (G.putB (.rq p no) b _) (.pcs p no) vp _).S (.snt p no) vs (.snt p no)) = some d := hd
     rw [ups_at] at this
     obtain ⟨a1, a2, a3, a4, a5⟩ := hbs d this
     exact ⟨a1, fun hm => (mut_putS hm).elim (fun hm => (m1 _ d hm).elim a2 a4) (fun e => a5 (by
       have e : vbx (ups (G.putB (.rq p no) b _).S (.pcs p no) vp (.pcs p no)) = some d := e
       rw [ups_at] at e; exact e)), a3⟩) (fun p' no' e => by rcases e with e | e <;> cases e; exact hg0)
 rw [put_S] at O3 X3
 refine ⟨_, ⟨O3, ?_⟩, X3, ?_⟩
 · have hat : ∀ k, k ≠ no → (Ro.rq p k) ≠ .rq p no := fun k e => by simpa using e
   have hpr : ∀ k, G.C (.rq p k) ≠ .no → k ≠ no := fun k hk e => hk (by rw [e]; exact h1)
   refine ⟨R.rel.wd, ?_, R.rel.ways, R.rel.way, fun k hk => ?_⟩
   · exact R.rel.prs
   · by_cases e : k = p
     · subst e
       have P := R.rel.pr k hk
       show RelP (W.pr k) (ups W.rq k (ups (W.rq k) no r) k) _ h k
       rw [ups_at]
       refine ⟨P.pr, ?_, fun j hj => ?_, ?_, fun e he => ?_, P.inb, P.msg, ?_, fun j hj => ?_, P.crd, fun j hj => ?_, fun j hj => ?_, fun j hj => ?_, fun j hj => ?_⟩
       · refine P.rqs.trans (congrArg Th.mi (List.map_congr_left fun j hj => ?_))
         show _ = ((j : Int), ptr (ups G.B (.rq k no) b (.rq k j)))
         rw [ups_ne _ _ (hat j (hpr j (P.rqp j hj)))]
       · show ups G.C (.rq k no) _ (.rq k j) ≠ _
         rw [ups_ne _ _ (hat j (hpr j (P.rqp j hj)))]; exact P.rqp j hj
       · refine P.exs.trans (congrArg Th.mp (List.map_congr_left fun e he => ?_))
         show _ = (e.1, ptr (ups G.B (.rq k no) b (.rq k e.2)))
         rw [ups_ne _ _ (hat e.2 (hpr e.2 (P.exp e he)))]
       · show ups G.C (.rq k no) _ (.rq k e.2) ≠ _
         rw [ups_ne _ _ (hat e.2 (hpr e.2 (P.exp e he)))]; exact P.exp e he
       · refine P.rcv.trans (congrArg (Th.gr 1 _) (List.map_congr_left fun j hj => ?_))
         show _ = ptr (ups G.B (.rq k no) b (.rq k j))
         rw [ups_ne _ _ (hat j (hpr j (P.rcp j hj)))]
       · show ups G.C (.rq k no) _ (.rq k j) ≠ _
         rw [ups_ne _ _ (hat j (hpr j (P.rcp j hj)))]; exact P.rcp j hj
       · by_cases ej : j = no
         · subst ej
           refine ⟨dv, by rw [ups_at]; exact hd, ?_⟩
           rw [ups_at]
           refine (ups_at G.C (.rq k j) _).trans ?_
           unfold rqC
           congr 1
           simp [ups]
         · have hj2 : G.C (.rq k j) ≠ .no := by
            have : ups G.C (.rq k no) _ (.rq k j) ≠ .no := hj
            rwa [ups_ne _ _ (hat j ej)] at this
           obtain ⟨dv', a1, a2⟩ := P.rq j hj2
           refine ⟨dv', by rw [ups_ne _ _ ej]; exact a1, ?_⟩
           rw [ups_ne _ _ ej]
           refine (ups_ne G.C _ (hat j ej)).trans (a2.trans ?_)
           unfold rqC
           congr 1
           simp [ups, ej]
       · by_cases ej : j = no
         · subst ej
           rw [ups_at]
           exact ⟨csP, by exact ups_at _ (Ro.pcs k j) (Th.ws r.pcs.length csP), HP⟩
         · have hj2 : G.C (.rq k j) ≠ .no := by
            have : ups G.C (.rq k no) _ (.rq k j) ≠ .no := hj
            rwa [ups_ne _ _ (hat j ej)] at this
           rw [ups_ne _ _ ej]
           obtain ⟨cs, a1, a2⟩ := P.pcs j hj2
           exact ⟨cs, (ups_ne (Gh.C (G.putB (.rq k no) b _)) (Th.ws r.pcs.length csP) (show Ro.pcs k j ≠ Ro.pcs k no by simpa using ej)).trans a1, a2⟩
       · by_cases ej : j = no
         · subst ej
           rw [ups_at]
           exact ups_at _ (Ro.snt k j) _
         · have hj2 : G.C (.rq k j) ≠ .no := by
            have : ups G.C (.rq k no) _ (.rq k j) ≠ .no := hj
            rwa [ups_ne _ _ (hat j ej)] at this
           rw [ups_ne _ _ ej]
           exact (ups_ne _ _ (by simpa using ej)).trans (P.snt j hj2)
       · by_cases ej : j = no
         · rw [ej]; exact hn
         · have hj2 : G.C (.rq k j) ≠ .no := by
            have : ups G.C (.rq k no) _ (.rq k j) ≠ .no := hj
            rwa [ups_ne _ _ (hat j ej)] at this
           exact P.nxt j hj2
     · show RelP (W.pr k) (ups W.rq p (ups (W.rq p) no r) k) _ h k
       rw [ups_ne _ _ e]
       refine (R.rel.pr k hk).congr (fun r' hr' => ⟨?_, ?_, ?_⟩) rfl
       · show ups (ups (ups G.C (.rq p no) _) (.pcs p no) _) (.snt p no) _ r' = _
         have hne : ∀ r'', r''.of = some p → r' ≠ r'' := fun r'' h5 e2 => e (by rw [e2, h5] at hr'; exact (Option.some.inj hr').symm)
         rw [ups_ne _ _ (hne _ rfl), ups_ne _ _ (hne _ rfl), ups_ne _ _ (hne _ rfl)]
       · show ups (ups G.S (.pcs p no) _) (.snt p no) _ r' = _
         have hne : ∀ r'', r''.of = some p → r' ≠ r'' := fun r'' h5 e2 => e (by rw [e2, h5] at hr'; exact (Option.some.inj hr').symm)
         rw [ups_ne _ _ (hne _ rfl), ups_ne _ _ (hne _ rfl)]
       · show ups G.B (.rq p no) _ r' = _
         have hne : ∀ r'', r''.of = some p → r' ≠ r'' := fun r'' h5 e2 => e (by rw [e2, h5] at hr'; exact (Option.some.inj hr').symm)
         rw [ups_ne _ _ (hne _ rfl)]
 · show ups (ups (ups G.C (.rq p no) _) (.pcs p no) _) (.snt p no) _ (.rq p no) ≠ _
   rw [ups_ne _ _ (by simp), ups_ne _ _ (by simp), ups_at]; simp
end
end
end Go.Arm


namespace Go.Arm
noncomputable section
open Go Go.X
section
variable {P : Program} {n : Nat} {T el : TypeId}
theorem ev_mkK {f : Fr} {x y : Operand} {m by_ k : Nat} {z : Value} (hT : P.underlying T = some (.slice el)) (hs : szOf P el = some k) (hb : byOf P el = some by_) (hz : zeroOf P el = some z) (hzl : (cellsL z).length = k) (hm : m * (by_ + 1) < 1099511627776)
  (hx : ev n f x = some (.int .i64 (m : Nat))) (hy : ev n f y = some (.int .i64 (m : Nat))) : evAl P n f (.makeSlice T x y) = some (.cells (zrep m (cellsL z)), .sl m m) := by
 have hm2 : m < 1099511627776 := by
  have : m * 1 ≤ m * (by_ + 1) := Nat.mul_le_mul_left _ (by omega)
  omega
 have e0 : evAl0 P n f (.makeSlice T x y) = some (.cells (zrep m (cellsL z)), .sl m m) := by
  unfold evAl0
  simp only [hx, hy, hT, hs, hb, hz]
  rw [if_pos ⟨by omega, by omega, by
   have h9 : ((m * (by_ + 1) : Nat) : Int) < ((1099511627776 : Nat) : Int) := Int.ofNat_lt.2 hm
   rw [Int.natCast_mul, Int.natCast_add] at h9
   exact h9, hzl⟩]
  simp only [Int.toNat_natCast]
 unfold evAl
 rw [e0]
 dsimp only
 rw [if_pos]
 show decide (m < open_) = true
 rw [decide_eq_true_eq]
 have : 1099511627776 < open_ := by decide
 omega
end
end
end Go.Arm
namespace Go.Arm
noncomputable section
open Go Go.X
section
variable {P : Program} {h : AH} {b n k : Nat} {T el : TypeId} {x y : Value}
theorem bnd_nat' (i d : Nat) : bnd (some (.int .i64 (i : Nat))) d = some i := by unfold bnd; simp
theorem slk_lo (hT : P.underlying T = some (.slice el)) (hk : szOf P el = some 1) (hkn : k < n) (hn : n < open_) : aSl P T (.slice (some ⟨b, 0, none⟩) n n) (some (.int .i64 (k : Nat))) none none h = some (.slice (some ⟨b, k, none⟩) (n - k) (n - k)) := by
 have : aSlice P T (.slice (some ⟨b, 0, none⟩) n n) (some (.int .i64 (k : Nat))) none none h = some (.slice (some ⟨b, k, none⟩) (n - k) (n - k)) := by
  unfold aSlice
  rw [if_pos (show mxOk none none = true from rfl)]
  simp only [hT, hk]
  rw [if_neg (by omega)]
  have e1 : bnd none n = some n := rfl
  simp only [e1, bnd_nat']
  rw [if_pos ⟨by omega, by omega, by omega, hn⟩, if_neg (by omega)]
  simp
 unfold aSl; rw [this]
theorem slk_hi (hT : P.underlying T = some (.slice el)) (hk : szOf P el = some 1) (hkn : k ≤ n) (h0 : 0 < n) (hn : n < open_) : aSl P T (.slice (some ⟨b, 0, none⟩) n n) none (some (.int .i64 (k : Nat))) none h = some (.slice (some ⟨b, 0, none⟩) k n) := by
 have : aSlice P T (.slice (some ⟨b, 0, none⟩) n n) none (some (.int .i64 (k : Nat))) none h = some (.slice (some ⟨b, 0, none⟩) k n) := by
  unfold aSlice
  rw [if_pos (show mxOk _ _ = true from rfl)]
  simp only [hT, hk]
  rw [if_neg (by omega)]
  have e1 : bnd none n = some n := rfl
  have e2 : bnd none 0 = some 0 := rfl
  simp only [e1, e2, bnd_nat']
  rw [if_pos ⟨by omega, by omega, by omega, hn⟩, if_neg (by omega)]
  simp
 unfold aSl; rw [this]
def row2 (x y : Value) (k n : Nat) : List Value := List.replicate k x ++ List.replicate (n - k) y
theorem row2_len (hk : k ≤ n) : (row2 x y k n).length = n := by unfold row2; simp; omega
theorem copy_row {o m : Nat} (hT : P.underlying T = some (.slice el)) (hz : szOf P el = some 1) {u : Value} {s : Nat} {dc : Nat} (hc : Cl h b (row2 x y k n)) (hk : k ≤ n) (hx : x.oneCell' = true) (hl : X.lenV u = some s) (hf : aFirst 1 (min s (n - o)) u h = some (List.replicate m x)) (hm : m = min s (n - o)) (ho : o ≤ k) (hon : o < n) (hs : 0 < s) (hkm : o + m ≥ k) (hdc : dc ≠ 0) :
   ∃ h', aCopy P T (.slice (some ⟨b, o, none⟩) (n - o) dc) u h = some (.int .i64 (m : Nat), h') ∧ Cl h' b (row2 x y (o + m) n) ∧ Sm (fun q => q = b) h h' ∧ h'.next = h.next := by
 obtain ⟨h2, e1, c1, s1, n1⟩ := Cl.setcs (o := o) (vs := List.replicate m x) (i := 0) hc (by rw [row2_len hk]; simp; omega) (fun v hv => by rw [(List.mem_replicate.1 hv).2]; exact hx)
 refine ⟨h2, ?_, ?_, s1, n1⟩
 · unfold aCopy
   simp only [hT, hl, hz, Option.getD_some, hf]
   rw [if_neg (by omega), if_neg (by omega), e1, hm]
 · have : row2 x y (o + m) n = (row2 x y k n).take (o + 0) ++ List.replicate m x ++ (row2 x y k n).drop (o + 0 + (List.replicate m x).length) := by
    unfold row2
    rw [Nat.add_zero, List.length_replicate, List.take_append_of_le_length (by simp; omega), List.take_replicate, Nat.min_eq_left ho, List.drop_append, List.length_replicate, List.drop_replicate, List.drop_replicate, show k - (o + m) = 0 by omega, ← List.replicate_append_replicate]
    simp
    omega
   rw [this]; exact c1
theorem first_row (hc : Cl h b (row2 x y k n)) (hk : k ≤ n) {m c : Nat} (hm : m ≤ k) (hc0 : c ≠ 0) : aFirst 1 m (.slice (some ⟨b, 0, none⟩) k c) h = some (List.replicate m x) := by
 by_cases h0 : m = 0
 · subst h0; simp [aFirst]
 · have hcl := hc.cells (o := 0) m 0 (by rw [row2_len hk]; omega)
   have ht : ((row2 x y k n).drop (0 + 0)).take m = List.replicate m x := by
    unfold row2
    rw [List.drop_zero, List.take_append_of_le_length (by simp; omega), List.take_replicate, Nat.min_eq_left hm]
   rw [ht] at hcl
   unfold aFirst
   dsimp only
   rw [if_neg h0, if_neg (by omega), Nat.mul_one]
   exact hcl
theorem zrep_row (n : Nat) (y : Value) : zrep n [y] = row2 x y 0 n := by
 unfold row2
 rw [List.replicate_zero, List.nil_append, Nat.sub_zero]
 induction n with
 | zero => rfl
 | succ n ih => rw [List.replicate_succ, ← ih]; rfl
end
end
end Go.Arm

namespace Go.Arm
noncomputable section
open Go Go.X
variable {P : Program} {h h' : AH} {S : Nat → Prop} {T el : TypeId}
def Gb (h : AH) (v : Value) (N : Nat) (cs : List Value) : Prop :=
 ∃ b ty cc, v = .slice (some ⟨b, 0, none⟩) cs.length open_ ∧ b < h.next ∧ h.m.get b = some (.tcells ty cc N 1) ∧ cs.length ≤ N ∧ ∀ j, j < cs.length → cc.get j = cs[j]?
theorem Gb.rb {v : Value} {N : Nat} {cs : List Value} (H : Gb h v N cs) : Rb h v cs := by
 obtain ⟨b, ty, cc, rfl, h1, h2, h3, h4⟩ := H
 by_cases h0 : cs = []
 · subst h0
   exact .inl ⟨rfl, _, _, rfl, (fun e => by cases e), fun q hq => by cases hq; exact h1⟩
 · refine .inr ⟨b, 0, open_, h0, open_ne, rfl, h1, fun j hj => ?_⟩
   unfold AH.cell
   simp only [h2]
   rw [if_pos (by omega), Nat.zero_add]
   exact h4 j hj
theorem setcs_t {b N : Nat} {ty : TypeId} {o : Nat} : ∀ (ds : List Value) (i : Nat) {h : AH} {cc : X.T Value}, h.m.get b = some (.tcells ty cc N 1) → o + i + ds.length ≤ N → (∀ v, v ∈ ds → v.oneCell' = true) →
  ∃ h' cc', h.setcs ⟨b, o, none⟩ i ds = some h' ∧ h'.m.get b = some (.tcells ty cc' N 1) ∧ Sm (fun k => k = b) h h' ∧ h'.next = h.next ∧ (∀ j, j < o + i → cc'.get j = cc.get j) ∧ ∀ j, j < ds.length → cc'.get (o + i + j) = ds[j]?
 | [], i, h, cc, hg, _, _ => ⟨h, cc, rfl, hg, .refl, rfl, fun _ _ => rfl, fun j hj => absurd hj (Nat.not_lt_zero _)⟩
 | v :: ds, i, h, cc, hg, hn, h1 => by
  rw [List.length_cons] at hn
  have e1 : h.setc ⟨b, o + i, none⟩ v = some { h with m := h.m.set b (some (.tcells ty (cc.set (o + i) (some v)) N 1)) } := by
    unfold AH.setc
    simp only [hg]
    rw [if_pos (by omega)]
  have hs : Sm (fun k => k = b) h { h with m := h.m.set b (some (.tcells ty (cc.set (o + i) (some v)) N 1)) } := ⟨Nat.le_refl _, fun k _ hk => by
    show (h.m.set b _).get k = _
    rw [X.T.get_set, if_neg hk]⟩
  have hg2 : ({ h with m := h.m.set b (some (.tcells ty (cc.set (o + i) (some v)) N 1)) } : AH).m.get b = some (.tcells ty (cc.set (o + i) (some v)) N 1) := by
    show (h.m.set b _).get b = _
    rw [X.T.get_set, if_pos rfl]
  obtain ⟨h', cc', a1, a2, a3, a4, a5, a6⟩ := setcs_t (o := o) ds (i + 1) hg2 (by omega) (fun x hx => h1 x (List.mem_cons_of_mem _ hx))
  refine ⟨h', cc', ?_, a2, hs.trans a3 (fun _ x => .inl x), a4, fun j hj => ?_, fun j hj => ?_⟩
  · unfold AH.setcs
    rw [if_pos (h1 v List.mem_cons_self)]
    dsimp only
    rw [e1]
    exact a1
  · rw [a5 j (by omega), X.T.get_set, if_neg (by omega)]
  · cases j with
    | zero =>
     rw [a5 (o + i + 0) (by omega), X.T.get_set, if_pos (by omega)]; rfl
    | succ j =>
     rw [List.length_cons] at hj
     have := a6 j (by omega)
     rw [show o + i + (j + 1) = o + (i + 1) + j by omega, this]; rfl
theorem Gb.append {sT xT : TypeId} {by_ N : Nat} {z u v : Value} {cs ds : List Value} (hT : P.underlying sT = some (.slice el)) (hx : newsK P xT = .list) (hs : szOf P el = some 1) (hb : byOf P el = some by_) (hz : zeroOf P el = some z) (hzl : (cellsL z).length = 1)
   (G : Gb h v N cs) (hu : Rb h u ds) (h1 : ∀ x, x ∈ ds → x.oneCell' = true) (hN : cs.length + ds.length ≤ N) (hlim : N * (by_ + 1) < 1099511627776) :
   ∃ v' h', aAppend P sT xT v u h = some (v', h') ∧ Gb h' v' N (cs ++ ds) ∧ Sm (fun k => vb v = some k) h h' ∧ h'.next = h.next ∧ vb v' = vb v := by
 obtain ⟨b, ty, cc, rfl, g1, g2, g3, g4⟩ := G
 have hf := hu.first
 obtain ⟨ua, uc, rfl⟩ := hu.form
 obtain ⟨h', cc', a1, a2, a3, a4, a5, a6⟩ := setcs_t (o := 0) (b := b) ds cs.length g2 (by omega) h1
 have hlim2 : (cs.length + ds.length) * (by_ + 1) < 1099511627776 := Nat.lt_of_le_of_lt (Nat.mul_le_mul_right _ hN) hlim
 refine ⟨.slice (some ⟨b, 0, none⟩) (cs.length + ds.length) open_, h', ?_, ⟨b, ty, cc', by rw [List.length_append], by rw [a4]; exact g1, a2, by rw [List.length_append]; exact hN, fun j hj => ?_⟩, a3.mono fun k hk => by subst hk; rfl, a4, rfl⟩
 · unfold aAppend
   simp only [hT, hs, hb, hz]
   unfold aNews
   have hlen : X.lenV (.slice ua ds.length uc) = some ds.length := rfl
   simp only [hx, hlen, hf]
   have hl0 : X.lenV (.slice (some ⟨b, 0, none⟩) cs.length open_) = some cs.length := rfl
   simp only [hl0]
   rw [if_pos ⟨hzl, by omega, by rw [List.all_eq_true]; exact h1, hlim2⟩]
   unfold aAppendTo
   have hop : X.opOf h b = some (N, 1) := by unfold X.opOf; simp only [g2]
   dsimp only
   rw [if_pos rfl, hop]
   dsimp only
   rw [if_pos rfl, if_pos (by omega), Nat.mul_one]
   rw [a1]
 · rw [List.length_append] at hj
   by_cases e : j < cs.length
   · rw [a5 j (by omega), g4 j e, List.getElem?_append_left e]
   · rw [List.getElem?_append_right (by omega)]
     have := a6 (j - cs.length) (by omega)
     rw [show 0 + cs.length + (j - cs.length) = j by omega] at this
     exact this
end
end Go.Arm
namespace Go.Proofs.Ytmehemeoaplepaa
noncomputable section
open Go Go.X Go.Arm Go.Mt
theorem ev_bin {Q : Program} {n : Nat} {f : Fr} {h : AH} {o : Oper} {op : BinOp} {T T' : TypeId} {x y : Operand} {a b v : Value} (hop : o.op = .binOp op T x y T') (hx : ev n f x = some a) (hy : ev n f y = some b) (hv : aBin Q op T x y a b h = some v) : evVal Q n f h o.op = some v := by
 rw [hop]
 simp only [evVal, hx, hy]
 exact hv
theorem ev_conv {Q : Program} {n : Nat} {f : Fr} {h : AH} {o : Oper} {s d : TypeId} {x : Operand} {a v : Value} (hop : o.op = .convert s d x) (hx : ev n f x = some a) (hv : aConv Q s d a h = some v) : evVal Q n f h o.op = some v := by
 rw [hop]
 simp only [evVal, hx]
 exact hv
theorem _root_.Go.Mt.Wd.spartsL_cons {p no i : Nat} {l : List Nat} {w w' : Wd} (h : Wd.spartsL p no (i :: l) w = some w') : ∃ w1, w.spart p no i = some w1 ∧ Wd.spartsL p no l w1 = some w' := by
 unfold Wd.spartsL at h
 split at h
 · rename_i w1 h1; exact ⟨w1, h1, h⟩
 · cases h
theorem neq_nilS {h : AH} {xo yo : Operand} : aBin Try.prog .neq 23 xo yo (.slice none 0 0) (.slice none 0 0) h = some (.bool false) := by kernel_rfl
theorem neq_some {h : AH} {xo yo : Operand} {a : Addr} {n c : Nat} : aBin Try.prog .neq 23 xo yo (.slice (some a) n c) (.slice none 0 0) h = some (.bool true) := by kernel_rfl
theorem eql_nilS {h : AH} {xo yo : Operand} : aBin Try.prog .eql 23 xo yo (.slice none 0 0) (.slice none 0 0) h = some (.bool true) := by kernel_rfl
theorem eql_some {h : AH} {xo yo : Operand} {a : Addr} {n c : Nat} : aBin Try.prog .eql 23 xo yo (.slice (some a) n c) (.slice none 0 0) h = some (.bool false) := by kernel_rfl
theorem Rep.piece {W : Wd} {G : Gh} {h : AH} {p no k : Nat} {x : Option By} (R : Rep W G h) (hp : p < W.n) (hr : G.C (.rq p no) ≠ .no) (hx : (W.rq p no).pcs[k]? = some x) :
  ∃ pa v, aIndex Try.prog 65 (G.S (.pcs p no)) (nv (k : Int)) = some (.pointer (some pa)) ∧ aLoad Try.prog 23 pa h = some v ∧ (match x with | none => v = nilS | some d => Dr h G.ro v d ∧ ∃ a n c, v = .slice (some a) n c) := by
 obtain ⟨cs, A, H, _⟩ := R.pcs hp hr
 have hk : k < (W.rq p no).pcs.length := (List.getElem?_eq_some_iff.1 hx).1
 obtain ⟨pa, xa, i1, i2, i3, i4, i5⟩ := (A).elem (P := Try.prog) (T := 65) (el := 23) kr kr kr hk .i64
 obtain ⟨c, ⟨v, rfl, hv⟩, _, hc⟩ := H.get hx
 have := hc 0 (by decide)
 rw [Nat.mul_one, Nat.add_zero] at this
 rw [i2] at this
 cases this
 exact ⟨pa, xa, i1, i3, by cases x <;> exact hv⟩
theorem eql_nat {a b : Nat} : Value.bool ((a : Int) == (b : Int)) = .bool (decide (a = b)) := by
 congr 1
 by_cases h : a = b
 · subst h; simp
 · have : ¬ (a : Int) = (b : Int) := by omega
   simp [h, this]
theorem _root_.Go.Mt.Wd.spart_cases {w w1 : Wd} {p no k : Nat} {x : Option By} (hx : (w.rq p no).pcs[k]? = some x) (h : w.spart p no k = some w1) : (x = none ∧ w = w1) ∨ (∃ d, x = some d ∧ (w.rq p no).sent[k]? = some true ∧ w = w1) ∨
  ∃ d, x = some d ∧ (w.rq p no).sent[k]? = some false ∧ (w.rq p no).gone < big ∧ (w.way p (w.rq p no).peer).length < big ∧ w1 = (w.setWay p (w.rq p no).peer (w.way p (w.rq p no).peer ++ [Pk.part (w.rq p no).no k d])).setRq p no { (w.setWay p (w.rq p no).peer (w.way p (w.rq p no).peer ++ [Pk.part (w.rq p no).no k d])).rq p no with sent := ((w.setWay p (w.rq p no).peer (w.way p (w.rq p no).peer ++ [Pk.part (w.rq p no).no k d])).rq p no).sent.set k true, gone := ((w.setWay p (w.rq p no).peer (w.way p (w.rq p no).peer ++ [Pk.part (w.rq p no).no k d])).rq p no).gone + 1 } := by
 unfold Wd.spart at h
 rw [hx] at h
 cases x with
 | none => exact .inl ⟨rfl, Option.some.inj h⟩
 | some d =>
  dsimp only at h
  refine .inr ?_
  cases hs : (w.rq p no).sent[k]? with
  | none => rw [hs] at h; cases h
  | some s =>
   rw [hs] at h
   cases s with
   | true => exact .inl ⟨d, rfl, rfl, Option.some.inj h⟩
   | false =>
    dsimp only at h
    split at h
    · rename_i hg
      rw [Option.map_eq_some_iff] at h
      obtain ⟨w5, h5, rfl⟩ := h
      unfold Wd.put at h5
      split at h5
      · rename_i hl
        obtain rfl := Option.some.inj h5
        exact .inr ⟨d, rfl, rfl, hg, hl, rfl⟩
      · cases h5
    · cases h
set_option maxHeartbeats 1000000 in
theorem sparts_ok {W : Wd} {G : Gh} {h : AH} {p no : Nat} {W' : Wd} (R : Rep W G h) (hp : p < W.n) (hr : G.C (.rq p no) ≠ .no) (he : W.sparts p no = some W') :
   Arm.Calls Try.prog 41 [ptr (G.B .wd), nv (p : Int), ptr (G.B (.rq p no))] h (fun r => Nxt W' G h r.2) := by
 unfold Wd.sparts at he
 split at he
 rotate_right
 · cases he
 rename_i hNb
 have hNb : (W.rq p no).pcs.length < 1000000000 := hNb
 rw [Option.map_eq_some_iff] at he
 obtain ⟨W9, hst0, rfl⟩ := he
 obtain ⟨dv0, hd0, c0⟩ := R.rqL hp hr
 replace c0 : Arm.Cl h (G.B (.rq p no)) [nk (W.rq p no).no, nv (W.rq p no).peer, nv (W.rq p no).ctx, nv (W.rq p no).tag, nv (W.rq p no).room, .bool (W.rq p no).send, .bool (W.rq p no).sync, .bool (W.rq p no).pers, .bool (W.rq p no).act, .bool (W.rq p no).done, nk (W.rq p no).parts, nk (W.rq p no).size, dv0, G.S (.pcs p no), nk (W.rq p no).gone, G.S (.snt p no), .bool (W.rq p no).clr, nv (W.rq p no).st.src, nv (W.rq p no).st.tag, nv (W.rq p no).st.size, nv (W.rq p no).st.err] := c0
 obtain ⟨cs0, A0, L0, hC0⟩ := R.pcs hp hr
 refine Calls_W 71 Try.f41 ?_
 have T0 : Sm Nix h h := .refl
 refine W_seq (W_sg 3 kr (L_ld _ rfl rfl kr ((c0.ext T0).ld (o := 13) kr rfl) (L_ln _ rfl rfl kr ((A0.sd).len (P := Try.prog) (T := 65) (el := 23) kr) (L_g 1 kr (L_nil (W_block ?_))))))
 refine W_loop (fun mm fr hh => ∃ (k : Nat) (Wk : Wd) (Sk : Ro → Value) (Ck : Ro → Th) (rk : Nat → Prop), mm = (W.rq p no).pcs.length - k ∧ k ≤ (W.rq p no).pcs.length ∧ Wd.spartsL p no ((List.range (W.rq p no).pcs.length).drop k) Wk = some W9 ∧ Wk.n = W.n ∧ (Wk.rq p no).pcs = (W.rq p no).pcs ∧ Rep Wk (⟨G.B, Sk, Ck, rk⟩ : Gh) hh ∧ Gx G h (⟨G.B, Sk, Ck, rk⟩ : Gh) hh ∧
    fr 0 = ptr (G.B .wd) ∧ fr 1 = nv (p : Int) ∧ fr 2 = ptr (G.B (.rq p no)) ∧ fr 11 = G.S (.pcs p no) ∧ fr 12 = nv ((W.rq p no).pcs.length : Int) ∧ fr 13 = nv (k : Int)) ((W.rq p no).pcs.length) ?_ ?_
 ·
   exact ⟨0, W, G.S, G.C, G.ro, rfl, Nat.zero_le _, by rw [List.drop_zero]; exact hst0, rfl, rfl, R.ext T0, Gx.of T0, kr, kr, kr, kr, kr, kr⟩
 rintro mm fr hh ⟨k, Wk, Sk, Ck, rk, hm, hk, hst, hn, hpe, Rk, Xk, y0, y1, y2, y11, y12, y13⟩
 refine W_set (k := 0) y0 (W_set (k := 1) y1 (W_set (k := 2) y2 (W_set (k := 11) y11 (W_set (k := 12) y12 (W_set (k := 13) y13 ?_)))))
 have TK : Sm Nix hh hh := .refl
 have hpk : p < Wk.n := by rw [hn]; exact hp
 have hrk : Ck (.rq p no) ≠ .no := (Xk.keep _ hr).1
 have hfx := (Xk.fix p no hr).1
 refine W_seq (W_region (L_i ((k : Int)) (((W.rq p no).pcs.length : Int)) (.bool (decide ((k : Int) < ((W.rq p no).pcs.length : Int)))) rfl rfl kr kr rfl (rfl) (L_nil (W_seq ?_))))
 refine W_cond (decide ((k : Int) < ((W.rq p no).pcs.length : Int))) kr (fun hb => ?_) (fun hb => ?_)
 ·
   have hlt : k < (W.rq p no).pcs.length := by simp at hb; omega
   have hdr : (List.range (W.rq p no).pcs.length).drop k = k :: (List.range (W.rq p no).pcs.length).drop (k + 1) := by rw [List.drop_eq_getElem_cons (by rw [List.length_range]; exact hlt), List.getElem_range]
   rw [hdr] at hst
   obtain ⟨W1, hst1, hst2⟩ := Wd.spartsL_cons hst
   obtain ⟨x, hx⟩ : ∃ x, (Wk.rq p no).pcs[k]? = some x := ⟨_, List.getElem?_eq_getElem (by rw [hpe]; exact hlt)⟩
   obtain ⟨pa9, v9, ix9, ld9, hv9⟩ := Rep.piece Rk hpk hrk hx
   rw [show Gh.S (⟨G.B, Sk, Ck, rk⟩ : Gh) (.pcs p no) = G.S (.pcs p no) from hfx] at ix9
   obtain ⟨dvz, hdz, cz⟩ := Rk.rqL hpk hrk
   replace cz : Arm.Cl hh (G.B (.rq p no)) [nk (Wk.rq p no).no, nv (Wk.rq p no).peer, nv (Wk.rq p no).ctx, nv (Wk.rq p no).tag, nv (Wk.rq p no).room, .bool (Wk.rq p no).send, .bool (Wk.rq p no).sync, .bool (Wk.rq p no).pers, .bool (Wk.rq p no).act, .bool (Wk.rq p no).done, nk (Wk.rq p no).parts, nk (Wk.rq p no).size, dvz, (⟨G.B, Sk, Ck, rk⟩ : Gh).S (.pcs p no), nk (Wk.rq p no).gone, (⟨G.B, Sk, Ck, rk⟩ : Gh).S (.snt p no), .bool (Wk.rq p no).clr, nv (Wk.rq p no).st.src, nv (Wk.rq p no).st.tag, nv (Wk.rq p no).st.size, nv (Wk.rq p no).st.err] := cz
   refine W_skip (W_seq (W_block (W_seq ?_)))
   rcases Wd.spart_cases hx hst1 with ⟨rfl, rfl⟩ | ⟨d, rfl, hsk, rfl⟩ | ⟨d, rfl, hsk, hgn, hlw, rfl⟩
   ·
    obtain rfl : v9 = nilS := hv9
    refine W_rg 1 kr (L_ix _ rfl rfl kr kr (ix9) (L_ld _ rfl rfl kr (ld9) (L_g 2 kr (L_nil (W_sg 1 kr (L_p (.bool false) rfl (ev_bin (o := _) rfl kr kr neq_nilS) (L_g 10 kr (L_nil ?_))))))))
    refine W_cond false kr (fun e => by cases e) (fun _ => ?_)
    refine W_skip (W_region (L_i ((k : Int)) (1) (nv ((k + 1 : Nat) : Int)) rfl rfl kr kr rfl (inc_ok (by have : (1000000000 : Nat) = big := rfl; omega)) (L_g 1 kr (L_nil ?_))))
    exact ⟨(W.rq p no).pcs.length - (k + 1), by omega, k + 1, _, _, _, _, rfl, by omega, hst2, hn, hpe, (Rk.ext TK), ((Xk).trans (Gx.of TK)), kr, kr, kr, kr, kr, kr⟩
   ·
    obtain ⟨ad9, nd9, cd9, rfl⟩ := hv9.2
    obtain ⟨ws8, hs8⟩ := Rk.snt (p := p) (no := no) hpk hrk
    have hks : k < (Wk.rq p no).sent.length := (List.getElem?_eq_some_iff.1 hsk).1
    obtain ⟨pas, xas, i1s, i2s, i3s, i4s, i5s⟩ := ws8.elem (P := Try.prog) (T := 40) (el := 4) kr kr kr hks .i64
    rw [List.getElem?_map, hsk] at i2s
    cases i2s
    refine W_rg 1 kr (L_ix _ rfl rfl kr kr (ix9) (L_ld _ rfl rfl kr (ld9) (L_g 2 kr (L_nil (W_sg 1 kr (L_p (.bool true) rfl (ev_bin (o := _) rfl kr kr (neq_some (a := ad9) (n := nd9) (c := cd9))) (L_g 4 kr (L_want kr ?_))))))))
    refine L_ld _ rfl rfl kr ((cz.ext TK).ld (o := 15) kr rfl) (L_g 1 kr (L_want kr (L_ix _ rfl rfl kr kr (i1s) (L_want kr (L_ld _ rfl rfl kr (i3s) (L_g 2 kr (L_nil ?_)))))))
    refine W_cond false kr (fun e => by cases e) (fun _ => ?_)
    refine W_skip (W_region (L_i ((k : Int)) (1) (nv ((k + 1 : Nat) : Int)) rfl rfl kr kr rfl (inc_ok (by have : (1000000000 : Nat) = big := rfl; omega)) (L_g 1 kr (L_nil ?_))))
    exact ⟨(W.rq p no).pcs.length - (k + 1), by omega, k + 1, _, _, _, _, rfl, by omega, hst2, hn, hpe, (Rk.ext TK), ((Xk).trans (Gx.of TK)), kr, kr, kr, kr, kr, kr⟩
   ·
    obtain ⟨ad9, nd9, cd9, rfl⟩ := hv9.2
    obtain ⟨ws8, hs8⟩ := Rk.snt (p := p) (no := no) hpk hrk
    have hks : k < (Wk.rq p no).sent.length := (List.getElem?_eq_some_iff.1 hsk).1
    obtain ⟨pas, xas, i1s, i2s, i3s, i4s, i5s⟩ := ws8.elem (P := Try.prog) (T := 40) (el := 4) kr kr kr hks .i64
    rw [List.getElem?_map, hsk] at i2s
    cases i2s
    have hgn9 : (Wk.rq p no).gone + 1 < 9223372036854775808 := by have : (1000000000 : Nat) = big := rfl; omega
    clear hst
    refine W_rg 1 kr (L_ix _ rfl rfl kr kr (ix9) (L_ld _ rfl rfl kr (ld9) (L_g 2 kr (L_nil (W_sg 1 kr (L_p (.bool true) rfl (ev_bin (o := _) rfl kr kr (neq_some (a := ad9) (n := nd9) (c := cd9))) (L_g 4 kr (L_want kr ?_))))))))
    refine L_ld _ rfl rfl kr ((cz.ext TK).ld (o := 15) kr rfl) (L_g 1 kr (L_want kr (L_ix _ rfl rfl kr kr (i1s) (L_want kr (L_ld _ rfl rfl kr (i3s) (L_g 2 kr (L_nil ?_)))))))
    refine W_cond true kr (fun _ => ?_) (fun e => by cases e)
    refine W_seq (W_drawn kr (D_e (e := 14) (l := [0,1,2,3,4,5,6,7,8,9,10,11,12,13]) (s' := []) kr kr rfl kr Rk_nil (NS_b 5 kr (NS_ld _ rfl rfl kr kr kr ((cz.ext TK).ld (o := 1) kr rfl) (NS_b 3 kr (NS_ld _ rfl rfl kr kr kr ((cz.ext TK).ld (o := 0) kr rfl) (NS_b 4 kr (NS_nil (L_c rfl rfl kr (put_ok (Rk.ext TK) (x := .part (Wk.rq p no).no k d) ⟨_, hv9.1.ext TK, ⟨_, _, _, rfl⟩, rfl⟩ hlw) ?_)))))))))
    rintro v447 h447 N447
    dsimp only at N447
    obtain ⟨S447, C447, ro447, R447, Y447⟩ := N447
    have X447 := ((Xk).trans (Gx.of TK)).trans Y447
    have hr_447 := (Y447.keep _ hrk).1
    have T447 : Sm (Ow h (⟨Gh.B (⟨G.B, Sk, Ck, rk⟩ : Gh), S447, C447, ro447⟩ : Gh)) h447 h447 := .refl
    obtain ⟨dvy, hdy, cy⟩ := R447.rqL (p := p) hpk hr_447
    replace cy : Arm.Cl h447 (G.B (.rq p no)) [nk (Wk.rq p no).no, nv (Wk.rq p no).peer, nv (Wk.rq p no).ctx, nv (Wk.rq p no).tag, nv (Wk.rq p no).room, .bool (Wk.rq p no).send, .bool (Wk.rq p no).sync, .bool (Wk.rq p no).pers, .bool (Wk.rq p no).act, .bool (Wk.rq p no).done, nk (Wk.rq p no).parts, nk (Wk.rq p no).size, dvy, (⟨G.B, S447, C447, ro447⟩ : Gh).S (.pcs p no), nk (Wk.rq p no).gone, (⟨G.B, S447, C447, ro447⟩ : Gh).S (.snt p no), .bool (Wk.rq p no).clr, nv (Wk.rq p no).st.src, nv (Wk.rq p no).st.tag, nv (Wk.rq p no).st.size, nv (Wk.rq p no).st.err] := cy
    obtain ⟨ws9, hs9⟩ := R447.snt (p := p) (no := no) hpk hr_447
    obtain ⟨pay, xay, i1y, i2y, i3y, i4y, i5y⟩ := ws9.elem (P := Try.prog) (T := 40) (el := 4) kr kr kr hks .i64
    refine L_nil ⟨rfl, ?_⟩
    refine D_l (l := []) kr kr Rk_nil (NS_nil (W_sg 3 kr (L_ld _ rfl rfl kr ((cy.sm T447 (fun hx => hx.2.1 ⟨.rq p no, hr_447, rfl⟩)).ld (o := 15) kr rfl) (L_g 1 kr (L_ix _ rfl rfl kr kr (i1y) ?_)))))
    obtain ⟨h448, e448, w448, t448, n448⟩ := i5y (.bool true) rfl rfl
    have N448 : Nxt ((Wk.setWay p (Wk.rq p no).peer (Wk.way p (Wk.rq p no).peer ++ [Pk.part (Wk.rq p no).no k d])).setRq p no { (Wk.setWay p (Wk.rq p no).peer (Wk.way p (Wk.rq p no).peer ++ [Pk.part (Wk.rq p no).no k d])).rq p no with sent := ((Wk.setWay p (Wk.rq p no).peer (Wk.way p (Wk.rq p no).peer ++ [Pk.part (Wk.rq p no).no k d])).rq p no).sent.set k true }) (⟨Gh.B (⟨G.B, Sk, Ck, rk⟩ : Gh), S447, C447, ro447⟩ : Gh) h447 h448 := (R447.ow T447).setSnt (p := p) (no := no) hpk hr_447 (by rw [List.length_set, List.map_set]; exact w448) t448
    refine L_st _ rfl rfl rfl kr kr (e448) ?_
    obtain ⟨S448, C448, ro448, R448, Y448⟩ := N448
    have X448 := ((X447).ow T447).trans Y448
    have hr_448 := (Y448.keep _ hr_447).1
    have T448 : Sm (Ow h (⟨Gh.B (⟨Gh.B (⟨G.B, Sk, Ck, rk⟩ : Gh), S447, C447, ro447⟩ : Gh), S448, C448, ro448⟩ : Gh)) h448 h448 := .refl
    refine L_nil (W_region (L_g 3 kr ?_))
    obtain ⟨dvu, hdu, cu⟩ := R448.rqL (p := p) (no := no) hpk hr_448
    rw [Wd.setRq_at] at hdu cu
    replace cu : Arm.Cl h448 (Gh.B (⟨Gh.B (⟨Gh.B (⟨G.B, Sk, Ck, rk⟩ : Gh), S447, C447, ro447⟩ : Gh), S448, C448, ro448⟩ : Gh) (.rq p no)) [nk ((Wk.setWay p (Wk.rq p no).peer (Wk.way p (Wk.rq p no).peer ++ [Pk.part (Wk.rq p no).no k d])).rq p no).no, nv ((Wk.setWay p (Wk.rq p no).peer (Wk.way p (Wk.rq p no).peer ++ [Pk.part (Wk.rq p no).no k d])).rq p no).peer, nv ((Wk.setWay p (Wk.rq p no).peer (Wk.way p (Wk.rq p no).peer ++ [Pk.part (Wk.rq p no).no k d])).rq p no).ctx, nv ((Wk.setWay p (Wk.rq p no).peer (Wk.way p (Wk.rq p no).peer ++ [Pk.part (Wk.rq p no).no k d])).rq p no).tag, nv ((Wk.setWay p (Wk.rq p no).peer (Wk.way p (Wk.rq p no).peer ++ [Pk.part (Wk.rq p no).no k d])).rq p no).room, .bool ((Wk.setWay p (Wk.rq p no).peer (Wk.way p (Wk.rq p no).peer ++ [Pk.part (Wk.rq p no).no k d])).rq p no).send, .bool ((Wk.setWay p (Wk.rq p no).peer (Wk.way p (Wk.rq p no).peer ++ [Pk.part (Wk.rq p no).no k d])).rq p no).sync, .bool ((Wk.setWay p (Wk.rq p no).peer (Wk.way p (Wk.rq p no).peer ++ [Pk.part (Wk.rq p no).no k d])).rq p no).pers, .bool ((Wk.setWay p (Wk.rq p no).peer (Wk.way p (Wk.rq p no).peer ++ [Pk.part (Wk.rq p no).no k d])).rq p no).act, .bool ((Wk.setWay p (Wk.rq p no).peer (Wk.way p (Wk.rq p no).peer ++ [Pk.part (Wk.rq p no).no k d])).rq p no).done, nk ((Wk.setWay p (Wk.rq p no).peer (Wk.way p (Wk.rq p no).peer ++ [Pk.part (Wk.rq p no).no k d])).rq p no).parts, nk ((Wk.setWay p (Wk.rq p no).peer (Wk.way p (Wk.rq p no).peer ++ [Pk.part (Wk.rq p no).no k d])).rq p no).size, dvu, (⟨Gh.B (⟨Gh.B (⟨G.B, Sk, Ck, rk⟩ : Gh), S447, C447, ro447⟩ : Gh), S448, C448, ro448⟩ : Gh).S (.pcs p no), nk ((Wk.setWay p (Wk.rq p no).peer (Wk.way p (Wk.rq p no).peer ++ [Pk.part (Wk.rq p no).no k d])).rq p no).gone, (⟨Gh.B (⟨Gh.B (⟨G.B, Sk, Ck, rk⟩ : Gh), S447, C447, ro447⟩ : Gh), S448, C448, ro448⟩ : Gh).S (.snt p no), .bool ((Wk.setWay p (Wk.rq p no).peer (Wk.way p (Wk.rq p no).peer ++ [Pk.part (Wk.rq p no).no k d])).rq p no).clr, nv ((Wk.setWay p (Wk.rq p no).peer (Wk.way p (Wk.rq p no).peer ++ [Pk.part (Wk.rq p no).no k d])).rq p no).st.src, nv ((Wk.setWay p (Wk.rq p no).peer (Wk.way p (Wk.rq p no).peer ++ [Pk.part (Wk.rq p no).no k d])).rq p no).st.tag, nv ((Wk.setWay p (Wk.rq p no).peer (Wk.way p (Wk.rq p no).peer ++ [Pk.part (Wk.rq p no).no k d])).rq p no).st.size, nv ((Wk.setWay p (Wk.rq p no).peer (Wk.way p (Wk.rq p no).peer ++ [Pk.part (Wk.rq p no).no k d])).rq p no).st.err] := cu
    refine L_ld _ rfl rfl kr ((cu.sm T448 (fun hx => hx.2.1 ⟨.rq p no, hr_448, rfl⟩)).ld (o := 14) kr rfl) (L_i (((Wk.rq p no).gone : Int)) (1) (nv (((Wk.rq p no).gone + 1 : Nat) : Int)) rfl rfl kr kr rfl (inc_ok (show _ < 1000000000 from hgn)) (L_g 2 kr ?_))
    obtain ⟨dv9, hd9, c9⟩ := (R448.ow T448).rqL hpk hr_448
    replace c9 : Cl h448 (Gh.B (⟨Gh.B (⟨Gh.B (⟨G.B, Sk, Ck, rk⟩ : Gh), S447, C447, ro447⟩ : Gh), S448, C448, ro448⟩ : Gh) (.rq p no)) [nk (((Wk.setWay p (Wk.rq p no).peer (Wk.way p (Wk.rq p no).peer ++ [Pk.part (Wk.rq p no).no k d])).setRq p no { (Wk.setWay p (Wk.rq p no).peer (Wk.way p (Wk.rq p no).peer ++ [Pk.part (Wk.rq p no).no k d])).rq p no with sent := ((Wk.setWay p (Wk.rq p no).peer (Wk.way p (Wk.rq p no).peer ++ [Pk.part (Wk.rq p no).no k d])).rq p no).sent.set k true }).rq p no).no, nv (((Wk.setWay p (Wk.rq p no).peer (Wk.way p (Wk.rq p no).peer ++ [Pk.part (Wk.rq p no).no k d])).setRq p no { (Wk.setWay p (Wk.rq p no).peer (Wk.way p (Wk.rq p no).peer ++ [Pk.part (Wk.rq p no).no k d])).rq p no with sent := ((Wk.setWay p (Wk.rq p no).peer (Wk.way p (Wk.rq p no).peer ++ [Pk.part (Wk.rq p no).no k d])).rq p no).sent.set k true }).rq p no).peer, nv (((Wk.setWay p (Wk.rq p no).peer (Wk.way p (Wk.rq p no).peer ++ [Pk.part (Wk.rq p no).no k d])).setRq p no { (Wk.setWay p (Wk.rq p no).peer (Wk.way p (Wk.rq p no).peer ++ [Pk.part (Wk.rq p no).no k d])).rq p no with sent := ((Wk.setWay p (Wk.rq p no).peer (Wk.way p (Wk.rq p no).peer ++ [Pk.part (Wk.rq p no).no k d])).rq p no).sent.set k true }).rq p no).ctx, nv (((Wk.setWay p (Wk.rq p no).peer (Wk.way p (Wk.rq p no).peer ++ [Pk.part (Wk.rq p no).no k d])).setRq p no { (Wk.setWay p (Wk.rq p no).peer (Wk.way p (Wk.rq p no).peer ++ [Pk.part (Wk.rq p no).no k d])).rq p no with sent := ((Wk.setWay p (Wk.rq p no).peer (Wk.way p (Wk.rq p no).peer ++ [Pk.part (Wk.rq p no).no k d])).rq p no).sent.set k true }).rq p no).tag, nv (((Wk.setWay p (Wk.rq p no).peer (Wk.way p (Wk.rq p no).peer ++ [Pk.part (Wk.rq p no).no k d])).setRq p no { (Wk.setWay p (Wk.rq p no).peer (Wk.way p (Wk.rq p no).peer ++ [Pk.part (Wk.rq p no).no k d])).rq p no with sent := ((Wk.setWay p (Wk.rq p no).peer (Wk.way p (Wk.rq p no).peer ++ [Pk.part (Wk.rq p no).no k d])).rq p no).sent.set k true }).rq p no).room, .bool (((Wk.setWay p (Wk.rq p no).peer (Wk.way p (Wk.rq p no).peer ++ [Pk.part (Wk.rq p no).no k d])).setRq p no { (Wk.setWay p (Wk.rq p no).peer (Wk.way p (Wk.rq p no).peer ++ [Pk.part (Wk.rq p no).no k d])).rq p no with sent := ((Wk.setWay p (Wk.rq p no).peer (Wk.way p (Wk.rq p no).peer ++ [Pk.part (Wk.rq p no).no k d])).rq p no).sent.set k true }).rq p no).send, .bool (((Wk.setWay p (Wk.rq p no).peer (Wk.way p (Wk.rq p no).peer ++ [Pk.part (Wk.rq p no).no k d])).setRq p no { (Wk.setWay p (Wk.rq p no).peer (Wk.way p (Wk.rq p no).peer ++ [Pk.part (Wk.rq p no).no k d])).rq p no with sent := ((Wk.setWay p (Wk.rq p no).peer (Wk.way p (Wk.rq p no).peer ++ [Pk.part (Wk.rq p no).no k d])).rq p no).sent.set k true }).rq p no).sync, .bool (((Wk.setWay p (Wk.rq p no).peer (Wk.way p (Wk.rq p no).peer ++ [Pk.part (Wk.rq p no).no k d])).setRq p no { (Wk.setWay p (Wk.rq p no).peer (Wk.way p (Wk.rq p no).peer ++ [Pk.part (Wk.rq p no).no k d])).rq p no with sent := ((Wk.setWay p (Wk.rq p no).peer (Wk.way p (Wk.rq p no).peer ++ [Pk.part (Wk.rq p no).no k d])).rq p no).sent.set k true }).rq p no).pers, .bool (((Wk.setWay p (Wk.rq p no).peer (Wk.way p (Wk.rq p no).peer ++ [Pk.part (Wk.rq p no).no k d])).setRq p no { (Wk.setWay p (Wk.rq p no).peer (Wk.way p (Wk.rq p no).peer ++ [Pk.part (Wk.rq p no).no k d])).rq p no with sent := ((Wk.setWay p (Wk.rq p no).peer (Wk.way p (Wk.rq p no).peer ++ [Pk.part (Wk.rq p no).no k d])).rq p no).sent.set k true }).rq p no).act, .bool (((Wk.setWay p (Wk.rq p no).peer (Wk.way p (Wk.rq p no).peer ++ [Pk.part (Wk.rq p no).no k d])).setRq p no { (Wk.setWay p (Wk.rq p no).peer (Wk.way p (Wk.rq p no).peer ++ [Pk.part (Wk.rq p no).no k d])).rq p no with sent := ((Wk.setWay p (Wk.rq p no).peer (Wk.way p (Wk.rq p no).peer ++ [Pk.part (Wk.rq p no).no k d])).rq p no).sent.set k true }).rq p no).done, nk (((Wk.setWay p (Wk.rq p no).peer (Wk.way p (Wk.rq p no).peer ++ [Pk.part (Wk.rq p no).no k d])).setRq p no { (Wk.setWay p (Wk.rq p no).peer (Wk.way p (Wk.rq p no).peer ++ [Pk.part (Wk.rq p no).no k d])).rq p no with sent := ((Wk.setWay p (Wk.rq p no).peer (Wk.way p (Wk.rq p no).peer ++ [Pk.part (Wk.rq p no).no k d])).rq p no).sent.set k true }).rq p no).parts, nk (((Wk.setWay p (Wk.rq p no).peer (Wk.way p (Wk.rq p no).peer ++ [Pk.part (Wk.rq p no).no k d])).setRq p no { (Wk.setWay p (Wk.rq p no).peer (Wk.way p (Wk.rq p no).peer ++ [Pk.part (Wk.rq p no).no k d])).rq p no with sent := ((Wk.setWay p (Wk.rq p no).peer (Wk.way p (Wk.rq p no).peer ++ [Pk.part (Wk.rq p no).no k d])).rq p no).sent.set k true }).rq p no).size, dv9, (⟨Gh.B (⟨Gh.B (⟨G.B, Sk, Ck, rk⟩ : Gh), S447, C447, ro447⟩ : Gh), S448, C448, ro448⟩ : Gh).S (.pcs p no), nk (((Wk.setWay p (Wk.rq p no).peer (Wk.way p (Wk.rq p no).peer ++ [Pk.part (Wk.rq p no).no k d])).setRq p no { (Wk.setWay p (Wk.rq p no).peer (Wk.way p (Wk.rq p no).peer ++ [Pk.part (Wk.rq p no).no k d])).rq p no with sent := ((Wk.setWay p (Wk.rq p no).peer (Wk.way p (Wk.rq p no).peer ++ [Pk.part (Wk.rq p no).no k d])).rq p no).sent.set k true }).rq p no).gone, (⟨Gh.B (⟨Gh.B (⟨G.B, Sk, Ck, rk⟩ : Gh), S447, C447, ro447⟩ : Gh), S448, C448, ro448⟩ : Gh).S (.snt p no), .bool (((Wk.setWay p (Wk.rq p no).peer (Wk.way p (Wk.rq p no).peer ++ [Pk.part (Wk.rq p no).no k d])).setRq p no { (Wk.setWay p (Wk.rq p no).peer (Wk.way p (Wk.rq p no).peer ++ [Pk.part (Wk.rq p no).no k d])).rq p no with sent := ((Wk.setWay p (Wk.rq p no).peer (Wk.way p (Wk.rq p no).peer ++ [Pk.part (Wk.rq p no).no k d])).rq p no).sent.set k true }).rq p no).clr, nv (((Wk.setWay p (Wk.rq p no).peer (Wk.way p (Wk.rq p no).peer ++ [Pk.part (Wk.rq p no).no k d])).setRq p no { (Wk.setWay p (Wk.rq p no).peer (Wk.way p (Wk.rq p no).peer ++ [Pk.part (Wk.rq p no).no k d])).rq p no with sent := ((Wk.setWay p (Wk.rq p no).peer (Wk.way p (Wk.rq p no).peer ++ [Pk.part (Wk.rq p no).no k d])).rq p no).sent.set k true }).rq p no).st.src, nv (((Wk.setWay p (Wk.rq p no).peer (Wk.way p (Wk.rq p no).peer ++ [Pk.part (Wk.rq p no).no k d])).setRq p no { (Wk.setWay p (Wk.rq p no).peer (Wk.way p (Wk.rq p no).peer ++ [Pk.part (Wk.rq p no).no k d])).rq p no with sent := ((Wk.setWay p (Wk.rq p no).peer (Wk.way p (Wk.rq p no).peer ++ [Pk.part (Wk.rq p no).no k d])).rq p no).sent.set k true }).rq p no).st.tag, nv (((Wk.setWay p (Wk.rq p no).peer (Wk.way p (Wk.rq p no).peer ++ [Pk.part (Wk.rq p no).no k d])).setRq p no { (Wk.setWay p (Wk.rq p no).peer (Wk.way p (Wk.rq p no).peer ++ [Pk.part (Wk.rq p no).no k d])).rq p no with sent := ((Wk.setWay p (Wk.rq p no).peer (Wk.way p (Wk.rq p no).peer ++ [Pk.part (Wk.rq p no).no k d])).rq p no).sent.set k true }).rq p no).st.size, nv (((Wk.setWay p (Wk.rq p no).peer (Wk.way p (Wk.rq p no).peer ++ [Pk.part (Wk.rq p no).no k d])).setRq p no { (Wk.setWay p (Wk.rq p no).peer (Wk.way p (Wk.rq p no).peer ++ [Pk.part (Wk.rq p no).no k d])).rq p no with sent := ((Wk.setWay p (Wk.rq p no).peer (Wk.way p (Wk.rq p no).peer ++ [Pk.part (Wk.rq p no).no k d])).rq p no).sent.set k true }).rq p no).st.err] := c9
    obtain ⟨h449, e449, d449, t449, n449⟩ := c9.s1 3 14 (nv (((Wk.rq p no).gone + 1 : Nat) : Int))
    have N449 : Nxt (((Wk.setWay p (Wk.rq p no).peer (Wk.way p (Wk.rq p no).peer ++ [Pk.part (Wk.rq p no).no k d])).setRq p no { (Wk.setWay p (Wk.rq p no).peer (Wk.way p (Wk.rq p no).peer ++ [Pk.part (Wk.rq p no).no k d])).rq p no with sent := ((Wk.setWay p (Wk.rq p no).peer (Wk.way p (Wk.rq p no).peer ++ [Pk.part (Wk.rq p no).no k d])).rq p no).sent.set k true }).setRq p no { (((Wk.setWay p (Wk.rq p no).peer (Wk.way p (Wk.rq p no).peer ++ [Pk.part (Wk.rq p no).no k d])).setRq p no { (Wk.setWay p (Wk.rq p no).peer (Wk.way p (Wk.rq p no).peer ++ [Pk.part (Wk.rq p no).no k d])).rq p no with sent := ((Wk.setWay p (Wk.rq p no).peer (Wk.way p (Wk.rq p no).peer ++ [Pk.part (Wk.rq p no).no k d])).rq p no).sent.set k true }).rq p no) with gone := (Wk.rq p no).gone + 1 }) (⟨Gh.B (⟨Gh.B (⟨G.B, Sk, Ck, rk⟩ : Gh), S447, C447, ro447⟩ : Gh), S448, C448, ro448⟩ : Gh) h448 h449 := (R448.ow T448).stRq hpk hr_448 (r := { (((Wk.setWay p (Wk.rq p no).peer (Wk.way p (Wk.rq p no).peer ++ [Pk.part (Wk.rq p no).no k d])).setRq p no { (Wk.setWay p (Wk.rq p no).peer (Wk.way p (Wk.rq p no).peer ++ [Pk.part (Wk.rq p no).no k d])).rq p no with sent := ((Wk.setWay p (Wk.rq p no).peer (Wk.way p (Wk.rq p no).peer ++ [Pk.part (Wk.rq p no).no k d])).rq p no).sent.set k true }).rq p no) with gone := (Wk.rq p no).gone + 1 }) hd9 d449 t449 rfl rfl rfl
    clear hd9
    refine L_st _ rfl rfl rfl kr kr (e449) ?_
    obtain ⟨S449, C449, ro449, R449, Y449⟩ := N449
    have X449 := ((X448).ow T448).trans Y449
    have hr_449 := (Y449.keep _ hr_448).1
    have T449 : Sm (Ow h (⟨Gh.B (⟨Gh.B (⟨Gh.B (⟨G.B, Sk, Ck, rk⟩ : Gh), S447, C447, ro447⟩ : Gh), S448, C448, ro448⟩ : Gh), S449, C449, ro449⟩ : Gh)) h449 h449 := .refl
    have eW9 : (((Wk.setWay p (Wk.rq p no).peer (Wk.way p (Wk.rq p no).peer ++ [Pk.part (Wk.rq p no).no k d])).setRq p no { (Wk.setWay p (Wk.rq p no).peer (Wk.way p (Wk.rq p no).peer ++ [Pk.part (Wk.rq p no).no k d])).rq p no with sent := ((Wk.setWay p (Wk.rq p no).peer (Wk.way p (Wk.rq p no).peer ++ [Pk.part (Wk.rq p no).no k d])).rq p no).sent.set k true }).setRq p no { ((Wk.setWay p (Wk.rq p no).peer (Wk.way p (Wk.rq p no).peer ++ [Pk.part (Wk.rq p no).no k d])).setRq p no { (Wk.setWay p (Wk.rq p no).peer (Wk.way p (Wk.rq p no).peer ++ [Pk.part (Wk.rq p no).no k d])).rq p no with sent := ((Wk.setWay p (Wk.rq p no).peer (Wk.way p (Wk.rq p no).peer ++ [Pk.part (Wk.rq p no).no k d])).rq p no).sent.set k true }).rq p no with gone := (Wk.rq p no).gone + 1 }) = (Wk.setWay p (Wk.rq p no).peer (Wk.way p (Wk.rq p no).peer ++ [Pk.part (Wk.rq p no).no k d])).setRq p no { (Wk.setWay p (Wk.rq p no).peer (Wk.way p (Wk.rq p no).peer ++ [Pk.part (Wk.rq p no).no k d])).rq p no with sent := ((Wk.setWay p (Wk.rq p no).peer (Wk.way p (Wk.rq p no).peer ++ [Pk.part (Wk.rq p no).no k d])).rq p no).sent.set k true, gone := ((Wk.setWay p (Wk.rq p no).peer (Wk.way p (Wk.rq p no).peer ++ [Pk.part (Wk.rq p no).no k d])).rq p no).gone + 1 } := by simp only [Wd.setRq_at, Wd.setRq_setRq]; rfl
    rw [eW9] at R449
    refine L_nil (W_region (L_i ((k : Int)) (1) (nv ((k + 1 : Nat) : Int)) rfl rfl kr kr rfl (inc_ok (by have : (1000000000 : Nat) = big := rfl; omega)) (L_g 1 kr (L_nil ?_))))
    exact ⟨(W.rq p no).pcs.length - (k + 1), by omega, k + 1, _, _, _, _, rfl, by omega, hst2, hn, (by rw [Wd.setRq_at]; exact hpe), (R449.ow T449), ((X449).ow T449), kr, kr, kr, kr, kr, kr⟩
 ·
   have hge : k = (W.rq p no).pcs.length := by simp at hb; omega
   rw [hge, List.drop_of_length_le (by rw [List.length_range]; exact Nat.le_refl _)] at hst
   obtain rfl := Option.some.inj hst
   obtain ⟨dvz, hdz, cz⟩ := Rk.rqL hpk hrk
   replace cz : Arm.Cl hh (G.B (.rq p no)) [nk (Wk.rq p no).no, nv (Wk.rq p no).peer, nv (Wk.rq p no).ctx, nv (Wk.rq p no).tag, nv (Wk.rq p no).room, .bool (Wk.rq p no).send, .bool (Wk.rq p no).sync, .bool (Wk.rq p no).pers, .bool (Wk.rq p no).act, .bool (Wk.rq p no).done, nk (Wk.rq p no).parts, nk (Wk.rq p no).size, dvz, (⟨G.B, Sk, Ck, rk⟩ : Gh).S (.pcs p no), nk (Wk.rq p no).gone, (⟨G.B, Sk, Ck, rk⟩ : Gh).S (.snt p no), .bool (Wk.rq p no).clr, nv (Wk.rq p no).st.src, nv (Wk.rq p no).st.tag, nv (Wk.rq p no).st.size, nv (Wk.rq p no).st.err] := cz
   refine W_exit ?_
   repeat with_reducible refine then_exit ?_
   refine exit_here (W_drawn kr (D_e (e := 12) (l := [0,1,2,3,4,5,6,7,8,9,10,11]) (s' := []) kr kr rfl kr Rk_nil (NS_b 4 kr (NS_ld _ rfl rfl kr kr kr ((cz.ext TK).ld (o := 14) kr rfl) (NS_b 3 kr (NS_ld _ rfl rfl kr kr kr ((cz.ext TK).ld (o := 10) kr rfl) (NS_i (((Wk.rq p no).gone : Int)) (((Wk.rq p no).parts : Int)) (.bool (decide ((Wk.rq p no).gone = (Wk.rq p no).parts))) rfl rfl kr kr kr kr rfl (eql_nat) (NS_b 2 kr (NS_nil ?_)))))))))
   obtain ⟨dv9, hd9, c9⟩ := (Rk.ext TK).rqL hpk hrk
   replace c9 : Cl hh (Gh.B (⟨G.B, Sk, Ck, rk⟩ : Gh) (.rq p no)) [nk (Wk.rq p no).no, nv (Wk.rq p no).peer, nv (Wk.rq p no).ctx, nv (Wk.rq p no).tag, nv (Wk.rq p no).room, .bool (Wk.rq p no).send, .bool (Wk.rq p no).sync, .bool (Wk.rq p no).pers, .bool (Wk.rq p no).act, .bool (Wk.rq p no).done, nk (Wk.rq p no).parts, nk (Wk.rq p no).size, dv9, (⟨G.B, Sk, Ck, rk⟩ : Gh).S (.pcs p no), nk (Wk.rq p no).gone, (⟨G.B, Sk, Ck, rk⟩ : Gh).S (.snt p no), .bool (Wk.rq p no).clr, nv (Wk.rq p no).st.src, nv (Wk.rq p no).st.tag, nv (Wk.rq p no).st.size, nv (Wk.rq p no).st.err] := c9
   obtain ⟨h450, e450, d450, t450, n450⟩ := c9.s1 4 9 (.bool (decide ((Wk.rq p no).gone = (Wk.rq p no).parts)))
   have N450 : Nxt (Wk.setRq p no { (Wk.rq p no) with done := decide ((Wk.rq p no).gone = (Wk.rq p no).parts) }) (⟨G.B, Sk, Ck, rk⟩ : Gh) hh h450 := (Rk.ext TK).stRq hpk hrk (r := { (Wk.rq p no) with done := decide ((Wk.rq p no).gone = (Wk.rq p no).parts) }) hd9 d450 t450 rfl rfl rfl
   clear hd9
   refine L_st _ rfl rfl rfl kr kr (e450) ?_
   obtain ⟨S450, C450, ro450, R450, Y450⟩ := N450
   have X450 := ((Xk).trans (Gx.of TK)).trans Y450
   have hr_450 := (Y450.keep _ hrk).1
   have T450 : Sm (Ow h (⟨Gh.B (⟨G.B, Sk, Ck, rk⟩ : Gh), S450, C450, ro450⟩ : Gh)) h450 h450 := .refl
   refine L_nil ⟨rfl, ?_⟩
   refine D_l (l := []) kr kr Rk_nil (NS_nil ?_)
   repeat with_reducible refine blk_norm ?_
   refine done_of (v := .tuple ⟨[]⟩) (.inr rfl) kr ?_
   exact ⟨_, _, _, (R450.ow T450), ((X450).ow T450)⟩
end
end Go.Proofs.Ytmehemeoaplepaa
namespace Go.Proofs.Ytmehemeoaplepaa
noncomputable section
open Go Go.X Go.Arm Go.Mt
theorem pnil_ok {h : AH} : Arm.Calls Try.prog 85 [(.slice none 0 0)] h (fun r => r.1 = .bool true ∧ Sm Nix h r.2) := by
 refine Calls_W 5 Try.f85 ?_
 have T0 : Sm Nix h h := .refl
 refine W_sg 1 kr (L_nil (W_sg 1 kr (L_p (.bool true) rfl (ev_bin (o := _) rfl kr kr eql_nilS) (L_g 1 kr (L_nil (W_ret ?_))))))
 repeat first | with_reducible refine then_ret ?_ | with_reducible refine blk_ret ?_
 refine done_of (v := .bool true) (.inl rfl) kr ?_
 exact ⟨rfl, T0⟩
theorem psome_ok {h : AH} {a : Addr} {n c : Nat} : Arm.Calls Try.prog 85 [.slice (some a) n c] h (fun r => r.1 = .bool false ∧ Sm Nix h r.2) := by
 refine Calls_W 5 Try.f85 ?_
 have T0 : Sm Nix h h := .refl
 refine W_sg 1 kr (L_nil (W_sg 1 kr (L_p (.bool false) rfl (ev_bin (o := _) rfl kr kr (eql_some (a := a) (n := n) (c := c))) (L_g 1 kr (L_nil (W_ret ?_))))))
 repeat first | with_reducible refine then_ret ?_ | with_reducible refine blk_ret ?_
 refine done_of (v := .bool false) (.inl rfl) kr ?_
 exact ⟨rfl, T0⟩
theorem ixf_by {h : AH} {s : Value} {g : FuncId} {cs : List Value} {α : Type} {l : List α} {pr : α → Bool} (H : Sd h 1 s l.length cs) (hl : l.length < big) (hg : ∀ vs h, aCallX Try.prog g vs h = some [(.enter g vs, h)])
  (hc : ∀ (i : Nat) x, l[i]? = some x → ∃ v, cs[i]? = some v ∧ ∀ h', Sm Nix h h' → Arm.Calls Try.prog g [v] h' (fun r => r.1 = .bool (pr x) ∧ Sm Nix h' r.2)) :
  Arm.Calls Try.prog 87 [s, .func (.func g) ⟨[]⟩ ⟨[]⟩] h (fun r => r.1 = nv (match l.findIdx? pr with | some i => (i : Int) | none => -1) ∧ Sm Nix h r.2) := by
 have hl : l.length < 1000000000 := hl
 refine Calls_W 19 Try.f87 ?_
 have T0 : Sm Nix h h := .refl
 refine W_sg 1 kr (L_nil (W_seq (W_sg 1 kr (L_ln _ rfl rfl kr ((H.ext T0).len (T := 65) (el := 23) kr) (L_g 1 kr (L_nil (W_block ?_)))))))
 refine W_loop (fun mm fr hh => ∃ (k : Nat), (k ≤ l.length) ∧ (l.findIdx? pr = ((l.drop k).findIdx? pr).map (· + k)) ∧ mm = l.length - k ∧ fr 0 = s ∧ fr 1 = .func (.func g) ⟨[]⟩ ⟨[]⟩ ∧ fr 7 = nv (l.length : Int) ∧ fr 8 = nv (k : Int) ∧ Sm Nix h hh) (l.length) ?_ ?_
 ·
  exact ⟨0, Nat.zero_le _, by simp, rfl, kr, kr, kr, kr, T0⟩
 rintro mm453 fr453 h453 ⟨k, hk, hf, hm453, y453_0, y453_1, y453_7, y453_8, T453⟩
 have N453 := T453.nx
 refine W_set (k := 0) y453_0 (W_set (k := 1) y453_1 (W_set (k := 7) y453_7 (W_set (k := 8) y453_8 (W_sg 1 kr (L_nil (W_seq ?_))))))
 refine W_cond (decide ((k : Int) < (l.length : Nat))) kr (fun hb => ?_) (fun hb => ?_)
 ·
  have hlt : k < l.length := by simp at hb; omega
  obtain ⟨x, hx⟩ : ∃ x, l[k]? = some x := ⟨_, List.getElem?_eq_getElem hlt⟩
  have hdr : l.drop k = x :: l.drop (k + 1) := by rw [List.drop_eq_getElem_cons hlt]; congr 1; exact (List.getElem?_eq_some_iff.1 hx).2
  obtain ⟨v, hv, hcall⟩ := hc k x hx
  obtain ⟨b9, o9, _, i9, l9⟩ := (H.ext T453).at (P := Try.prog) (T := 65) (el := 23) kr kr hlt .i64
  refine W_skip (W_seq (W_block (W_sg 2 kr (L_nil (W_sg 3 kr (L_ix _ rfl rfl kr kr (i9) (L_ld _ rfl rfl kr (ld_cell kr (by have := l9 0 (by decide); rw [Nat.add_zero, Nat.mul_one, Nat.add_zero] at this; rw [this]; exact hv)) ?_)))))))
  refine L_c rfl rfl (Eq.trans (b := aCallX Try.prog g [v] h453) kr (hg _ _)) (hcall _ T453) ?_
  rintro v454 h454 ⟨e454, t454⟩
  try dsimp only at e454
  try dsimp only at t454
  subst e454
  have T454 := T453.ext t454
  have N454 := T454.nx
  have M454 := t454.nx
  refine L_nil ?_
  refine W_cond (pr x) kr (fun hb => ?_) (fun hb => ?_)
  ·
   have hres : nv (match l.findIdx? pr with | some i => (i : Int) | none => -1) = nv (k : Int) := by rw [hf, hdr, List.findIdx?_cons, hb]; simp
   rw [hres]
   refine W_sg 2 kr (L_nil (W_ret ?_))
   repeat first | with_reducible refine then_ret ?_ | with_reducible refine blk_ret ?_
   refine done_of (v := nv (k : Int)) (.inl rfl) kr ?_
   exact ⟨rfl, T454⟩
  ·
   have hfb : pr x = false := hb
   refine W_skip (W_region (L_i ((k : Int)) (1) (nv ((k + 1 : Nat) : Int)) rfl rfl kr kr rfl (inc_ok (by omega)) (L_g 1 kr (L_nil ?_))))
   exact ⟨l.length - (k + 1), by omega, k + 1, by omega, find_step hf hdr hfb, rfl, kr, kr, kr, kr, T454⟩
 ·
  have hge : k = l.length := by simp at hb; omega
  have hres : nv (match l.findIdx? pr with | some i => (i : Int) | none => -1) = nv (-1) := by rw [hf, hge]; simp
  rw [hres]
  refine W_exit ?_
  repeat with_reducible refine then_exit ?_
  refine exit_here (W_sg 1 kr (L_nil (W_ret ?_)))
  repeat first | with_reducible refine then_ret ?_ | with_reducible refine blk_ret ?_
  refine done_of (v := nv (-1)) (.inl rfl) kr ?_
  exact ⟨rfl, T453⟩
theorem any_find {α : Type} {l : List α} {q : α → Bool} : (l.findIdx? q).isSome = l.any q := by
 induction l with
 | nil => rfl
 | cons x l ih =>
  rw [List.findIdx?_cons, List.any_cons, ← ih]
  cases q x <;> cases l.findIdx? q <;> rfl
theorem pmiss_ok {W : Wd} {G : Gh} {h : AH} {p no : Nat} (R : Rep W G h) (hp : p < W.n) (hr : G.C (.rq p no) ≠ .no) (hl : (W.rq p no).pcs.length < big) :
  Arm.Calls Try.prog 84 [G.S (.pcs p no), .func (.func 85) ⟨[]⟩ ⟨[]⟩] h (fun r => r.1 = .bool ((W.rq p no).pcs.any Option.isNone) ∧ Sm Nix h r.2) := by
 obtain ⟨cs, A, H, _⟩ := R.pcs hp hr
 have hix := ixf_by (pr := Option.isNone) (l := (W.rq p no).pcs) A.sd hl (g := 85) (fun _ _ => rfl) (fun i x hx => by
  obtain ⟨c, ⟨v, rfl, hv⟩, _, hc⟩ := H.get hx
  have h9 := hc 0 (by decide)
  rw [Nat.mul_one, Nat.add_zero] at h9
  refine ⟨v, h9, fun h' t => ?_⟩
  cases x with
  | none => obtain rfl : v = nilS := hv; exact pnil_ok
  | some d => obtain ⟨a, n, c, rfl⟩ := hv.2; exact psome_ok)
 rw [← any_find]
 cases hf : (W.rq p no).pcs.findIdx? Option.isNone with
 | none =>
  rw [hf] at hix
  refine Calls_W 9 Try.f84 ?_
  have T0 : Sm Nix h h := .refl
  refine W_sg 1 kr (L_nil (W_sg 2 kr (L_c rfl rfl kr (hix) ?_)))
  rintro v451 h451 ⟨e451, t451⟩
  try dsimp only at e451
  try dsimp only at t451
  subst e451
  have T451 := T0.ext t451
  have N451 := T451.nx
  have M451 := t451.nx
  refine L_i (-1) (0) (.bool false) rfl rfl kr kr rfl (by first | (simp; done) | (simp; omega)) (L_g 1 kr (L_nil (W_ret ?_)))
  repeat first | with_reducible refine then_ret ?_ | with_reducible refine blk_ret ?_
  refine done_of (v := .bool false) (.inl rfl) kr ?_
  exact ⟨rfl, T451⟩
 | some i =>
  rw [hf] at hix
  refine Calls_W 9 Try.f84 ?_
  have T0 : Sm Nix h h := .refl
  refine W_sg 1 kr (L_nil (W_sg 2 kr (L_c rfl rfl kr (hix) ?_)))
  rintro v452 h452 ⟨e452, t452⟩
  try dsimp only at e452
  try dsimp only at t452
  subst e452
  have T452 := T0.ext t452
  have N452 := T452.nx
  have M452 := t452.nx
  refine L_i ((i : Int)) (0) (.bool true) rfl rfl kr kr rfl (by first | (simp; done) | (simp; omega)) (L_g 1 kr (L_nil (W_ret ?_)))
  repeat first | with_reducible refine then_ret ?_ | with_reducible refine blk_ret ?_
  refine done_of (v := .bool true) (.inl rfl) kr ?_
  exact ⟨rfl, T452⟩
end
end Go.Proofs.Ytmehemeoaplepaa
namespace Go.Arm
noncomputable section
open Go Go.X
variable {P : Program} {h h' : AH} {S : Nat → Prop} {T el : TypeId}
theorem zrep_l (z : Value) (m : Nat) : (zrep m [z]).length = m := by
 induction m with
 | zero => rfl
 | succ m ih => rw [zrep, List.length_append, ih]; simp; omega
theorem Gb.room {sT xT : TypeId} {by_ N : Nat} {z : Value} (hT : P.underlying sT = some (.slice el)) (hx : newsK P xT = .zeros) (hs : szOf P el = some 1) (hb : byOf P el = some by_) (hz : zeroOf P el = some z) (hzl : cellsL z = [z]) (hz1 : z.oneCell' = true) (hu8 : isU8 P el = some el)
   (hN : 0 < N) (hlim : N * (by_ + 1) < 1099511627776) :
   ∃ h', aAppend P sT xT (.slice none 0 0) (.int .i64 (N : Nat)) h = some (.slice (some ⟨h.next, 0, none⟩) N open_, h') ∧ Gb h' (.slice (some ⟨h.next, 0, none⟩) 0 open_) N [] ∧ Sm Nix h h' ∧ h'.next = h.next + 1 ∧ opOf h' h.next = some (N, 1) := by
 have hN2 : N < 1099511627776 := Nat.lt_of_le_of_lt (Nat.le_mul_of_pos_right N (Nat.succ_pos _)) hlim
 have hn : aNews P xT 1 z (.int .i64 ((N : Nat) : Int)) h = some (N, zrep N [z]) := by
   have hi2 : (N : Int) < 1099511627776 := by omega
   unfold aNews
   rw [hx]
   show (if 0 ≤ (N : Int) ∧ (N : Int) < 1099511627776 then some ((N : Int).toNat, zrep (N : Int).toNat (cellsL z)) else none) = _
   rw [if_pos ⟨Int.natCast_nonneg _, hi2⟩, Int.toNat_natCast, hzl]
 refine ⟨⟨h.m.set h.next (some (.tcells el (X.T.fill (zrep N [z]) 0 .e) N 1)), h.next + 1⟩, ?_, ⟨h.next, el, X.T.fill (zrep N [z]) 0 .e, rfl, Nat.lt_succ_self _, ?_, Nat.zero_le _, fun j hj => absurd hj (Nat.not_lt_zero _)⟩, ⟨Nat.le_succ _, fun k hk _ => ?_⟩, rfl, ?_⟩
 · unfold aAppend
   simp only [hT, hs, hb, hz]
   rw [hn]
   have hl0 : X.lenV (.slice none 0 0) = some 0 := rfl
   simp only [hl0]
   rw [if_pos ⟨by rw [hzl]; rfl, by rw [zrep_l, Nat.mul_one], by
    rw [List.all_eq_true]
    intro x hx
    have : ∀ m, x ∈ zrep m [z] → x = z := fun m => by
     induction m with
     | zero => intro h; cases h
     | succ m ih =>
      intro h
      rw [zrep] at h
      rcases List.mem_append.1 h with h | h
      · exact List.mem_singleton.1 h
      · exact ih h
    rw [this N hx]; exact hz1, by rw [Nat.zero_add]; exact hlim⟩]
   unfold aAppendTo
   dsimp only
   rw [if_pos ⟨rfl, rfl⟩, if_neg (by omega)]
   unfold AH.newo
   rw [hu8]
   simp [mkO, zrep_l]
 · show (h.m.set h.next _).get h.next = _
   rw [X.T.get_set, if_pos rfl]
 · show (h.m.set h.next _).get k = _
   rw [X.T.get_set, if_neg (by omega)]
 · unfold X.opOf
   show (match (h.m.set h.next _).get h.next with | some (.cells _ n op false) => some (n, op) | some (.tcells _ _ n op) => some (n, op) | _ => none) = _
   rw [X.T.get_set, if_pos rfl]
theorem cut_room {b N n : Nat} (hT : P.underlying T = some (.slice el)) (hk : szOf P el = some 1) (hop : X.opOf h b = some (n, 1)) : aSl P T (.slice (some ⟨b, 0, none⟩) N open_) none (some (.int .i64 0)) none h = some (.slice (some ⟨b, 0, none⟩) 0 open_) := by
 unfold aSl aSlice
 simp only [hT, hk, hop]
 rw [if_pos (by rfl)]
 rw [if_pos trivial]
 have hb : bnd (some (.int .i64 0)) N = some 0 := by unfold bnd; simp
 have hb0 : bnd none 0 = some 0 := by unfold bnd; rfl
 rw [hb, hb0]
 dsimp only
 rw [if_pos ⟨Nat.le_refl _, rfl, .inl (Nat.zero_le _)⟩]
theorem app_nil {sT xT : TypeId} {by_ : Nat} {z : Value} {a : Option Addr} {c : Nat} (hT : P.underlying sT = some (.slice el)) (hx : newsK P xT = .list) (hs : szOf P el = some 1) (hb : byOf P el = some by_) (hz : zeroOf P el = some z) (hzl : (cellsL z).length = 1) (hu : Rb h (.slice a 0 c) []) :
  aAppend P sT xT (.slice none 0 0) (.slice a 0 c) h = some (.slice none 0 0, h) := by
 have hf := hu.first
 unfold aAppend
 simp only [hT, hs, hb, hz]
 unfold aNews
 have hlen : X.lenV (.slice a 0 c) = some 0 := rfl
 have hf : aFirst 1 0 (.slice a 0 c) h = some [] := hf
 simp only [hx, hlen, hf]
 have hl0 : X.lenV (.slice none 0 0) = some 0 := rfl
 simp only [hl0]
 rw [if_pos ⟨hzl, rfl, rfl, by omega⟩]
 unfold aAppendTo
 dsimp only
 rw [if_pos ⟨rfl, rfl⟩, if_pos rfl]
end
end Go.Arm
namespace Go.Proofs.Ytmehemeoaplepaa
noncomputable section
open Go Go.X Go.Arm Go.Mt
theorem sl_nil9 {h : AH} : aSl Try.prog 23 (.slice none 0 0) none (some (nv 0)) none h = some (.slice none 0 0) := by kernel_rfl
theorem len_nil9 {h : AH} : aLen Try.prog 23 (.slice none 0 0) h = some (nv 0) := by kernel_rfl
theorem sub0 {N : Nat} (h : N < 1000000000) : Value.int .i64 (IntKind.i64.wrap ((N : Int) - 0)) = nv (N : Int) := by
 have : IntKind.i64.wrap ((N : Int) - 0) = (N : Int) := by rw [IntKind.wrap_i64]; omega
 rw [this]; rfl
theorem grow0_ok {h : AH} {N : Nat} (hN0 : N = 0) : Arm.Calls Try.prog 88 [(.slice none 0 0), nv (N : Int)] h (fun r => r.1 = (.slice none 0 0) ∧ Sm Nix h r.2) := by
 have hN9 : N < 1000000000 := by omega
 refine Calls_W 27 Try.f88 ?_
 have T0 : Sm Nix h h := .refl
 refine W_sg 1 kr (L_nil (W_seq (W_sg 1 kr (L_i ((N : Int)) (0) (.bool false) rfl rfl kr kr rfl (congrArg Value.bool (decide_eq_false (by omega))) (L_nil ?_)))))
 refine W_cond false kr (fun e => by cases e) (fun _ => ?_)
 refine W_skip (W_seq (W_sg 2 kr (L_p (nv 0) rfl kr (L_g 1 kr (L_ln _ rfl rfl kr (len_nil9) (L_i (0) (0) (nv 0) rfl rfl kr kr rfl (rfl) (L_i ((N : Int)) (0) (nv (N : Int)) rfl rfl kr kr rfl (sub0 hN9) (L_g 1 kr (L_nil ?_)))))))))
 refine W_sg 1 kr (L_i ((N : Int)) (0) (.bool false) rfl rfl kr kr rfl (congrArg Value.bool (decide_eq_false (by omega))) (L_nil ?_))
 refine W_cond false kr (fun e => by cases e) (fun _ => ?_)
 refine W_skip (W_sg 2 kr (L_nil (W_ret ?_)))
 repeat first | with_reducible refine then_ret ?_ | with_reducible refine blk_ret ?_
 refine done_of (v := (.slice none 0 0)) (.inl rfl) kr ?_
 exact ⟨rfl, T0⟩
theorem grow_ok {h : AH} {N : Nat} (hN0 : 0 < N) (hN9 : N < 1000000000) : Arm.Calls Try.prog 88 [(.slice none 0 0), nv (N : Int)] h (fun r => Gb r.2 r.1 N [] ∧ Sm Nix h r.2 ∧ ∀ b, vb r.1 = some b → h.next ≤ b ∧ b < r.2.next) := by
 refine Calls_W 27 Try.f88 ?_
 have T0 : Sm Nix h h := .refl
 refine W_sg 1 kr (L_nil (W_seq (W_sg 1 kr (L_i ((N : Int)) (0) (.bool false) rfl rfl kr kr rfl (congrArg Value.bool (decide_eq_false (by omega))) (L_nil ?_)))))
 refine W_cond false kr (fun e => by cases e) (fun _ => ?_)
 refine W_skip (W_seq (W_sg 2 kr (L_p (nv 0) rfl kr (L_g 1 kr (L_ln _ rfl rfl kr (len_nil9) (L_i (0) (0) (nv 0) rfl rfl kr kr rfl (rfl) (L_i ((N : Int)) (0) (nv (N : Int)) rfl rfl kr kr rfl (sub0 hN9) (L_g 1 kr (L_nil ?_)))))))))
 refine W_sg 1 kr (L_i ((N : Int)) (0) (.bool true) rfl rfl kr kr rfl (congrArg Value.bool (decide_eq_true (by omega))) (L_nil ?_))
 refine W_cond true kr (fun _ => ?_) (fun e => by cases e)
 refine W_rg 2 kr (L_p (nv 0) rfl kr (L_sl _ rfl rfl kr kr kr kr (sl_nil9) (L_g 1 kr ?_)))
 obtain ⟨h455, e455, g455, t455, n455, o455⟩ := Gb.room (P := Try.prog) (h := h) (sT := 23) (xT := 3) (el := 5) (by_ := 1) (z := .int .u8 0) (N := N) kr kr kr kr kr rfl rfl kr hN0 (by omega)
 refine L_bi _ _ rfl rfl kr kr (bi_append e455) ?_
 have T455 := T0.ext t455
 have N455 := T455.nx
 refine L_g 1 kr (L_ln _ rfl rfl kr (len_nil9) (L_sl _ rfl rfl kr kr kr kr (cut_room (N := N) (el := 5) kr kr o455) (L_g 1 kr (L_nil (W_sg 2 kr (L_nil (W_ret ?_)))))))
 repeat first | with_reducible refine then_ret ?_ | with_reducible refine blk_ret ?_
 refine done_of (v := .slice (some ⟨h.next, 0, none⟩) 0 open_) (.inl rfl) kr ?_
 exact ⟨g455, T455, fun b hb => by cases hb; exact ⟨Nat.le_refl _, show h.next < h455.next by have := n455; omega⟩⟩
end
end Go.Proofs.Ytmehemeoaplepaa
