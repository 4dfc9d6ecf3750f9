/- Worlds of the program and walks of its functions. -/
import Derived.Test.YtmehemeoaplepaaZl
import Derived.Test.YtmehemeoaplepaaZk
namespace Go.Proofs.Ytmehemeoaplepaa
noncomputable section
open Go Go.X Go.Arm Go.Mt
theorem inc_int {x : Int} (h0 : -1000000000 < x) (h1 : x < 1000000000) : Value.int .i64 (IntKind.i64.wrap (x + 1)) = nv (x + 1) := by
 have : IntKind.i64.wrap (x + 1) = x + 1 := by rw [IntKind.wrap_i64]; omega
 rw [this]; rfl
theorem _root_.Go.Arm.Dr.ext {h h' : AH} {ro : Nat → Prop} {v : Value} {d : By} (H : Dr h ro v d) (s : Sm Nix h h') : Dr h' ro v d := ⟨H.1.ext s, H.2⟩
theorem find_lt {α : Type} {l : List α} {pr : α → Bool} {i : Nat} (h : l.findIdx? pr = some i) : i < l.length := by
 rw [List.findIdx?_eq_some_iff_getElem] at h
 exact h.1
theorem came_ok {W : Wd} {G : Gh} {h : AH} {p : Nat} {m : Ms} {W' : Wd} {v : Value} (R : Rep W G h) (hp : p < W.n) (hv : MsV h G.ro v m) (he : W.came p m = some W') :
   Arm.Calls Try.prog 90 [ptr (G.B .wd), nv (p : Int), .agg ⟨[nv m.en.src, nv m.en.ctx, nv m.en.tag, nv m.en.size, nv m.en.parts, v]⟩] h (fun r => Nxt W' G h r.2) := by
 obtain ⟨ty, u, rfl⟩ := hv.iface
 unfold Wd.came at he
 split at he
 · cases he
 · rename_i hc
   obtain ⟨hsm, hl⟩ := Classical.not_not.1 hc
   split at he
   · rename_i i hf
     obtain ⟨x, hx⟩ : ∃ x, (W.pr p).rcvs[i]? = some x := ⟨_, List.getElem?_eq_getElem (find_lt hf)⟩
     have hr := (R.rel.pr p hp).rcp x (List.mem_of_getElem? hx)
     rw [List.getD_eq_getElem?_getD, hx, Option.getD_some] at he
     refine Calls_W 35 Try.f90 ?_
     have T0 : Sm Nix h h := .refl
     refine W_seq (W_region ?_)
     have m75 : ¬ (Gh.mut G) h.next ∧ ¬ (Gh.ro G) h.next := ⟨(R.ext T0).op.new (Nat.le_refl _), (R.ext T0).op.newr (Nat.le_refl _)⟩
     refine L_nwc [nv m.en.src, nv m.en.ctx, nv m.en.tag, nv m.en.size, nv m.en.parts, .iface ty u] .ptr rfl rfl kr fun h75 c75 t75 n75 => ?_
     have T75 := T0.ext t75
     have N75 := T75.nx
     refine L_nil (W_sg 3 kr (L_ld _ rfl rfl kr ((R.ext T75).wdL.ld (o := 1) kr rfl) (L_g 1 kr ?_)))
     obtain ⟨b1, o1, i1, l1⟩ := (R.ext T75).prsAt (P := Try.prog) (T := 74) (el := 77) kr kr kr hp
     refine L_ix _ rfl rfl kr kr (i1) (L_ld _ rfl rfl kr (l1) (L_g 1 kr (L_nil (W_sg 4 kr (L_c rfl rfl kr (take_rq (R.ext T75) hp (pr := fun no => (W.rq p no).fits m.en) hl (fun _ _ => rfl) (fun x hx h' t => cm1_ok (e := m.en) ((R.ext T75).ext t) hp ((R.rel.pr p hp).rcp x hx) (hsm x hx) (c75.ext t)) hf hx) ?_)))))
     rintro v76 h76 ⟨e76, N76⟩
     dsimp only at e76 N76
     subst e76
     obtain ⟨S76, C76, ro76, R76, Y76⟩ := N76
     have X76 := ((Gx.refl).trans (Gx.of T75)).trans Y76
     have m75_76 : ¬ (Gh.mut ⟨Gh.B G, S76, C76, ro76⟩) (h.next) ∧ ¬ (Gh.ro ⟨Gh.B G, S76, C76, ro76⟩) (h.next) := ⟨fun hm => (Y76.mu _ hm).elim m75.1 (fun e => by have := c75.lt; omega), fun hm => (Y76.ron _ hm).elim m75.2 (fun e => by have := c75.lt; omega)⟩
     replace c75 := c75.sm Y76.sm m75.1
     have T76 : Sm (Ow h (⟨Gh.B G, S76, C76, ro76⟩ : Gh)) h76 h76 := .refl
     refine L_g 5 kr (L_nil (W_sg 1 kr (L_nil ?_)))
     refine W_cond true kr (fun _ => ?_) (fun e => by cases e)
     refine W_rg 3 kr (L_ld _ rfl rfl kr (Cl.allN (n := 6) c75 rfl kr) (L_c rfl rfl kr (match_ok (v := .iface ty u) (R76.ow T76) hp (((((X76).ow T76)).keep _ hr).1) (hv.mono ((((X76).ow T76)).dr R.op)) he) ?_))
     rintro v77 h77 N77
     dsimp only at N77
     obtain ⟨S77, C77, ro77, R77, Y77⟩ := N77
     have X77 := ((X76).ow T76).trans Y77
     have m75_76_77 : ¬ (Gh.mut ⟨Gh.B (⟨Gh.B G, S76, C76, ro76⟩ : Gh), S77, C77, ro77⟩) (h.next) ∧ ¬ (Gh.ro ⟨Gh.B (⟨Gh.B G, S76, C76, ro76⟩ : Gh), S77, C77, ro77⟩) (h.next) := ⟨fun hm => (Y77.mu _ hm).elim m75_76.1 (fun e => by have := c75.lt; omega), fun hm => (Y77.ron _ hm).elim m75_76.2 (fun e => by have := c75.lt; omega)⟩
     have T77 : Sm (Ow h (⟨Gh.B (⟨Gh.B G, S76, C76, ro76⟩ : Gh), S77, C77, ro77⟩ : Gh)) h77 h77 := .refl
     refine L_nil ?_
     repeat with_reducible refine blk_norm ?_
     refine done_of (v := .tuple ⟨[]⟩) (.inr rfl) kr ?_
     exact ⟨_, _, _, (R77.ow T77), ((X77).ow T77)⟩
   · rename_i hf
     split at he
     · rename_i hl2
       obtain rfl := Option.some.inj he
       refine Calls_W 35 Try.f90 ?_
       have T0 : Sm Nix h h := .refl
       refine W_seq (W_region ?_)
       have m78 : ¬ (Gh.mut G) h.next ∧ ¬ (Gh.ro G) h.next := ⟨(R.ext T0).op.new (Nat.le_refl _), (R.ext T0).op.newr (Nat.le_refl _)⟩
       refine L_nwc [nv m.en.src, nv m.en.ctx, nv m.en.tag, nv m.en.size, nv m.en.parts, .iface ty u] .ptr rfl rfl kr fun h78 c78 t78 n78 => ?_
       have T78 := T0.ext t78
       have N78 := T78.nx
       refine L_nil (W_sg 3 kr (L_ld _ rfl rfl kr ((R.ext T78).wdL.ld (o := 1) kr rfl) (L_g 1 kr ?_)))
       obtain ⟨b1, o1, i1, l1⟩ := (R.ext T78).prsAt (P := Try.prog) (T := 74) (el := 77) kr kr kr hp
       refine L_ix _ rfl rfl kr kr (i1) (L_ld _ rfl rfl kr (l1) (L_g 1 kr (L_nil (W_sg 4 kr (L_c rfl rfl kr (take_rq_no (R.ext T78) hp (pr := fun no => (W.rq p no).fits m.en) hl (fun _ _ => rfl) (fun x hx h' t => cm1_ok (e := m.en) ((R.ext T78).ext t) hp ((R.rel.pr p hp).rcp x hx) (hsm x hx) (c78.ext t)) hf) ?_)))))
       rintro v79 h79 ⟨e79, t79⟩
       try dsimp only at e79
       try dsimp only at t79
       subst e79
       replace c78 := c78.ext t79
       have T79 := T78.ext t79
       have N79 := T79.nx
       have M79 := t79.nx
       refine L_g 5 kr (L_nil (W_sg 1 kr (L_nil ?_)))
       refine W_cond false kr (fun e => by cases e) (fun _ => ?_)
       refine W_drawn kr (D_e (e := 4) (l := [0,1,2,3]) (s' := []) kr kr rfl kr Rk_nil (NS_b 3 kr (NS_ld _ rfl rfl kr kr kr (Cl.allN (n := 6) c78 rfl kr) (NS_nil (L_c rfl rfl kr (putq_ms (R.ext T79) hp (hv.mono ((((Gx.refl).trans (Gx.of T79))).dr R.op)) hl2) ?_)))))
       rintro v80 h80 N80
       dsimp only at N80
       obtain ⟨S80, C80, ro80, R80, Y80⟩ := N80
       have X80 := ((Gx.refl).trans (Gx.of T79)).trans Y80
       have m78_80 : ¬ (Gh.mut ⟨Gh.B G, S80, C80, ro80⟩) (h.next) ∧ ¬ (Gh.ro ⟨Gh.B G, S80, C80, ro80⟩) (h.next) := ⟨fun hm => (Y80.mu _ hm).elim m78.1 (fun e => by have := c78.lt; omega), fun hm => (Y80.ron _ hm).elim m78.2 (fun e => by have := c78.lt; omega)⟩
       have T80 : Sm (Ow h (⟨Gh.B G, S80, C80, ro80⟩ : Gh)) h80 h80 := .refl
       refine L_nil ⟨rfl, ?_⟩
       refine D_l (l := []) kr kr Rk_nil (NS_nil ?_)
       repeat with_reducible refine blk_norm ?_
       refine done_of (v := .tuple ⟨[]⟩) (.inr rfl) kr ?_
       exact ⟨_, _, _, (R80.ow T80), ((X80).ow T80)⟩
     · cases he
end
end Go.Proofs.Ytmehemeoaplepaa
namespace Go.Proofs.Ytmehemeoaplepaa
noncomputable section
open Go Go.X Go.Arm Go.Mt
theorem heager_ok {W : Wd} {G : Gh} {h : AH} {p : Nat} {f : Int} {e : En} {d : By} {W' : Wd} {da : Option Addr} {dc : Nat} (R : Rep W G h) (hp : p < W.n) (hd : Dr h G.ro (.slice da (List.map bv d).length dc) d) (he : W.came p (.eager e d) = some W') :
  Arm.Calls Try.prog 97 [.agg ⟨[nv e.src, nv e.ctx, nv e.tag, nv e.size, nv e.parts, .slice da (List.map bv d).length dc]⟩, ptr (G.B .wd), nv (p : Int), nv f] h (fun r => Nxt W' G h r.2) := by
 refine Calls_W 16 Try.f97 ?_
 have T0 : Sm Nix h h := .refl
 refine W_seq (W_region ?_)
 have m81 : ¬ (Gh.mut G) h.next ∧ ¬ (Gh.ro G) h.next := ⟨(R.ext T0).op.new (Nat.le_refl _), (R.ext T0).op.newr (Nat.le_refl _)⟩
 refine L_nwc [nv e.src, nv e.ctx, nv e.tag, nv e.size, nv e.parts, .slice da (List.map bv d).length dc] .ptr rfl rfl kr fun h81 c81 t81 n81 => ?_
 have T81 := T0.ext t81
 have N81 := T81.nx
 refine L_nil (W_rg 3 kr (L_ld _ rfl rfl kr (Cl.ldS (k := 5) (o := 0) c81 kr (by simp)) (L_ld _ rfl rfl kr (Cl.allN (n := 6) c81 rfl kr) (L_g 2 kr (L_c rfl rfl kr (came_ok (m := .eager e d) (v := .iface Tys.e (.agg ⟨[nv e.src, nv e.ctx, nv e.tag, nv e.size, nv e.parts, .slice da (List.map bv d).length dc]⟩)) (R.ext T81) hp ⟨_, Dr.ext hd (by first | exact T0 | assumption), rfl⟩ he) ?_)))))
 rintro v82 h82 N82
 dsimp only at N82
 obtain ⟨S82, C82, ro82, R82, Y82⟩ := N82
 have X82 := ((Gx.refl).trans (Gx.of T81)).trans Y82
 have m81_82 : ¬ (Gh.mut ⟨Gh.B G, S82, C82, ro82⟩) (h.next) ∧ ¬ (Gh.ro ⟨Gh.B G, S82, C82, ro82⟩) (h.next) := ⟨fun hm => (Y82.mu _ hm).elim m81.1 (fun e => by have := c81.lt; omega), fun hm => (Y82.ron _ hm).elim m81.2 (fun e => by have := c81.lt; omega)⟩
 have T82 : Sm (Ow h (⟨Gh.B G, S82, C82, ro82⟩ : Gh)) h82 h82 := .refl
 refine L_nil ?_
 repeat with_reducible refine blk_norm ?_
 refine done_of (v := .tuple ⟨[]⟩) (.inr rfl) kr ?_
 exact ⟨_, _, _, (R82.ow T82), ((X82).ow T82)⟩
theorem hask_ok {W : Wd} {G : Gh} {h : AH} {p : Nat} {f : Int} {e : En} {q : Int} {W' : Wd} (R : Rep W G h) (hp : p < W.n) (he : W.came p (.ask e q) = some W') :
  Arm.Calls Try.prog 89 [.agg ⟨[nv e.src, nv e.ctx, nv e.tag, nv e.size, nv e.parts, nv q]⟩, ptr (G.B .wd), nv (p : Int), nv f] h (fun r => Nxt W' G h r.2) := by
 refine Calls_W 16 Try.f89 ?_
 have T0 : Sm Nix h h := .refl
 refine W_seq (W_region ?_)
 have m83 : ¬ (Gh.mut G) h.next ∧ ¬ (Gh.ro G) h.next := ⟨(R.ext T0).op.new (Nat.le_refl _), (R.ext T0).op.newr (Nat.le_refl _)⟩
 refine L_nwc [nv e.src, nv e.ctx, nv e.tag, nv e.size, nv e.parts, nv q] .ptr rfl rfl kr fun h83 c83 t83 n83 => ?_
 have T83 := T0.ext t83
 have N83 := T83.nx
 refine L_nil (W_rg 3 kr (L_ld _ rfl rfl kr (Cl.ldS (k := 5) (o := 0) c83 kr (by simp)) (L_ld _ rfl rfl kr (Cl.allN (n := 6) c83 rfl kr) (L_g 2 kr (L_c rfl rfl kr (came_ok (m := .ask e q) (v := .iface Tys.a (.agg ⟨[nv e.src, nv e.ctx, nv e.tag, nv e.size, nv e.parts, nv q]⟩)) (R.ext T83) hp rfl he) ?_)))))
 rintro v84 h84 N84
 dsimp only at N84
 obtain ⟨S84, C84, ro84, R84, Y84⟩ := N84
 have X84 := ((Gx.refl).trans (Gx.of T83)).trans Y84
 have m83_84 : ¬ (Gh.mut ⟨Gh.B G, S84, C84, ro84⟩) (h.next) ∧ ¬ (Gh.ro ⟨Gh.B G, S84, C84, ro84⟩) (h.next) := ⟨fun hm => (Y84.mu _ hm).elim m83.1 (fun e => by have := c83.lt; omega), fun hm => (Y84.ron _ hm).elim m83.2 (fun e => by have := c83.lt; omega)⟩
 have T84 : Sm (Ow h (⟨Gh.B G, S84, C84, ro84⟩ : Gh)) h84 h84 := .refl
 refine L_nil ?_
 repeat with_reducible refine blk_norm ?_
 refine done_of (v := .tuple ⟨[]⟩) (.inr rfl) kr ?_
 exact ⟨_, _, _, (R84.ow T84), ((X84).ow T84)⟩
theorem hcredit_ok {W : Wd} {G : Gh} {h : AH} {p i : Nat} (R : Rep W G h) (hp : p < W.n) (hi : i < (W.pr p).crds.length) (h1 : ((W.pr p).crds.getD i 0) < big) (h0 : -(big : Int) < ((W.pr p).crds.getD i 0)) :
  Arm.Calls Try.prog 98 [.agg ⟨[]⟩, ptr (G.B .wd), nv (p : Int), nv (i : Int)] h (fun r => Nxt (W.setPr p { W.pr p with crds := (W.pr p).crds.set i (((W.pr p).crds.getD i 0) + 1) }) G h r.2) := by
 have h1 : ((W.pr p).crds.getD i 0) < 1000000000 := h1
 have h0 : -1000000000 < ((W.pr p).crds.getD i 0) := h0
 have hci : ((W.pr p).crds.map nv)[i]? = some (nv ((W.pr p).crds.getD i 0)) := by rw [List.getElem?_map, List.getElem?_eq_getElem hi, List.getD_eq_getElem?_getD, List.getElem?_eq_getElem hi]; rfl
 refine Calls_W 23 Try.f98 ?_
 have T0 : Sm Nix h h := .refl
 refine W_seq (W_region ?_)
 have m85 : ¬ (Gh.mut G) h.next ∧ ¬ (Gh.ro G) h.next := ⟨(R.ext T0).op.new (Nat.le_refl _), (R.ext T0).op.newr (Nat.le_refl _)⟩
 refine L_nwc [] .ptr rfl rfl kr fun h85 c85 t85 n85 => ?_
 have T85 := T0.ext t85
 have N85 := T85.nx
 refine L_nil (W_rg 3 kr (L_ld _ rfl rfl kr ((R.ext T85).wdL.ld (o := 1) kr rfl) (L_g 1 kr ?_)))
 obtain ⟨b1, o1, i1, l1⟩ := (R.ext T85).prsAt (P := Try.prog) (T := 74) (el := 77) kr kr kr hp
 refine L_ix _ rfl rfl kr kr (i1) (L_ld _ rfl rfl kr (l1) (L_g 2 kr (L_ld _ rfl rfl kr (((R.ext T85).prL hp).ld (o := 6) kr rfl) (L_g 1 kr ?_))))
 obtain ⟨pa, xa, i1, i2, i3, i4, i5⟩ := ((R.ext T85).crd hp).elem (P := Try.prog) (T := 29) (el := 3) kr kr kr hi .i64
 obtain rfl : xa = nv ((W.pr p).crds.getD i 0) := Option.some.inj (i2.symm.trans hci)
 refine L_ix _ rfl rfl kr kr (i1) (L_ld _ rfl rfl kr (i3) (L_i (((W.pr p).crds.getD i 0)) (1) (nv (((W.pr p).crds.getD i 0) + 1)) rfl rfl kr kr rfl (inc_int h0 h1) (L_ix _ rfl rfl kr kr (i1) ?_)))
 obtain ⟨h86, e86, w86, t86, n86⟩ := i5 (nv (((W.pr p).crds.getD i 0) + 1)) rfl rfl
 have N86 : Nxt (W.setPr p { W.pr p with crds := (W.pr p).crds.set i (((W.pr p).crds.getD i 0) + 1) }) G h85 h86 := (R.ext T85).setCrd hp (by rw [List.length_set, List.map_set]; exact w86) t86
 refine L_st _ rfl rfl rfl kr kr (e86) ?_
 obtain ⟨S86, C86, ro86, R86, Y86⟩ := N86
 have X86 := ((Gx.refl).trans (Gx.of T85)).trans Y86
 have m85_86 : ¬ (Gh.mut ⟨Gh.B G, S86, C86, ro86⟩) (h.next) ∧ ¬ (Gh.ro ⟨Gh.B G, S86, C86, ro86⟩) (h.next) := ⟨fun hm => (Y86.mu _ hm).elim m85.1 (fun e => by have := c85.lt; omega), fun hm => (Y86.ron _ hm).elim m85.2 (fun e => by have := c85.lt; omega)⟩
 have T86 : Sm (Ow h (⟨Gh.B G, S86, C86, ro86⟩ : Gh)) h86 h86 := .refl
 refine L_nil ?_
 repeat with_reducible refine blk_norm ?_
 refine done_of (v := .tuple ⟨[]⟩) (.inr rfl) kr ?_
 exact ⟨_, _, _, (R86.ow T86), ((X86).ow T86)⟩
end
end Go.Proofs.Ytmehemeoaplepaa
namespace Go.Proofs.Ytmehemeoaplepaa
noncomputable section
open Go Go.X Go.Arm Go.Mt
theorem kget_reqs {f : Nat → Value} {l : List Nat} {k : Nat} (h : k ∈ l) : kget (l.map fun (x : Nat) => ((x : Int), f x)) (k : Int) = some (f k) := by
 induction l with
 | nil => cases h
 | cons x l ih =>
  rw [List.map_cons]
  unfold kget
  by_cases e : x = k
  · subst e; rw [if_pos rfl]
  · rw [if_neg (show ¬ ((x : Int) = (k : Int)) by omega)]
    rcases List.mem_cons.1 h with h | h
    · exact (e h.symm).elim
    · exact ih h
theorem kget_exps {f : Nat → Value} {l : List ((Int × Int) × Nat)} {k : Int × Int} : kget (l.map fun e => (e.1, f e.2)) k = (kget l k).map f := by
 induction l with
 | nil => rfl
 | cons x l ih =>
  rw [List.map_cons]
  unfold kget
  by_cases e : x.1 = k
  · rw [if_pos e, if_pos e]; rfl
  · rw [if_neg e, if_neg e]; exact ih
theorem kdel_map {κ : Type} [DecidableEq κ] (f : Nat → Value) (l : List (κ × Nat)) (k : κ) : kdel (l.map fun e => (e.1, f e.2)) k = (kdel l k).map fun e => (e.1, f e.2) := by
 induction l with
 | nil => rfl
 | cons x l ih =>
  simp only [List.map_cons]
  unfold kdel
  split
  · rfl
  · rw [List.map_cons, ih]
theorem kdel_mem {κ β : Type} [DecidableEq κ] {l : List (κ × β)} {k : κ} {x : κ × β} (h : x ∈ kdel l k) : x ∈ l := by
 induction l with
 | nil => cases h
 | cons y l ih =>
  unfold kdel at h
  split at h
  · exact List.mem_cons_of_mem _ h
  · rcases List.mem_cons.1 h with h | h
    · exact List.mem_cons.2 (.inl h)
    · exact List.mem_cons_of_mem _ (ih h)
theorem look_rq {W : Wd} {G : Gh} {h : AH} {p no : Nat} {c : Bool} (R : Rep W G h) (hp : p < W.n) (hm : no ∈ (W.pr p).reqs) : aLookup Try.prog 78 (.map (some (G.B (.rqs p)))) (nv (no : Int)) c h = some (tupOk c (ptr (G.B (.rq p no))) true) := by
 rcases (R.rqs hp).1.lookup (P := Try.prog) (T := 78) (kt := 3) (el := 103) (z := .pointer none) kr kNum kr (no : Int) c with ⟨h1, _⟩ | ⟨v, x, h1, h2, h3⟩
 · rw [kget_reqs (f := fun k => ptr (G.B (.rq p k))) hm] at h1; cases h1
 · rw [kget_reqs (f := fun k => ptr (G.B (.rq p k))) hm] at h1; cases h1; subst h2; exact h3
theorem look_ex {W : Wd} {G : Gh} {h : AH} {p no : Nat} {k : Int × Int} {c : Bool} (R : Rep W G h) (hp : p < W.n) (hm : kget (W.pr p).exps k = some no) : aLookup Try.prog 79 (.map (some (G.B (.exs p)))) (k2 k) c h = some (tupOk c (ptr (G.B (.rq p no))) true) := by
 have hk : kget ((W.pr p).exps.map fun e => (e.1, ptr (G.B (.rq p e.2)))) k = some (ptr (G.B (.rq p no))) := by
   rw [kget_exps (f := fun k => ptr (G.B (.rq p k))), hm]; rfl
 rcases (R.exs hp).1.lookup (P := Try.prog) (T := 79) (kt := 153) (el := 103) (z := .pointer none) kr k_ori kr k c with ⟨h1, _⟩ | ⟨v, x, h1, h2, h3⟩
 · rw [hk] at h1; cases h1
 · rw [hk] at h1; cases h1; subst h2; exact h3
theorem kget_mem {κ β : Type} [DecidableEq κ] {l : List (κ × β)} {k : κ} {n : β} (h : kget l k = some n) : ∃ x, x ∈ l ∧ x.2 = n := by
 induction l with
 | nil => cases h
 | cons y l ih =>
  unfold kget at h
  split at h
  · exact ⟨y, List.mem_cons.2 (.inl rfl), Option.some.inj h⟩
  · obtain ⟨x, h1, h2⟩ := ih h; exact ⟨x, List.mem_cons_of_mem _ h1, h2⟩
theorem hclear_ok {W : Wd} {G : Gh} {h : AH} {p no : Nat} {f : Int} {W1 : Wd} (R : Rep W G h) (hp : p < W.n) (hm : no ∈ (W.pr p).reqs) (h0 : (W.rq p no).parts = 0) (he : W.put p f (.body no (W.rq p no).data) = some W1) :
   Arm.Calls Try.prog 99 [.agg ⟨[nv (no : Int)]⟩, ptr (G.B .wd), nv (p : Int), nv f] h (fun r => Nxt (W1.setRq p no { W1.rq p no with done := true }) G h r.2) := by
 have hr := (R.rel.pr p hp).rqp no hm
 unfold Wd.put at he
 split at he
 · rename_i hlw
   obtain rfl := Option.some.inj he
   obtain ⟨dv0, hd0, c0⟩ := R.rqL hp hr
   replace c0 : Arm.Cl h (G.B (.rq p no)) [nk (W.rq p no).no, nv (W.rq p no).peer, nv (W.rq p no).ctx, nv (W.rq p no).tag, nv (W.rq p no).room, .bool (W.rq p no).send, .bool (W.rq p no).sync, .bool (W.rq p no).pers, .bool (W.rq p no).act, .bool (W.rq p no).done, nk (W.rq p no).parts, nk (W.rq p no).size, dv0, G.S (.pcs p no), nk (W.rq p no).gone, G.S (.snt p no), .bool (W.rq p no).clr, nv (W.rq p no).st.src, nv (W.rq p no).st.tag, nv (W.rq p no).st.size, nv (W.rq p no).st.err] := c0
   obtain ⟨da, dc, rfl⟩ := hd0.1.form
   refine Calls_W 49 Try.f99 ?_
   have T0 : Sm Nix h h := .refl
   refine W_seq (W_region ?_)
   have m87 : ¬ (Gh.mut G) h.next ∧ ¬ (Gh.ro G) h.next := ⟨(R.ext T0).op.new (Nat.le_refl _), (R.ext T0).op.newr (Nat.le_refl _)⟩
   refine L_nwc [nv (no : Int)] .ptr rfl rfl kr fun h87 c87 t87 n87 => ?_
   have T87 := T0.ext t87
   have N87 := T87.nx
   refine L_nil (W_seq (W_drawn kr (D_l (l := [0,1,2,3,4,5,6,7,8,9,10,11,12,13]) kr kr Rk_nil (NS_b 3 kr (NS_ld _ rfl rfl kr kr kr ((R.ext T87).wdL.ld (o := 1) kr rfl) (NS_b 1 kr ?_))))))
   obtain ⟨b1, o1, i1, l1⟩ := (R.ext T87).prsAt (P := Try.prog) (T := 74) (el := 77) kr kr kr hp
   refine NS_ix _ rfl rfl kr kr kr kr (i1) (NS_ld _ rfl rfl kr kr kr (l1) (NS_b 2 kr (NS_ld _ rfl rfl kr kr kr (((R.ext T87).prL hp).ld (o := 1) kr rfl) (NS_b 1 kr (NS_ld _ rfl rfl kr kr kr (c87.ld (o := 0) kr rfl) (NS_lk _ rfl rfl kr kr kr kr (look_rq (R.ext T87) hp hm) (NS_b 1 kr (NS_nil (W_seq (W_seq (W_region ?_)))))))))))
   refine L_g 3 kr (L_ld _ rfl rfl kr ((c0.ext T87).ld (o := 10) kr rfl) (L_i (((W.rq p no).parts : Int)) (0) (.bool false) rfl rfl kr kr rfl (by simp; omega) (L_nil ?_)))
   refine W_cond false kr (fun e => by cases e) (fun _ => ?_)
   refine W_skip (W_seq (W_drawn kr (D_e (e := 11) (l := [0,1,2,3,4,5,6,7,8,9,10]) (s' := []) kr kr rfl kr Rk_nil (NS_b 4 kr (NS_ld _ rfl rfl kr kr kr (c87.ld (o := 0) kr rfl) (NS_b 3 kr (NS_ld _ rfl rfl kr kr kr ((c0.ext T87).ld (o := 12) kr rfl) (NS_b 2 kr (NS_nil (L_c rfl rfl kr (put_ok (R.ext T87) (x := .body no (W.rq p no).data) ⟨_, hd0.ext T87, rfl⟩ hlw) ?_))))))))))
   rintro v88 h88 N88
   dsimp only at N88
   obtain ⟨S88, C88, ro88, R88, Y88⟩ := N88
   have X88 := ((Gx.refl).trans (Gx.of T87)).trans Y88
   have hr_88 := (Y88.keep _ hr).1
   have m87_88 : ¬ (Gh.mut ⟨Gh.B G, S88, C88, ro88⟩) (h.next) ∧ ¬ (Gh.ro ⟨Gh.B G, S88, C88, ro88⟩) (h.next) := ⟨fun hm => (Y88.mu _ hm).elim m87.1 (fun e => by have := c87.lt; omega), fun hm => (Y88.ron _ hm).elim m87.2 (fun e => by have := c87.lt; omega)⟩
   replace c87 := c87.sm Y88.sm m87.1
   have T88 : Sm (Ow h (⟨Gh.B G, S88, C88, ro88⟩ : Gh)) h88 h88 := .refl
   refine L_nil ⟨rfl, ?_⟩
   refine D_l (l := []) kr kr Rk_nil (NS_nil (W_region (L_g 3 kr ?_)))
   obtain ⟨dv9, hd9, c9⟩ := (R88.ow T88).rqL hp hr_88
   replace c9 : Cl h88 (Gh.B (⟨Gh.B G, S88, C88, ro88⟩ : Gh) (.rq p no)) [nk ((W.setWay p f (W.way p f ++ [Pk.body no (W.rq p no).data])).rq p no).no, nv ((W.setWay p f (W.way p f ++ [Pk.body no (W.rq p no).data])).rq p no).peer, nv ((W.setWay p f (W.way p f ++ [Pk.body no (W.rq p no).data])).rq p no).ctx, nv ((W.setWay p f (W.way p f ++ [Pk.body no (W.rq p no).data])).rq p no).tag, nv ((W.setWay p f (W.way p f ++ [Pk.body no (W.rq p no).data])).rq p no).room, .bool ((W.setWay p f (W.way p f ++ [Pk.body no (W.rq p no).data])).rq p no).send, .bool ((W.setWay p f (W.way p f ++ [Pk.body no (W.rq p no).data])).rq p no).sync, .bool ((W.setWay p f (W.way p f ++ [Pk.body no (W.rq p no).data])).rq p no).pers, .bool ((W.setWay p f (W.way p f ++ [Pk.body no (W.rq p no).data])).rq p no).act, .bool ((W.setWay p f (W.way p f ++ [Pk.body no (W.rq p no).data])).rq p no).done, nk ((W.setWay p f (W.way p f ++ [Pk.body no (W.rq p no).data])).rq p no).parts, nk ((W.setWay p f (W.way p f ++ [Pk.body no (W.rq p no).data])).rq p no).size, dv9, (⟨Gh.B G, S88, C88, ro88⟩ : Gh).S (.pcs p no), nk ((W.setWay p f (W.way p f ++ [Pk.body no (W.rq p no).data])).rq p no).gone, (⟨Gh.B G, S88, C88, ro88⟩ : Gh).S (.snt p no), .bool ((W.setWay p f (W.way p f ++ [Pk.body no (W.rq p no).data])).rq p no).clr, nv ((W.setWay p f (W.way p f ++ [Pk.body no (W.rq p no).data])).rq p no).st.src, nv ((W.setWay p f (W.way p f ++ [Pk.body no (W.rq p no).data])).rq p no).st.tag, nv ((W.setWay p f (W.way p f ++ [Pk.body no (W.rq p no).data])).rq p no).st.size, nv ((W.setWay p f (W.way p f ++ [Pk.body no (W.rq p no).data])).rq p no).st.err] := c9
   obtain ⟨h89, e89, d89, t89, n89⟩ := c9.s1 4 9 (.bool true)
   have N89 : Nxt ((W.setWay p f (W.way p f ++ [Pk.body no (W.rq p no).data])).setRq p no { ((W.setWay p f (W.way p f ++ [Pk.body no (W.rq p no).data])).rq p no) with done := true }) (⟨Gh.B G, S88, C88, ro88⟩ : Gh) h88 h89 := (R88.ow T88).stRq hp hr_88 (r := { ((W.setWay p f (W.way p f ++ [Pk.body no (W.rq p no).data])).rq p no) with done := true }) hd9 d89 t89 rfl rfl rfl
   clear hd9
   refine L_st _ rfl rfl rfl kr kr (e89) ?_
   obtain ⟨S89, C89, ro89, R89, Y89⟩ := N89
   have X89 := ((X88).ow T88).trans Y89
   have hr_89 := (Y89.keep _ hr_88).1
   have m87_88_89 : ¬ (Gh.mut ⟨Gh.B (⟨Gh.B G, S88, C88, ro88⟩ : Gh), S89, C89, ro89⟩) (h.next) ∧ ¬ (Gh.ro ⟨Gh.B (⟨Gh.B G, S88, C88, ro88⟩ : Gh), S89, C89, ro89⟩) (h.next) := ⟨fun hm => (Y89.mu _ hm).elim m87_88.1 (fun e => by have := c87.lt; omega), fun hm => (Y89.ron _ hm).elim m87_88.2 (fun e => by have := c87.lt; omega)⟩
   have T89 : Sm (Ow h (⟨Gh.B (⟨Gh.B G, S88, C88, ro88⟩ : Gh), S89, C89, ro89⟩ : Gh)) h89 h89 := .refl
   refine L_nil ?_
   repeat with_reducible refine blk_norm ?_
   refine done_of (v := .tuple ⟨[]⟩) (.inr rfl) kr ?_
   exact ⟨_, _, _, (R89.ow T89), ((X89).ow T89)⟩
 · cases he
theorem hbody_ok {W : Wd} {G : Gh} {h : AH} {p no : Nat} {f q : Int} {d : By} {da : Option Addr} {dc : Nat} (R : Rep W G h) (hp : p < W.n) (hm : kget (W.pr p).exps (f, q) = some no) (hd : Dr h G.ro (.slice da (List.map bv d).length dc) d) (hl : d.length < big) (h0 : 0 ≤ (W.rq p no).room) :
  Arm.Calls Try.prog 101 [.agg ⟨[nv q, .slice da (List.map bv d).length dc]⟩, ptr (G.B .wd), nv (p : Int), nv f] h (fun r => Nxt ((W.setRq p no ((W.rq p no).gets d)).setPr p { W.pr p with exps := kdel (W.pr p).exps (f, q) }) G h r.2) := by
 obtain ⟨x0, hx0, rfl⟩ := kget_mem hm
 have hr := (R.rel.pr p hp).exp x0 hx0
 refine Calls_W 39 Try.f101 ?_
 have T0 : Sm Nix h h := .refl
 refine W_seq (W_region ?_)
 have m90 : ¬ (Gh.mut G) h.next ∧ ¬ (Gh.ro G) h.next := ⟨(R.ext T0).op.new (Nat.le_refl _), (R.ext T0).op.newr (Nat.le_refl _)⟩
 refine L_nwc [nv q, .slice da (List.map bv d).length dc] .ptr rfl rfl kr fun h90 c90 t90 n90 => ?_
 have T90 := T0.ext t90
 have N90 := T90.nx
 refine L_nil (W_sg 2 kr (L_ld _ rfl rfl kr (c90.ld (o := 0) kr rfl) (L_g 1 kr ?_)))
 have m91 : ¬ (Gh.mut G) h90.next ∧ ¬ (Gh.ro G) h90.next := ⟨(R.ext T90).op.new (Nat.le_refl _), (R.ext T90).op.newr (Nat.le_refl _)⟩
 refine L_nwc [nv 0, nv 0] .ptr rfl rfl kr fun h91 c91 t91 n91 => ?_
 replace c90 := c90.ext t91
 have T91 := T90.ext t91
 have N91 := T91.nx
 obtain ⟨h92, e92, d92, t92, n92⟩ := c91.sA 153 [nv f, nv q]
 replace c90 := c90.sn t92
 replace c91 := d92
 have T92 := T91.tr t92
 have N92 := T92.nx
 refine L_st _ rfl rfl rfl kr kr (e92) (L_nil (W_seq (W_drawn kr (D_e (e := 14) (l := [0,1,2,3,4,5,6,7,8,9,10,11,12,13]) (s' := []) kr kr rfl kr Rk_nil (NS_b 3 kr (NS_ld _ rfl rfl kr kr kr ((R.ext T92).wdL.ld (o := 1) kr rfl) (NS_b 1 kr ?_)))))))
 obtain ⟨b1, o1, i1, l1⟩ := (R.ext T92).prsAt (P := Try.prog) (T := 74) (el := 77) kr kr kr hp
 refine NS_ix _ rfl rfl kr kr kr kr (i1) (NS_ld _ rfl rfl kr kr kr (l1) (NS_b 2 kr (NS_ld _ rfl rfl kr kr kr (((R.ext T92).prL hp).ld (o := 2) kr rfl) (NS_ld _ rfl rfl kr kr kr (Cl.allN (n := 2) c91 rfl kr) (NS_lk _ rfl rfl kr kr kr kr (look_ex (R.ext T92) hp hm) (NS_b 1 kr (NS_ld _ rfl rfl kr kr kr (c90.ld (o := 1) kr rfl) (NS_nil (L_c rfl rfl kr (gets_ok (R.ext T92) hp hr (Dr.ext hd T92) hl h0) ?_)))))))))
 rintro v93 h93 N93
 dsimp only at N93
 obtain ⟨S93, C93, ro93, R93, Y93⟩ := N93
 have X93 := ((Gx.refl).trans (Gx.of T92)).trans Y93
 have m90_93 : ¬ (Gh.mut ⟨Gh.B G, S93, C93, ro93⟩) (h.next) ∧ ¬ (Gh.ro ⟨Gh.B G, S93, C93, ro93⟩) (h.next) := ⟨fun hm => (Y93.mu _ hm).elim m90.1 (fun e => by have := c90.lt; omega), fun hm => (Y93.ron _ hm).elim m90.2 (fun e => by have := c90.lt; omega)⟩
 replace c90 := c90.sm Y93.sm m90.1
 have m91_93 : ¬ (Gh.mut ⟨Gh.B G, S93, C93, ro93⟩) (h90.next) ∧ ¬ (Gh.ro ⟨Gh.B G, S93, C93, ro93⟩) (h90.next) := ⟨fun hm => (Y93.mu _ hm).elim m91.1 (fun e => by have := c91.lt; omega), fun hm => (Y93.ron _ hm).elim m91.2 (fun e => by have := c91.lt; omega)⟩
 replace c91 := c91.sm Y93.sm m91.1
 have T93 : Sm (Ow h (⟨Gh.B G, S93, C93, ro93⟩ : Gh)) h93 h93 := .refl
 refine L_nil ⟨rfl, ?_⟩
 refine D_l (l := []) kr kr Rk_nil (NS_nil (W_drawn kr (D_e (e := 11) (l := [0,1,2,3,4,5,6,7,8,9,10]) (s' := []) kr kr rfl kr Rk_nil (NS_b 3 kr (NS_ld _ rfl rfl kr kr kr ((R93.ow T93).wdL.ld (o := 1) kr rfl) (NS_b 1 kr ?_))))))
 obtain ⟨b1, o1, i1, l1⟩ := (R93.ow T93).prsAt (P := Try.prog) (T := 74) (el := 77) kr kr kr hp
 refine NS_ix _ rfl rfl kr kr kr kr (i1) (NS_ld _ rfl rfl kr kr kr (l1) (NS_b 2 kr (NS_ld _ rfl rfl kr kr kr (((R93.ow T93).prL hp).ld (o := 2) kr rfl) (NS_ld _ rfl rfl kr kr kr (Cl.allN (n := 2) c91 rfl kr) (NS_nil ?_)))))
 have hE := (R93.ow T93).exs hp
 obtain ⟨h94, e94, mp94, t94, n94⟩ := hE.1.delete (P := Try.prog) (T := 79) (el := 103) kr k_ori (f, q)
 have e9 := kdel_map (fun k => ptr (Gh.B (⟨Gh.B G, S93, C93, ro93⟩ : Gh) (.rq p k))) (W.pr p).exps (f, q)
 dsimp only at e9
 have mp994 : Mp h94 (Gh.B (⟨Gh.B G, S93, C93, ro93⟩ : Gh) (.exs p)) k2 Eq ((kdel (W.pr p).exps (f, q)).map fun e => (e.1, ptr (Gh.B (⟨Gh.B G, S93, C93, ro93⟩ : Gh) (.rq p e.2)))) := e9 ▸ mp94
 have N94 : Nxt ((W.setRq p x0.2 ((W.rq p x0.2).gets d)).setPr p { W.pr p with exps := kdel (W.pr p).exps (f, q) }) (⟨Gh.B G, S93, C93, ro93⟩ : Gh) h93 h94 := (R93.ow T93).setExs hp (fun x hx => ((R93.ow T93).rel.pr p hp).exp x (kdel_mem hx)) mp994 (hE.2.delete e94) t94
 refine L_bi _ _ rfl rfl kr kr (bi_delete e94) ?_
 obtain ⟨S94, C94, ro94, R94, Y94⟩ := N94
 have X94 := ((X93).ow T93).trans Y94
 have m90_93_94 : ¬ (Gh.mut ⟨Gh.B (⟨Gh.B G, S93, C93, ro93⟩ : Gh), S94, C94, ro94⟩) (h.next) ∧ ¬ (Gh.ro ⟨Gh.B (⟨Gh.B G, S93, C93, ro93⟩ : Gh), S94, C94, ro94⟩) (h.next) := ⟨fun hm => (Y94.mu _ hm).elim m90_93.1 (fun e => by have := c90.lt; omega), fun hm => (Y94.ron _ hm).elim m90_93.2 (fun e => by have := c90.lt; omega)⟩
 have m91_93_94 : ¬ (Gh.mut ⟨Gh.B (⟨Gh.B G, S93, C93, ro93⟩ : Gh), S94, C94, ro94⟩) (h90.next) ∧ ¬ (Gh.ro ⟨Gh.B (⟨Gh.B G, S93, C93, ro93⟩ : Gh), S94, C94, ro94⟩) (h90.next) := ⟨fun hm => (Y94.mu _ hm).elim m91_93.1 (fun e => by have := c91.lt; omega), fun hm => (Y94.ron _ hm).elim m91_93.2 (fun e => by have := c91.lt; omega)⟩
 have T94 : Sm (Ow h (⟨Gh.B (⟨Gh.B G, S93, C93, ro93⟩ : Gh), S94, C94, ro94⟩ : Gh)) h94 h94 := .refl
 refine L_nil ⟨rfl, ?_⟩
 refine D_l (l := []) kr kr Rk_nil (NS_nil ?_)
 repeat with_reducible refine blk_norm ?_
 refine done_of (v := .tuple ⟨[]⟩) (.inr rfl) kr ?_
 exact ⟨_, _, _, (R94.ow T94), ((X94).ow T94)⟩
end
end Go.Proofs.Ytmehemeoaplepaa
namespace Go.Proofs.Ytmehemeoaplepaa
noncomputable section
open Go Go.X Go.Arm Go.Mt
theorem drop_cons {α : Type} {l : List α} {k : Nat} {x : α} (hx : l[k]? = some x) : l.drop k = x :: l.drop (k + 1) := by
 obtain ⟨h1, h2⟩ := List.getElem?_eq_some_iff.1 hx
 rw [List.drop_eq_getElem_cons h1, h2]
set_option maxHeartbeats 1000000 in
theorem call_ok {W : Wd} {G : Gh} {h : AH} {p : Nat} {W' : Wd} (R : Rep W G h) (hp : p < W.n) (he : W.call p = some W') :
   Arm.Calls Try.prog 36 [ptr (G.B .wd), nv (p : Int)] h (fun r => r.1 = nv ((W.pr p).inb.length : Int) ∧ Nxt W' G h r.2) := by
 unfold Wd.call at he
 split at he
 rotate_right
 · cases he
 rename_i hbig
 have hbig : (W.pr p).inb.length < 1000000000 := hbig
 obtain ⟨cs, g0, ls⟩ := R.inb hp
 refine Calls_W 43 Try.f36 ?_
 have T0 : Sm Nix h h := .refl
 refine W_sg 1 kr (L_nil (W_sg 3 kr (L_ld _ rfl rfl kr ((R.ext T0).wdL.ld (o := 1) kr rfl) (L_g 1 kr ?_))))
 obtain ⟨b1, o1, i1, l1⟩ := (R.ext T0).prsAt (P := Try.prog) (T := 74) (el := 77) kr kr kr hp
 refine L_ix _ rfl rfl kr kr (i1) (L_ld _ rfl rfl kr (l1) (L_g 2 kr (L_ld _ rfl rfl kr (((R.ext T0).prL hp).ld (o := 3) kr rfl) (L_g 1 kr (L_nil (W_sg 3 kr (L_ld _ rfl rfl kr ((R.ext T0).wdL.ld (o := 1) kr rfl) (L_g 1 kr ?_))))))))
 obtain ⟨b1, o1, i1, l1⟩ := (R.ext T0).prsAt (P := Try.prog) (T := 74) (el := 77) kr kr kr hp
 refine L_ix _ rfl rfl kr kr (i1) (L_ld _ rfl rfl kr (l1) (L_g 2 kr ?_))
 obtain ⟨h95, e95, d95, t95, n95⟩ := ((R.ext T0).prL hp).store (P := Try.prog) (T := 81) (o := 3) (v := .slice none 0 0) kr rfl rfl (by simp [prC])
 have hpe : ∀ b, vb (G.S (.inb p)) = some b → ¬ b = G.B (.pr p) := fun b hb e => R.op.ne (r := .inb p) (r' := .pr p) (by obtain ⟨cs, e, _⟩ := (R.rel.pr p hp).inb; rw [e]; simp) (by rw [(R.rel.pr p hp).pr]; simp) (by simp) (vb_vbx hb) (by rw [e]; rfl)
 obtain ⟨S0, C0, ro0, ⟨R0, Y0⟩, nm0⟩ := (R.ext T0).nilInb hp d95 t95
 have hs0 := (g0.sd.ext T0).sm t95 hpe
 have X0 := (Gx.of T0).trans Y0
 have ls0 := ls.mono (fun _ _ z => z.mono (Gx.dr X0 R.op))
 refine L_st _ rfl rfl rfl kr kr (e95) ?_
 have T95 : Sm Nix h95 h95 := .refl
 refine L_nil (W_seq (W_sg 1 kr (L_ln _ rfl rfl kr (hs0.len (T := 81) (el := 101) kr) (L_g 1 kr (L_nil (W_block ?_))))))
 refine W_loop (fun mm fr hh => ∃ (k : Nat) (Wk : Wd) (Sk : Ro → Value) (Ck : Ro → Th) (rk : Nat → Prop), mm = (W.pr p).inb.length - k ∧ k ≤ (W.pr p).inb.length ∧ Wd.handles p Wk ((W.pr p).inb.drop k) = some W' ∧ Wk.n = W.n ∧ Rep Wk (⟨G.B, Sk, Ck, rk⟩ : Gh) hh ∧ Gx G h (⟨G.B, Sk, Ck, rk⟩ : Gh) hh ∧ Sd hh 2 (G.S (.inb p)) (W.pr p).inb.length cs ∧ (∀ b, vb (G.S (.inb p)) = some b → ¬ Gh.mut (⟨G.B, Sk, Ck, rk⟩ : Gh) b ∧ ¬ rk b) ∧ Ls (RAr hh rk) 2 (W.pr p).inb cs ∧
     fr 0 = ptr (G.B .wd) ∧ fr 1 = nv (p : Int) ∧ fr 5 = G.S (.inb p) ∧ fr 27 = G.S (.inb p) ∧ fr 28 = nv ((W.pr p).inb.length : Int) ∧ fr 29 = nv (k : Int)) ((W.pr p).inb.length) ?_ ?_
 ·
   exact ⟨0, W.setPr p { W.pr p with inb := [] }, S0, C0, ro0, rfl, Nat.zero_le _, by rw [List.drop_zero]; exact he, rfl, R0, X0, hs0, nm0, ls0, kr, kr, kr, kr, kr, kr⟩
 clear hs0 nm0 ls0 R0 X0
 rintro mm fr hh ⟨k, Wk, Sk, Ck, rk, hm, hk, hst, hn, Rk, Xk, hs, hb9, ls, y0, y1, y5, y27, y28, y29⟩
 refine W_set (k := 0) y0 (W_set (k := 1) y1 (W_set (k := 5) y5 (W_set (k := 27) y27 (W_set (k := 28) y28 (W_set (k := 29) y29 ?_)))))
 have TK : Sm Nix hh hh := .refl
 have NK := Xk.sm.nx
 refine W_sg 1 kr (L_nil (W_seq ?_))
 refine W_cond (decide ((k : Int) < ((W.pr p).inb.length : Nat))) kr (fun hb => ?_) (fun hb => ?_)
 ·
   have hlt : k < (W.pr p).inb.length := by simp at hb; omega
   obtain ⟨x, hx⟩ : ∃ x, (W.pr p).inb[k]? = some x := ⟨_, List.getElem?_eq_getElem hlt⟩
   rw [drop_cons hx] at hst
   obtain ⟨W1, hst, hst2⟩ := Wd.handles_cons hst
   have hn1 : W1.n = W.n := (Wd.handle_n hst).trans hn
   obtain ⟨c, ⟨pv, hpv, rfl⟩, hcl, hcc⟩ := ls.get hx
   obtain ⟨f, pk⟩ := x
   dsimp only at hpv hst hcc
   obtain ⟨b9, o9, _, i9, l9⟩ := hs.at (P := Try.prog) (T := 81) (el := 101) kr kr hlt .i64
   have hp' : p < Wk.n := by rw [hn]; exact hp
   have hl9 : ∀ j, j < 2 → hh.cell ⟨b9, o9 + j, none⟩ = [nv f, pv][j]? := fun j hj => (l9 j hj).trans (hcc j hj)
   refine W_skip (W_seq (W_block (W_seq ?_)))
   rcases pk with ⟨e, d⟩ | ⟨e, q⟩ | _ | q | ⟨q, d⟩ | ⟨q, i, d⟩
   rotate_right
   · cases hst
   ·
     obtain ⟨dv, hd, rfl⟩ := hpv
     obtain ⟨da, dc, rfl⟩ := hd.1.form
     have he1 : Wk.came p (.eager e d) = some W1 := hst
     refine W_region (L_ix _ rfl rfl kr kr (i9) (L_ld _ rfl rfl kr (ld_l (l := [nv f, .iface Tys.e (.agg ⟨[nv e.src, nv e.ctx, nv e.tag, nv e.size, nv e.parts, .slice da (List.map bv d).length dc]⟩)]) kr (fun j hj => hl9 j hj)) ?_))
     have m96 : ¬ (Gh.mut (⟨G.B, Sk, Ck, rk⟩ : Gh)) hh.next ∧ ¬ (Gh.ro (⟨G.B, Sk, Ck, rk⟩ : Gh)) hh.next := ⟨(Rk.ext TK).op.new (Nat.le_refl _), (Rk.ext TK).op.newr (Nat.le_refl _)⟩
     refine L_nwc [nv 0, .nilIface] .ptr rfl rfl kr fun h96 c96 t96 n96 => ?_
     have T96 := TK.ext t96
     have N96 := T96.nx
     obtain ⟨h97, e97, d97, t97, n97⟩ := c96.sA 101 [nv f, .iface Tys.e (.agg ⟨[nv e.src, nv e.ctx, nv e.tag, nv e.size, nv e.parts, .slice da (List.map bv d).length dc]⟩)]
     replace c96 := d97
     have T97 := T96.tr t97
     have N97 := T97.nx
     refine L_st _ rfl rfl rfl kr kr (e97) (L_nil (W_rg 1 kr (L_ld _ rfl rfl kr (c96.ld (o := 1) kr rfl) (L_g 3 kr (L_ld _ rfl rfl kr (c96.ld (o := 0) kr rfl) (L_c rfl rfl kr (heager_ok (f := f) (Rk.ext T97) hp' (Dr.ext hd T97) he1) ?_))))))
     rintro v98 h98 N98
     dsimp only at N98
     obtain ⟨S98, C98, ro98, R98, Y98⟩ := N98
     have X98 := ((Xk).trans (Gx.of T97)).trans Y98
     have m96_98 : ¬ (Gh.mut ⟨Gh.B (⟨G.B, Sk, Ck, rk⟩ : Gh), S98, C98, ro98⟩) (hh.next) ∧ ¬ (Gh.ro ⟨Gh.B (⟨G.B, Sk, Ck, rk⟩ : Gh), S98, C98, ro98⟩) (hh.next) := ⟨fun hm => (Y98.mu _ hm).elim m96.1 (fun e => by have := c96.lt; omega), fun hm => (Y98.ron _ hm).elim m96.2 (fun e => by have := c96.lt; omega)⟩
     have T98 : Sm (Ow h (⟨Gh.B (⟨G.B, Sk, Ck, rk⟩ : Gh), S98, C98, ro98⟩ : Gh)) h98 h98 := .refl
     have hc9 := hs.ext T97
     have hs9 := hc9.sm Y98.sm (fun b hb => (hb9 b hb).1)
     have nm9 : ∀ b, vb (G.S (.inb p)) = some b → ¬ (Gh.mut ⟨G.B, S98, C98, ro98⟩) b ∧ ¬ ro98 b := fun b hb => ⟨fun hm => (Y98.mu b hm).elim (hb9 b hb).1 (fun e => by have := hc9.lt hb; omega), fun hm => (Y98.ron b hm).elim (hb9 b hb).2 (fun e => by have := hc9.lt hb; omega)⟩
     have ls9 := ls.mono (fun _ _ z => z.mono (Gx.dr ((Gx.of T97).trans Y98) Rk.op))
     refine L_nil (W_region (L_i ((k : Int)) (1) (nv ((k + 1 : Nat) : Int)) rfl rfl kr kr rfl (inc_ok (by omega)) (L_g 1 kr (L_nil ?_))))
     exact ⟨(W.pr p).inb.length - (k + 1), by omega, k + 1, _, _, _, _, rfl, by omega, hst2, hn1, (R98.ow T98), ((X98).ow T98), hs9, nm9, ls9, kr, kr, kr, kr, kr, kr⟩
   ·
     obtain rfl := hpv
     have he1 : Wk.came p (.ask e q) = some W1 := hst
     refine W_region (L_ix _ rfl rfl kr kr (i9) (L_ld _ rfl rfl kr (ld_l (l := [nv f, .iface Tys.a (.agg ⟨[nv e.src, nv e.ctx, nv e.tag, nv e.size, nv e.parts, nv q]⟩)]) kr (fun j hj => hl9 j hj)) ?_))
     have m99 : ¬ (Gh.mut (⟨G.B, Sk, Ck, rk⟩ : Gh)) hh.next ∧ ¬ (Gh.ro (⟨G.B, Sk, Ck, rk⟩ : Gh)) hh.next := ⟨(Rk.ext TK).op.new (Nat.le_refl _), (Rk.ext TK).op.newr (Nat.le_refl _)⟩
     refine L_nwc [nv 0, .nilIface] .ptr rfl rfl kr fun h99 c99 t99 n99 => ?_
     have T99 := TK.ext t99
     have N99 := T99.nx
     obtain ⟨h100, e100, d100, t100, n100⟩ := c99.sA 101 [nv f, .iface Tys.a (.agg ⟨[nv e.src, nv e.ctx, nv e.tag, nv e.size, nv e.parts, nv q]⟩)]
     replace c99 := d100
     have T100 := T99.tr t100
     have N100 := T100.nx
     refine L_st _ rfl rfl rfl kr kr (e100) (L_nil (W_rg 1 kr (L_ld _ rfl rfl kr (c99.ld (o := 1) kr rfl) (L_g 3 kr (L_ld _ rfl rfl kr (c99.ld (o := 0) kr rfl) (L_c rfl rfl kr (hask_ok (f := f) (Rk.ext T100) hp' he1) ?_))))))
     rintro v101 h101 N101
     dsimp only at N101
     obtain ⟨S101, C101, ro101, R101, Y101⟩ := N101
     have X101 := ((Xk).trans (Gx.of T100)).trans Y101
     have m99_101 : ¬ (Gh.mut ⟨Gh.B (⟨G.B, Sk, Ck, rk⟩ : Gh), S101, C101, ro101⟩) (hh.next) ∧ ¬ (Gh.ro ⟨Gh.B (⟨G.B, Sk, Ck, rk⟩ : Gh), S101, C101, ro101⟩) (hh.next) := ⟨fun hm => (Y101.mu _ hm).elim m99.1 (fun e => by have := c99.lt; omega), fun hm => (Y101.ron _ hm).elim m99.2 (fun e => by have := c99.lt; omega)⟩
     have T101 : Sm (Ow h (⟨Gh.B (⟨G.B, Sk, Ck, rk⟩ : Gh), S101, C101, ro101⟩ : Gh)) h101 h101 := .refl
     have hc9 := hs.ext T100
     have hs9 := hc9.sm Y101.sm (fun b hb => (hb9 b hb).1)
     have nm9 : ∀ b, vb (G.S (.inb p)) = some b → ¬ (Gh.mut ⟨G.B, S101, C101, ro101⟩) b ∧ ¬ ro101 b := fun b hb => ⟨fun hm => (Y101.mu b hm).elim (hb9 b hb).1 (fun e => by have := hc9.lt hb; omega), fun hm => (Y101.ron b hm).elim (hb9 b hb).2 (fun e => by have := hc9.lt hb; omega)⟩
     have ls9 := ls.mono (fun _ _ z => z.mono (Gx.dr ((Gx.of T100).trans Y101) Rk.op))
     refine L_nil (W_region (L_i ((k : Int)) (1) (nv ((k + 1 : Nat) : Int)) rfl rfl kr kr rfl (inc_ok (by omega)) (L_g 1 kr (L_nil ?_))))
     exact ⟨(W.pr p).inb.length - (k + 1), by omega, k + 1, _, _, _, _, rfl, by omega, hst2, hn1, (R101.ow T101), ((X101).ow T101), hs9, nm9, ls9, kr, kr, kr, kr, kr, kr⟩
   ·
     obtain rfl := hpv
     unfold Wd.handle at hst
     dsimp only at hst
     split at hst
     rotate_right
     · cases hst
     rename_i hcr
     obtain rfl := Option.some.inj hst
     obtain ⟨i, rfl⟩ : ∃ i : Nat, f = (i : Int) := ⟨f.toNat, by omega⟩
     simp only [Int.toNat_natCast] at hst2 hcr ⊢
     refine W_region (L_ix _ rfl rfl kr kr (i9) (L_ld _ rfl rfl kr (ld_l (l := [nv (i : Int), .iface Tys.c (.agg ⟨[]⟩)]) kr (fun j hj => hl9 j hj)) ?_))
     have m102 : ¬ (Gh.mut (⟨G.B, Sk, Ck, rk⟩ : Gh)) hh.next ∧ ¬ (Gh.ro (⟨G.B, Sk, Ck, rk⟩ : Gh)) hh.next := ⟨(Rk.ext TK).op.new (Nat.le_refl _), (Rk.ext TK).op.newr (Nat.le_refl _)⟩
     refine L_nwc [nv 0, .nilIface] .ptr rfl rfl kr fun h102 c102 t102 n102 => ?_
     have T102 := TK.ext t102
     have N102 := T102.nx
     obtain ⟨h103, e103, d103, t103, n103⟩ := c102.sA 101 [nv (i : Int), .iface Tys.c (.agg ⟨[]⟩)]
     replace c102 := d103
     have T103 := T102.tr t103
     have N103 := T103.nx
     refine L_st _ rfl rfl rfl kr kr (e103) (L_nil (W_rg 1 kr (L_ld _ rfl rfl kr (c102.ld (o := 1) kr rfl) (L_g 3 kr (L_ld _ rfl rfl kr (c102.ld (o := 0) kr rfl) (L_c rfl rfl kr (hcredit_ok (i := i) (Rk.ext T103) hp' (by omega) hcr.2.2.1 (Int.lt_of_lt_of_le (by decide) hcr.2.2.2)) ?_))))))
     rintro v104 h104 N104
     dsimp only at N104
     obtain ⟨S104, C104, ro104, R104, Y104⟩ := N104
     have X104 := ((Xk).trans (Gx.of T103)).trans Y104
     have m102_104 : ¬ (Gh.mut ⟨Gh.B (⟨G.B, Sk, Ck, rk⟩ : Gh), S104, C104, ro104⟩) (hh.next) ∧ ¬ (Gh.ro ⟨Gh.B (⟨G.B, Sk, Ck, rk⟩ : Gh), S104, C104, ro104⟩) (hh.next) := ⟨fun hm => (Y104.mu _ hm).elim m102.1 (fun e => by have := c102.lt; omega), fun hm => (Y104.ron _ hm).elim m102.2 (fun e => by have := c102.lt; omega)⟩
     have T104 : Sm (Ow h (⟨Gh.B (⟨G.B, Sk, Ck, rk⟩ : Gh), S104, C104, ro104⟩ : Gh)) h104 h104 := .refl
     have hc9 := hs.ext T103
     have hs9 := hc9.sm Y104.sm (fun b hb => (hb9 b hb).1)
     have nm9 : ∀ b, vb (G.S (.inb p)) = some b → ¬ (Gh.mut ⟨G.B, S104, C104, ro104⟩) b ∧ ¬ ro104 b := fun b hb => ⟨fun hm => (Y104.mu b hm).elim (hb9 b hb).1 (fun e => by have := hc9.lt hb; omega), fun hm => (Y104.ron b hm).elim (hb9 b hb).2 (fun e => by have := hc9.lt hb; omega)⟩
     have ls9 := ls.mono (fun _ _ z => z.mono (Gx.dr ((Gx.of T103).trans Y104) Rk.op))
     refine L_nil (W_region (L_i ((k : Int)) (1) (nv ((k + 1 : Nat) : Int)) rfl rfl kr kr rfl (inc_ok (by omega)) (L_g 1 kr (L_nil ?_))))
     exact ⟨(W.pr p).inb.length - (k + 1), by omega, k + 1, _, _, _, _, rfl, by omega, hst2, hn1, (R104.ow T104), ((X104).ow T104), hs9, nm9, ls9, kr, kr, kr, kr, kr, kr⟩
   ·
     obtain rfl := hpv
     unfold Wd.handle at hst
     dsimp only at hst
     split at hst
     rotate_right
     · cases hst
     rename_i hcr
     split at hst
     rotate_right
     · cases hst
     rename_i hcp
     rw [Option.map_eq_some_iff] at hst
     obtain ⟨W2, hw2, rfl⟩ := hst
     obtain ⟨i, rfl⟩ : ∃ i : Nat, q = (i : Int) := ⟨q.toNat, by omega⟩
     simp only [Int.toNat_natCast] at hst2 hcr hcp hw2 ⊢
     refine W_region (L_ix _ rfl rfl kr kr (i9) (L_ld _ rfl rfl kr (ld_l (l := [nv f, .iface Tys.l (.agg ⟨[nv (i : Int)]⟩)]) kr (fun j hj => hl9 j hj)) ?_))
     have m105 : ¬ (Gh.mut (⟨G.B, Sk, Ck, rk⟩ : Gh)) hh.next ∧ ¬ (Gh.ro (⟨G.B, Sk, Ck, rk⟩ : Gh)) hh.next := ⟨(Rk.ext TK).op.new (Nat.le_refl _), (Rk.ext TK).op.newr (Nat.le_refl _)⟩
     refine L_nwc [nv 0, .nilIface] .ptr rfl rfl kr fun h105 c105 t105 n105 => ?_
     have T105 := TK.ext t105
     have N105 := T105.nx
     obtain ⟨h106, e106, d106, t106, n106⟩ := c105.sA 101 [nv f, .iface Tys.l (.agg ⟨[nv (i : Int)]⟩)]
     replace c105 := d106
     have T106 := T105.tr t106
     have N106 := T106.nx
     refine L_st _ rfl rfl rfl kr kr (e106) (L_nil (W_rg 1 kr (L_ld _ rfl rfl kr (c105.ld (o := 1) kr rfl) (L_g 3 kr (L_ld _ rfl rfl kr (c105.ld (o := 0) kr rfl) (L_c rfl rfl kr (hclear_ok (Rk.ext T106) hp' hcr.2 hcp hw2) ?_))))))
     rintro v107 h107 N107
     dsimp only at N107
     obtain ⟨S107, C107, ro107, R107, Y107⟩ := N107
     have X107 := ((Xk).trans (Gx.of T106)).trans Y107
     have m105_107 : ¬ (Gh.mut ⟨Gh.B (⟨G.B, Sk, Ck, rk⟩ : Gh), S107, C107, ro107⟩) (hh.next) ∧ ¬ (Gh.ro ⟨Gh.B (⟨G.B, Sk, Ck, rk⟩ : Gh), S107, C107, ro107⟩) (hh.next) := ⟨fun hm => (Y107.mu _ hm).elim m105.1 (fun e => by have := c105.lt; omega), fun hm => (Y107.ron _ hm).elim m105.2 (fun e => by have := c105.lt; omega)⟩
     have T107 : Sm (Ow h (⟨Gh.B (⟨G.B, Sk, Ck, rk⟩ : Gh), S107, C107, ro107⟩ : Gh)) h107 h107 := .refl
     have hc9 := hs.ext T106
     have hs9 := hc9.sm Y107.sm (fun b hb => (hb9 b hb).1)
     have nm9 : ∀ b, vb (G.S (.inb p)) = some b → ¬ (Gh.mut ⟨G.B, S107, C107, ro107⟩) b ∧ ¬ ro107 b := fun b hb => ⟨fun hm => (Y107.mu b hm).elim (hb9 b hb).1 (fun e => by have := hc9.lt hb; omega), fun hm => (Y107.ron b hm).elim (hb9 b hb).2 (fun e => by have := hc9.lt hb; omega)⟩
     have ls9 := ls.mono (fun _ _ z => z.mono (Gx.dr ((Gx.of T106).trans Y107) Rk.op))
     refine L_nil (W_region (L_i ((k : Int)) (1) (nv ((k + 1 : Nat) : Int)) rfl rfl kr kr rfl (inc_ok (by omega)) (L_g 1 kr (L_nil ?_))))
     exact ⟨(W.pr p).inb.length - (k + 1), by omega, k + 1, _, _, _, _, rfl, by omega, hst2, hn1, (R107.ow T107), ((X107).ow T107), hs9, nm9, ls9, kr, kr, kr, kr, kr, kr⟩
   ·
     obtain ⟨dv, hd, rfl⟩ := hpv
     obtain ⟨da, dc, rfl⟩ := hd.1.form
     unfold Wd.handle at hst
     dsimp only at hst
     split at hst
     rotate_right
     · cases hst
     rename_i no hkx
     split at hst
     rotate_right
     · cases hst
     rename_i hcr
     obtain rfl := Option.some.inj hst
     refine W_region (L_ix _ rfl rfl kr kr (i9) (L_ld _ rfl rfl kr (ld_l (l := [nv f, .iface Tys.b (.agg ⟨[nv q, .slice da (List.map bv d).length dc]⟩)]) kr (fun j hj => hl9 j hj)) ?_))
     have m108 : ¬ (Gh.mut (⟨G.B, Sk, Ck, rk⟩ : Gh)) hh.next ∧ ¬ (Gh.ro (⟨G.B, Sk, Ck, rk⟩ : Gh)) hh.next := ⟨(Rk.ext TK).op.new (Nat.le_refl _), (Rk.ext TK).op.newr (Nat.le_refl _)⟩
     refine L_nwc [nv 0, .nilIface] .ptr rfl rfl kr fun h108 c108 t108 n108 => ?_
     have T108 := TK.ext t108
     have N108 := T108.nx
     obtain ⟨h109, e109, d109, t109, n109⟩ := c108.sA 101 [nv f, .iface Tys.b (.agg ⟨[nv q, .slice da (List.map bv d).length dc]⟩)]
     replace c108 := d109
     have T109 := T108.tr t109
     have N109 := T109.nx
     refine L_st _ rfl rfl rfl kr kr (e109) (L_nil (W_rg 1 kr (L_ld _ rfl rfl kr (c108.ld (o := 1) kr rfl) (L_g 3 kr (L_ld _ rfl rfl kr (c108.ld (o := 0) kr rfl) (L_c rfl rfl kr (hbody_ok (Rk.ext T109) hp' hkx (Dr.ext hd T109) hcr.1 hcr.2) ?_))))))
     rintro v110 h110 N110
     dsimp only at N110
     obtain ⟨S110, C110, ro110, R110, Y110⟩ := N110
     have X110 := ((Xk).trans (Gx.of T109)).trans Y110
     have m108_110 : ¬ (Gh.mut ⟨Gh.B (⟨G.B, Sk, Ck, rk⟩ : Gh), S110, C110, ro110⟩) (hh.next) ∧ ¬ (Gh.ro ⟨Gh.B (⟨G.B, Sk, Ck, rk⟩ : Gh), S110, C110, ro110⟩) (hh.next) := ⟨fun hm => (Y110.mu _ hm).elim m108.1 (fun e => by have := c108.lt; omega), fun hm => (Y110.ron _ hm).elim m108.2 (fun e => by have := c108.lt; omega)⟩
     have T110 : Sm (Ow h (⟨Gh.B (⟨G.B, Sk, Ck, rk⟩ : Gh), S110, C110, ro110⟩ : Gh)) h110 h110 := .refl
     have hc9 := hs.ext T109
     have hs9 := hc9.sm Y110.sm (fun b hb => (hb9 b hb).1)
     have nm9 : ∀ b, vb (G.S (.inb p)) = some b → ¬ (Gh.mut ⟨G.B, S110, C110, ro110⟩) b ∧ ¬ ro110 b := fun b hb => ⟨fun hm => (Y110.mu b hm).elim (hb9 b hb).1 (fun e => by have := hc9.lt hb; omega), fun hm => (Y110.ron b hm).elim (hb9 b hb).2 (fun e => by have := hc9.lt hb; omega)⟩
     have ls9 := ls.mono (fun _ _ z => z.mono (Gx.dr ((Gx.of T109).trans Y110) Rk.op))
     refine L_nil (W_region (L_i ((k : Int)) (1) (nv ((k + 1 : Nat) : Int)) rfl rfl kr kr rfl (inc_ok (by omega)) (L_g 1 kr (L_nil ?_))))
     exact ⟨(W.pr p).inb.length - (k + 1), by omega, k + 1, _, _, _, _, rfl, by omega, hst2, hn1, (R110.ow T110), ((X110).ow T110), hs9, nm9, ls9, kr, kr, kr, kr, kr, kr⟩
 ·
   have hge : k = (W.pr p).inb.length := by simp at hb; omega
   subst hge
   rw [List.drop_length] at hst
   obtain rfl := Option.some.inj hst
   refine W_exit ?_
   repeat with_reducible refine then_exit ?_
   refine exit_here (W_sg 1 kr (L_ln _ rfl rfl kr (hs.len (T := 81) (el := 101) kr) (L_g 1 kr (L_nil (W_ret ?_)))))
   repeat first | with_reducible refine then_ret ?_ | with_reducible refine blk_ret ?_
   refine done_of (v := nv ((W.pr p).inb.length : Int)) (.inl rfl) kr ?_
   exact ⟨rfl, _, _, _, (Rk.ext TK), ((Xk).trans (Gx.of TK))⟩
end
end Go.Proofs.Ytmehemeoaplepaa
namespace Go.Arm
noncomputable section
open Go Go.X Go.Mt
variable [Tys]
section
variable {W W' : Wd} {G G0 : Gh} {h h0 h' : AH} {p no b : Nat} {x : Pr} {q : Nat → Rq}
omit [Tys] in
theorem Op.adopt (O : Op G h) (X : Gx G0 h0 G h) (r : Ro) {v : Value} {y : Th} (hy : y ≠ .no) (h1 : G.C r = .no ∨ b = G.B r) (A : At h ((G.put r b v y).V r) y) (hr : r ≠ .prs)
   (hv : ∀ c, vbx ((G.put r b v y).V r) = some c → h0.next ≤ c ∧ ¬ G.mut c ∧ ¬ G.ro c) : Op (G.put r b v y) h ∧ Gx G0 h0 (G.put r b v y) h := by
 have hmu : ∀ c, (G.put r b v y).mut c → G.mut c ∨ (h0.next ≤ c ∧ ¬ G.mut c ∧ ¬ G.ro c) := by
   rintro c ⟨r', h3, h4⟩
   by_cases e : r' = r
   · subst e; exact .inr (hv c h4)
   · rw [C_put e] at h3; rw [V_put e] at h4; exact .inl ⟨r', h3, h4⟩
 refine ⟨⟨fun r' => ?_, fun r' r'' c h3 h4 h5 h6 => ?_, fun c hc hr => ?_, O.rolt⟩, ⟨X.sm, fun c hc => ?_, X.ron, X.rok, fun r' hr' => ?_, ?_⟩⟩
 · by_cases e : r' = r
   · subst e; rw [C_at]; exact A
   · rw [V_put e, C_put e]; exact O.here r'
 · by_cases e : r' = r
   · by_cases e2 : r'' = r
     · rw [e, e2]
     · subst e
       rw [C_put e2] at h4; rw [V_put e2] at h6
       exact ((hv c h5).2.1 ⟨_, h4, h6⟩).elim
   · rw [C_put e] at h3; rw [V_put e] at h5
     by_cases e2 : r'' = r
     · subst e2
       exact ((hv c h6).2.1 ⟨_, h3, h5⟩).elim
     · rw [C_put e2] at h4; rw [V_put e2] at h6
       exact O.inj _ _ _ h3 h4 h5 h6
 · rcases hmu c hc with q | q
   · exact O.ro c q hr
   · exact q.2.2 hr
 · rcases hmu c hc with q | q
   · exact X.mu c q
   · exact .inr q.1
 · obtain ⟨k1, k2⟩ := X.keep r' hr'
   by_cases e : r' = r
   · subst e
     refine ⟨by rw [C_at]; exact hy, ?_⟩
     show ups G.B r' b r' = _
     rw [ups_at]
     rcases h1 with h1 | h1
     · exact (k1 h1).elim
     · rw [h1]; exact k2
   · refine ⟨by rw [C_put e]; exact k1, ?_⟩
     show ups G.B r b r' = _
     rw [ups_ne _ _ e]; exact k2
 · show ups G.S r v .prs = _
   rw [ups_ne _ _ (Ne.symm hr)]; exact X.prs
theorem Rep.adopt (R : Rep W G h) (X : Gx G0 h0 G h) (hp : p < W.n) (hn : no < (W.pr p).next) (h1 : G.C (.rq p no) = .no) (hb : h0.next ≤ b ∧ ¬ G.mut b ∧ ¬ G.ro b) {r : Rq} {dv : Value} (hd : Dr h G.ro dv r.data) (hps : r.pcs = []) (hss : r.sent = [])
   (c : Cl h b [nk r.no, nv r.peer, nv r.ctx, nv r.tag, nv r.room, .bool r.send, .bool r.sync, .bool r.pers, .bool r.act, .bool r.done, nk r.parts, nk r.size, dv, nilS, nk r.gone, nilS, .bool r.clr, nv r.st.src, nv r.st.tag, nv r.st.size, nv r.st.err]) :
   ∃ C, Rep (W.setRq p no r) ⟨ups G.B (.rq p no) b, ups (ups G.S (.pcs p no) nilS) (.snt p no) nilS, C, G.ro⟩ h ∧ Gx G0 h0 ⟨ups G.B (.rq p no) b, ups (ups G.S (.pcs p no) nilS) (.snt p no) nilS, C, G.ro⟩ h ∧ C (.rq p no) ≠ .no := by
 obtain ⟨O1, X1⟩ := R.op.adopt X (.rq p no) (b := b) (v := G.S (.rq p no)) (y := .cl [nk r.no, nv r.peer, nv r.ctx, nv r.tag, nv r.room, .bool r.send, .bool r.sync, .bool r.pers, .bool r.act, .bool r.done, nk r.parts, nk r.size, dv, nilS, nk r.gone, nilS, .bool r.clr, nv r.st.src, nv r.st.tag, nv r.st.size, nv r.st.err]) (by simp) (.inl h1)
   ⟨b, congrArg ptr (ups_at G.B (.rq p no) b), c⟩ (by simp) (fun d hd => by
     have : vbx (ptr (ups G.B (.rq p no) b (.rq p no))) = some d := hd
     rw [ups_at] at this
     cases this; exact hb)
 rw [put_B] at O1 X1
 obtain ⟨O2, X2⟩ := O1.adopt X1 (.pcs p no) (b := (G.putB (.rq p no) b _).B (.pcs p no)) (v := nilS) (y := .ws 0 []) (by simp) (.inr rfl) (by
     rw [put_S]
     show Ws h 1 (ups _ _ _ _) 0 []
     rw [ups_at]; exact Ws.nil) (by simp) (fun d hd => by
     rw [put_S] at hd
     have : vbx (ups (G.putB (.rq p no) b _).S (.pcs p no) nilS (.pcs p no)) = some d := hd
     rw [ups_at] at this
     cases this)
 rw [put_S] at O2 X2
 obtain ⟨O3, X3⟩ := O2.adopt X2 (.snt p no) (b := (Gh.putS (G.putB (.rq p no) b _) (.pcs p no) nilS _).B (.snt p no)) (v := nilS) (y := .ws 0 []) (by simp) (.inr rfl) (by
     rw [put_S]
     show Ws h 1 (ups _ _ _ _) 0 []
     rw [ups_at]; exact Ws.nil) (by simp) (fun d hd => by
     rw [put_S] at hd
     have : vbx (ups (Gh.putS (G.putB (.rq p no) b _) (.pcs p no) nilS _).S (.snt p no) nilS (.snt p no)) = some d := hd
     rw [ups_at] at this
     cases this)
 rw [put_S] at O3 X3
 refine ⟨_, ⟨O3, ?_⟩, X3, ?_⟩
 · have hat : ∀ k, k ≠ no → (Ro.rq p k) ≠ .rq p no := fun k e => by simpa using e
   have hpr : ∀ k, G.C (.rq p k) ≠ .no → k ≠ no := fun k hk e => hk (by rw [e]; exact h1)
   refine ⟨R.rel.wd, ?_, R.rel.ways, R.rel.way, fun k hk => ?_⟩
   · exact R.rel.prs
   · by_cases e : k = p
     · subst e
       have P := R.rel.pr k hk
       show RelP (W.pr k) (ups W.rq k (ups (W.rq k) no r) k) _ h k
       rw [ups_at]
       refine ⟨P.pr, ?_, fun j hj => ?_, ?_, fun e he => ?_, P.inb, P.msg, ?_, fun j hj => ?_, P.crd, fun j hj => ?_, fun j hj => ?_, fun j hj => ?_, fun j hj => ?_⟩
       · refine P.rqs.trans (congrArg Th.mi (List.map_congr_left fun j hj => ?_))
         show _ = ((j : Int), ptr (ups G.B (.rq k no) b (.rq k j)))
         rw [ups_ne _ _ (hat j (hpr j (P.rqp j hj)))]
       · show ups G.C (.rq k no) _ (.rq k j) ≠ _
         rw [ups_ne _ _ (hat j (hpr j (P.rqp j hj)))]; exact P.rqp j hj
       · refine P.exs.trans (congrArg Th.mp (List.map_congr_left fun e he => ?_))
         show _ = (e.1, ptr (ups G.B (.rq k no) b (.rq k e.2)))
         rw [ups_ne _ _ (hat e.2 (hpr e.2 (P.exp e he)))]
       · show ups G.C (.rq k no) _ (.rq k e.2) ≠ _
         rw [ups_ne _ _ (hat e.2 (hpr e.2 (P.exp e he)))]; exact P.exp e he
       · refine P.rcv.trans (congrArg (Th.gr 1 _) (List.map_congr_left fun j hj => ?_))
         show _ = ptr (ups G.B (.rq k no) b (.rq k j))
         rw [ups_ne _ _ (hat j (hpr j (P.rcp j hj)))]
       · show ups G.C (.rq k no) _ (.rq k j) ≠ _
         rw [ups_ne _ _ (hat j (hpr j (P.rcp j hj)))]; exact P.rcp j hj
       · by_cases ej : j = no
         · subst ej
           refine ⟨dv, by rw [ups_at]; exact hd, ?_⟩
           rw [ups_at]
           refine (ups_at G.C (.rq k j) _).trans ?_
           unfold rqC
           congr 1
           simp [ups]
         · have hj2 : G.C (.rq k j) ≠ .no := by
            have : ups G.C (.rq k no) _ (.rq k j) ≠ .no := hj
            rwa [ups_ne _ _ (hat j ej)] at this
           obtain ⟨dv', a1, a2⟩ := P.rq j hj2
           refine ⟨dv', by rw [ups_ne _ _ ej]; exact a1, ?_⟩
           rw [ups_ne _ _ ej]
           refine (ups_ne G.C _ (hat j ej)).trans (a2.trans ?_)
           unfold rqC
           congr 1
           simp [ups, ej]
       · by_cases ej : j = no
         · subst ej
           rw [ups_at, hps]
           exact ⟨[], by exact ups_at _ (Ro.pcs k j) (Th.ws 0 []), .nil⟩
         · have hj2 : G.C (.rq k j) ≠ .no := by
            have : ups G.C (.rq k no) _ (.rq k j) ≠ .no := hj
            rwa [ups_ne _ _ (hat j ej)] at this
           rw [ups_ne _ _ ej]
           obtain ⟨cs, a1, a2⟩ := P.pcs j hj2
           exact ⟨cs, (ups_ne (Gh.C (G.putB (.rq k no) b _)) (Th.ws 0 []) (show Ro.pcs k j ≠ Ro.pcs k no by simpa using ej)).trans a1, a2⟩
       · by_cases ej : j = no
         · subst ej
           rw [ups_at, hss]
           exact ups_at _ (Ro.snt k j) _
         · have hj2 : G.C (.rq k j) ≠ .no := by
            have : ups G.C (.rq k no) _ (.rq k j) ≠ .no := hj
            rwa [ups_ne _ _ (hat j ej)] at this
           rw [ups_ne _ _ ej]
           exact (ups_ne _ _ (by simpa using ej)).trans (P.snt j hj2)
       · by_cases ej : j = no
         · rw [ej]; exact hn
         · have hj2 : G.C (.rq k j) ≠ .no := by
            have : ups G.C (.rq k no) _ (.rq k j) ≠ .no := hj
            rwa [ups_ne _ _ (hat j ej)] at this
           exact P.nxt j hj2
     · show RelP (W.pr k) (ups W.rq p (ups (W.rq p) no r) k) _ h k
       rw [ups_ne _ _ e]
       refine (R.rel.pr k hk).congr (fun r' hr' => ⟨?_, ?_, ?_⟩) rfl
       · show ups (ups (ups G.C (.rq p no) _) (.pcs p no) _) (.snt p no) _ r' = _
         have hne : ∀ r'', r''.of = some p → r' ≠ r'' := fun r'' h5 e2 => e (by rw [e2, h5] at hr'; exact (Option.some.inj hr').symm)
         rw [ups_ne _ _ (hne _ rfl), ups_ne _ _ (hne _ rfl), ups_ne _ _ (hne _ rfl)]
       · show ups (ups G.S (.pcs p no) _) (.snt p no) _ r' = _
         have hne : ∀ r'', r''.of = some p → r' ≠ r'' := fun r'' h5 e2 => e (by rw [e2, h5] at hr'; exact (Option.some.inj hr').symm)
         rw [ups_ne _ _ (hne _ rfl), ups_ne _ _ (hne _ rfl)]
       · show ups G.B (.rq p no) _ r' = _
         have hne : ∀ r'', r''.of = some p → r' ≠ r'' := fun r'' h5 e2 => e (by rw [e2, h5] at hr'; exact (Option.some.inj hr').symm)
         rw [ups_ne _ _ (hne _ rfl)]
 · show ups (ups (ups G.C (.rq p no) _) (.pcs p no) _) (.snt p no) _ (.rq p no) ≠ _
   rw [ups_ne _ _ (by simp), ups_ne _ _ (by simp), ups_at]; simp
theorem RelP.nextX (P : RelP x q G h p) (k : Nat) (hk : x.next ≤ k) : RelP { x with next := k } q (G.putC (.pr p) (.cl (prC k G p))) h p :=
 ⟨ups_at _ _ _, P.rqs, P.rqp, P.exs, P.exp, P.inb, P.msg, P.rcv, P.rcp, P.crd, P.rq, P.pcs, P.snt, fun j hj => Nat.lt_of_lt_of_le (P.nxt j hj) hk⟩
theorem Rep.setNextF (R : Rep W G h) (hp : p < W.n) (k : Nat) (hk : (W.pr p).next ≤ k) (c : Cl h' (G.B (.pr p)) (prC k G p)) (t : Sm (fun c => c = G.B (.pr p)) h h') {no : Nat} (h0 : G.C (.rq p no) = .no) :
   ∃ S C ro, (Rep (W.setPr p { W.pr p with next := k }) ⟨G.B, S, C, ro⟩ h' ∧ Gx G h ⟨G.B, S, C, ro⟩ h') ∧ C (.rq p no) = .no := by
 obtain ⟨O, X⟩ := R.op.putC (.pr p) (x := .cl (prC k G p)) (by simp) (by rw [(R.rel.pr p hp).pr]; simp) t (fun c hc => by subst hc; rfl) ⟨_, rfl, c⟩
 refine ⟨_, _, _, ⟨⟨O, (R.rel.mono0 (X.dr R.op)).at (p := p) rfl rfl rfl (fun k hk => ⟨ups_ne _ _ hk, rfl⟩) (fun r' hr' => ⟨ups_ne _ _ (of_ne rfl hr'), rfl, rfl⟩) rfl rfl fun hp => ?_⟩, X⟩, ?_⟩
 · show RelP (ups W.pr p _ p) _ _ _ _
   rw [ups_at]
   exact ((R.rel.mono0 (X.dr R.op)).pr p hp).nextX k hk
 · exact (ups_ne _ _ (by simp)).trans h0
theorem Rep.fresh (R : Rep W G h) (hp : p < W.n) : G.C (.rq p (W.pr p).next) = .no := by
 by_cases e : G.C (.rq p (W.pr p).next) = .no
 · exact e
 · have := (R.rel.pr p hp).nxt _ e; omega
end
end
end Go.Arm
namespace Go.Proofs.Ytmehemeoaplepaa
noncomputable section
open Go Go.X Go.Arm Go.Mt
theorem kset_new {f : Nat → Value} {l : List Nat} {k : Nat} (h : k ∉ l) : kset (l.map fun (x : Nat) => ((x : Int), f x)) (k : Int) (f k) = (l ++ [k]).map fun (x : Nat) => ((x : Int), f x) := by
 induction l with
 | nil => rfl
 | cons x l ih =>
  simp only [List.map_cons, List.cons_append]
  unfold kset
  rw [if_neg (show ¬ ((x : Int) = (k : Int)) by intro e; exact h (by rw [Int.ofNat.inj e]; simp)), ih (fun h2 => h (List.mem_cons_of_mem _ h2))]
def NxtN (W' : Wd) (G : Gh) (h : AH) (p no : Nat) (r : Value × AH) : Prop := ∃ b S C ro, Rep W' ⟨ups G.B (.rq p no) b, S, C, ro⟩ r.2 ∧ Gx G h ⟨ups G.B (.rq p no) b, S, C, ro⟩ r.2 ∧ C (.rq p no) ≠ .no ∧ r.1 = ptr b
theorem add_ok {W : Wd} {G : Gh} {h : AH} {p : Nat} {r : Rq} {W' : Wd} (R : Rep W G h) (hp : p < W.n) (hrd : r.data = []) (hrp : r.pcs = []) (hrs : r.sent = []) (he : W.add p r = some W') :
   Arm.Calls Try.prog 43 [ptr (G.B .wd), nv (p : Int), .agg ⟨[nk r.no, nv r.peer, nv r.ctx, nv r.tag, nv r.room, .bool r.send, .bool r.sync, .bool r.pers, .bool r.act, .bool r.done, nk r.parts, nk r.size, .slice none 0 0, .slice none 0 0, nk r.gone, .slice none 0 0, .bool r.clr, nv r.st.src, nv r.st.tag, nv r.st.size, nv r.st.err]⟩] h (NxtN W' G h p (W.pr p).next) := by
 unfold Wd.add at he
 split at he
 rotate_right
 · cases he
 rename_i hc
 obtain ⟨hnx, hnot⟩ := hc
 have hnx : (W.pr p).next < 1000000000 := hnx
 obtain rfl := Option.some.inj he
 have hpl := R.prLt hp
 refine Calls_W 33 Try.f43 ?_
 have T0 : Sm Nix h h := .refl
 refine W_seq (W_region ?_)
 have m111 : ¬ (Gh.mut G) h.next ∧ ¬ (Gh.ro G) h.next := ⟨(R.ext T0).op.new (Nat.le_refl _), (R.ext T0).op.newr (Nat.le_refl _)⟩
 refine L_nwc [nk r.no, nv r.peer, nv r.ctx, nv r.tag, nv r.room, .bool r.send, .bool r.sync, .bool r.pers, .bool r.act, .bool r.done, nk r.parts, nk r.size, .slice none 0 0, .slice none 0 0, nk r.gone, .slice none 0 0, .bool r.clr, nv r.st.src, nv r.st.tag, nv r.st.size, nv r.st.err] .ptr rfl rfl kr fun h111 c111 t111 n111 => ?_
 have T111 := T0.ext t111
 have N111 := T111.nx
 refine L_g 1 kr (L_nil (W_sg 3 kr (L_ld _ rfl rfl kr ((R.ext T111).wdL.ld (o := 1) kr rfl) (L_g 1 kr ?_))))
 obtain ⟨b1, o1, i1, l1⟩ := (R.ext T111).prsAt (P := Try.prog) (T := 74) (el := 77) kr kr kr hp
 refine L_ix _ rfl rfl kr kr (i1) (L_ld _ rfl rfl kr (l1) (L_g 1 kr (L_nil (W_sg 3 kr (L_ld _ rfl rfl kr (((R.ext T111).prL hp).ld (o := 0) kr rfl) (L_g 1 kr ?_))))))
 obtain ⟨h112, e112, d112, t112, n112⟩ := c111.s1 3 0 (nk (W.pr p).next)
 replace d112 : Cl h112 (h.next) [nk (W.pr p).next, nv r.peer, nv r.ctx, nv r.tag, nv r.room, .bool r.send, .bool r.sync, .bool r.pers, .bool r.act, .bool r.done, nk r.parts, nk r.size, .slice none 0 0, .slice none 0 0, nk r.gone, .slice none 0 0, .bool r.clr, nv r.st.src, nv r.st.tag, nv r.st.size, nv r.st.err] := d112
 replace c111 := d112
 have T112 := T111.tr t112
 have N112 := T112.nx
 refine L_st _ rfl rfl rfl kr kr (e112) (L_nil (W_sg 3 kr (L_ld _ rfl rfl kr (((R.ext T112).prL hp).ld (o := 0) kr rfl) (L_i (((W.pr p).next : Int)) (1) (nk ((W.pr p).next + 1)) rfl rfl kr kr rfl (inc_ok hnx) (L_g 2 kr ?_)))))
 obtain ⟨h113, e113, d113, t113, n113⟩ := ((R.ext T112).prL hp).store (P := Try.prog) (T := 3) (o := 0) (v := nk ((W.pr p).next + 1)) kr rfl rfl (by simp [prC])
 obtain ⟨S0, C0, ro0, ⟨R0, Y0⟩, f0⟩ := (R.ext T112).setNextF hp ((W.pr p).next + 1) (Nat.le_succ _) d113 t113 (R.fresh hp)
 have X0 := ((Gx.refl).trans (Gx.of T112)).trans Y0
 have l5 := c111.lt
 have m9 : ¬ (Gh.mut ⟨G.B, S0, C0, ro0⟩) (h.next) ∧ ¬ ro0 (h.next) := ⟨fun hm => (Y0.mu _ hm).elim m111.1 (fun e => by omega), fun hm => (Y0.ron _ hm).elim m111.2 (fun e => by omega)⟩
 refine L_st _ rfl rfl rfl kr kr (e113) ?_
 replace c111 := c111.sn t113
 have T113 : Sm Nix h113 h113 := .refl
 refine L_nil (W_seq (W_drawn kr (D_e (e := 6) (l := [0,1,2,3,4,5]) (s' := []) kr kr rfl kr Rk_nil (NS_b 3 kr (NS_ld _ rfl rfl kr kr kr (((R0.ext T113).prL hp).ld (o := 1) kr rfl) (NS_b 1 kr (NS_ld _ rfl rfl kr kr kr (c111.ld (o := 0) kr rfl) (NS_nil ?_))))))))
 have hn9 : (W.pr p).next < ((W.setPr p { W.pr p with next := (W.pr p).next + 1 }).pr p).next := by rw [Wd.setPr_at]; exact Nat.lt_succ_self _
 obtain ⟨C9, R9, X9, hr9⟩ := (R0.ext T113).adopt ((X0).trans (Gx.of T113)) (W := (W.setPr p { W.pr p with next := (W.pr p).next + 1 })) hp hn9 f0 (r := { r with no := (W.pr p).next }) (dv := nilS) ⟨by omega, m9⟩ (by show Dr _ _ _ r.data; rw [hrd]; exact ⟨Rb.nil, fun b hb => by cases hb⟩) hrp hrs c111
 have hE := R9.rqs (p := p) hp
 obtain ⟨h114, e114, mp114, t114, n114⟩ := hE.1.update (P := Try.prog) (T := 78) (el := 103) kr kNum ((W.pr p).next : Int) (v := ptr (h.next)) (y := ptr (h.next)) rfl
 have hB9 : ups G.B (.rq p (W.pr p).next) (h.next) (.rq p (W.pr p).next) = h.next := ups_at _ _ _
 have e9 := kset_new (f := fun k => ptr (ups G.B (.rq p (W.pr p).next) (h.next) (.rq p k))) hnot
 rw [hB9] at e9
 have hq9 : ((W.setPr p { W.pr p with next := (W.pr p).next + 1 }).pr p).reqs = (W.pr p).reqs := by rw [Wd.setPr_at]
 have mp9114 : Mp h114 (G.B (.rqs p)) nv Eq (((W.pr p).reqs ++ [(W.pr p).next]).map fun (k : Nat) => ((k : Int), ptr (ups G.B (.rq p (W.pr p).next) (h.next) (.rq p k)))) := e9 ▸ (by have := mp114; rw [show (((W.setPr p { W.pr p with next := (W.pr p).next + 1 }).setRq p (W.pr p).next { r with no := (W.pr p).next }).pr p).reqs = (W.pr p).reqs from hq9] at this; exact this)
 obtain ⟨S8, C8, ro8, R8, Y8⟩ := R9.setRqs (p := p) hp (l := (W.pr p).reqs ++ [(W.pr p).next]) (fun k hk => by
   rcases List.mem_append.1 hk with hk | hk
   · exact (R9.rel.pr p hp).rqp k (by rw [show (((W.setPr p { W.pr p with next := (W.pr p).next + 1 }).setRq p (W.pr p).next { r with no := (W.pr p).next }).pr p).reqs = (W.pr p).reqs from hq9]; exact hk)
   · cases List.mem_singleton.1 hk; exact hr9) mp9114 (hE.2.update e114) t114
 have X8 := X9.trans Y8
 refine L_mu _ rfl rfl rfl kr kr kr e114 ?_
 replace c111 := c111
 have T114 : Sm Nix h114 h114 := .refl
 refine L_nil ⟨rfl, ?_⟩
 refine D_l (l := []) kr kr Rk_nil (NS_nil (W_sg 1 kr (L_nil (W_ret ?_))))
 repeat first | with_reducible refine then_ret ?_ | with_reducible refine blk_ret ?_
 refine done_of (v := ptr (h.next)) (.inl rfl) kr ?_
 have hw9 : (((W.setPr p { W.pr p with next := (W.pr p).next + 1 }).setRq p (W.pr p).next { r with no := (W.pr p).next }).setPr p { ((W.setPr p { W.pr p with next := (W.pr p).next + 1 }).setRq p (W.pr p).next { r with no := (W.pr p).next }).pr p with reqs := (W.pr p).reqs ++ [(W.pr p).next] }) = (((W.setPr p { W.pr p with next := (W.pr p).next + 1 }).setRq p (W.pr p).next { r with no := (W.pr p).next }).setPr p { W.pr p with next := (W.pr p).next + 1, reqs := (W.pr p).reqs ++ [(W.pr p).next] }) := by
   rw [show ((W.setPr p { W.pr p with next := (W.pr p).next + 1 }).setRq p (W.pr p).next { r with no := (W.pr p).next }).pr p = { W.pr p with next := (W.pr p).next + 1 } from Wd.setPr_at _ _ _]
 rw [hw9] at R8
 exact ⟨h.next, S8, C8, ro8, R8, X8, (Y8.keep (.rq p (W.pr p).next) hr9).1, rfl⟩
end
end Go.Proofs.Ytmehemeoaplepaa
