/- Nodes, their laws and the walks of Check, Compile and the law. -/
import Derived.Test.YtlgakeilplnfmaaGreatDoorYm
import Derived.Test.YtlgakeilplnfmaaGreatDoorYj
namespace Go.Proofs.YtlgakeilplnfmaaGreatDoor
noncomputable section
open Go Go.X Go.Arm Go.Mt Go.Lj
theorem emit_ok : ∀ (N : Nat) (l : List Nd) (c : List Ins) {F : Nat → Prop} {h : AH} {vo vl : Value} (_ : szl l < N) (_ : wfl l) (_ : c.length + 2 * szl l < 1000000) (_ : NdS F h vl l) (_ : ∀ b, F b → b < h.next ∧ Go.Arm.vb vo ≠ some b) (_ : Gr h 4 vo c.length (c.flatMap insc)),
  Arm.Calls Tryz.prog 31 [vo, vl] h (fun r => Em h vo r.2 r.1 (c ++ cgs c.length l)) := by
 intro N
 induction N with
 | zero => intro l c F h vo vl hs _ _ _ _ _; omega
 | succ N ih =>
  intro l c F h vo vl hs hw hl8 H hF g
  obtain ⟨cs, H1, H2, H9, H3⟩ := H
  have U0 : Go.Arm.Sm Nix h h := .refl
  have E0 : Em h vo h vo c := Em.refl g
  refine Calls_W 92 Tryz.f31 ?_
  have T0 : Go.Arm.Sm (fun b => Go.Arm.vb vo = some b) h h := .refl
  refine W_sg 1 kr (L_nil (W_seq (W_sg 1 kr (L_ln _ rfl rfl kr ((H1.sm T0 (fun b hb => (hF b (H9 b hb)).2)).len (T := 22) (el := 44) kr) (L_g 1 kr (L_nil (W_block ?_)))))))
  refine W_loop (fun mm fr hh => ∃ (k : Nat) (v1 : Value) (cq : List Ins), (k ≤ l.length) ∧ (cq ++ cgs cq.length (l.drop k) = c ++ cgs c.length l) ∧ (cq.length + 2 * szl (l.drop k) ≤ c.length + 2 * szl l) ∧ (Em h vo hh v1 cq) ∧ mm = l.length - k ∧ fr 0 = v1 ∧ fr 12 = vl ∧ fr 13 = nv (l.length : Int) ∧ fr 14 = nv (k : Int) ∧ Go.Arm.Sm (fun b => Go.Arm.vb vo = some b) h hh) (l.length) ?_ ?_
  ·
   exact ⟨0, vo, c, Nat.zero_le _, rfl, by rw [List.drop_zero]; exact Nat.le_refl _, E0.ext U0, rfl, kr, kr, kr, kr, T0⟩
  rintro mm225 fr225 h225 ⟨k, v1, cq, hk, hc, hsq, E1, hm225, y225_0, y225_12, y225_13, y225_14, T225⟩
  have N225 := T225.nx
  refine W_set (k := 0) y225_0 (W_set (k := 12) y225_12 (W_set (k := 13) y225_13 (W_set (k := 14) y225_14 ?_)))
  have U225 : Go.Arm.Sm Nix h225 h225 := .refl
  refine W_sg 1 kr (L_nil (W_seq ?_))
  refine W_cond (decide ((k : Int) < (l.length : Nat))) kr (fun hb => ?_) (fun hb => ?_)
  ·
   have hltx : k < l.length := by simp at hb; omega
   obtain ⟨x, hxx⟩ : ∃ x, l[k]? = some x := ⟨_, List.getElem?_eq_getElem hltx⟩
   have hdrx : l.drop k = x :: l.drop (k + 1) := by rw [List.drop_eq_getElem_cons hltx, (List.getElem?_eq_some_iff.1 hxx).2]
   have hszx := sz_mem (List.mem_of_getElem? hxx)
   have hsxx := sz_is x
   have hsdx : szl (l.drop k) = sz1 x + szl (l.drop (k + 1)) := by rw [hdrx, szl]
   have hwx := wf1_is (wfl_at hw hxx)
   obtain ⟨c7, hcc, hnd⟩ := H3.at hxx
   obtain ⟨va, vb, ve, rfl, Ha, Hb, He⟩ := hnd.is
   obtain ⟨p1, c1, rfl⟩ := Ha.form
   obtain ⟨p2, c2, rfl⟩ := Hb.form
   obtain ⟨p3, c3, rfl⟩ := He.form
   obtain ⟨csa, Ha1, Ha2, Ha9, Ha3⟩ := id Ha
   obtain ⟨b9, o9, _, i9, l9⟩ := (H1.sm T225 (fun b hb => (hF b (H9 b hb)).2)).at (P := Tryz.prog) (T := 22) (el := 44) kr kr hltx .i64
   refine W_skip ?_
   refine W_seq_cut (fun fr hh => ∃ (v3 : Value) (d3 : List Ins), (d3 = cq ++ cg1 cq.length x) ∧ (Em h vo hh v3 d3) ∧ fr 0 = v3 ∧ fr 12 = vl ∧ fr 13 = nv (l.length : Int) ∧ fr 14 = nv (k : Int) ∧ Go.Arm.Sm (fun b => Go.Arm.vb vo = some b) h hh) ?_ ?_
   ·
    refine W_block (W_seq (W_region (L_ix _ rfl rfl kr kr (i9) (L_ld _ rfl rfl kr (ld_l (l := [nv x.op, nv x.val, .string x.nm, .string x.ot, .slice p1 x.a.length c1, .slice p2 x.b.length c2, .slice p3 x.e.length c3]) kr (fun j hj => by rw [l9 j hj]; exact hcc j hj)) (L_nwc [nv 0, nv 0, .string ⟨#[]⟩, .string ⟨#[]⟩, .slice none 0 0, .slice none 0 0, .slice none 0 0] .ptr rfl rfl kr fun h226 c226 t226 n226 => ?_)))))
    have T226 : Go.Arm.Sm (fun b => Go.Arm.vb vo = some b) h h226 := T225.ext t226
    have U226 : Go.Arm.Sm Nix h225 h226 := U225.ext t226
    have N226 := T226.nx
    have NU226 := U226.nx
    obtain ⟨h227, e227, d227, t227, n227⟩ := c226.sA 44 [nv x.op, nv x.val, .string x.nm, .string x.ot, .slice p1 x.a.length c1, .slice p2 x.b.length c2, .slice p3 x.e.length c3]
    replace c226 := d227
    have T227 : Go.Arm.Sm (fun b => Go.Arm.vb vo = some b) h h227 := T226.tr t227
    have U227 : Go.Arm.Sm Nix h225 h227 := U226.tr t227
    have N227 := T227.nx
    have NU227 := U227.nx
    refine L_st _ rfl rfl rfl kr kr (e227) ?_
    have nb0 : ∀ b, Go.Arm.vb v1 = some b → b ≠ h225.next := fun b hb => by have := E1.lt hb; omega
    refine L_nil (W_sg 1 kr (L_ln _ rfl rfl kr ((E1.ext U227).len (P := Tryz.prog) (T := 33) (el := 37) kr) (L_g 1 kr (L_nil (W_seq (W_sg 1 kr (L_ld _ rfl rfl kr (c226.ld (o := 4) kr rfl) ?_)))))))
    refine L_ln _ rfl rfl kr ((show aLen Tryz.prog 22 (.slice p1 x.a.length c1) h227 = some (.int .i64 (x.a.length : Int)) by kernel_rfl)) (L_g 1 kr (L_nil (W_block ?_)))
    refine W_loop (fun mm fr hh => ∃ (j : Nat) (v2 : Value) (d : List Ins), (j ≤ x.a.length) ∧ (d ++ cga d.length (x.a.drop j) = cq ++ cga cq.length x.a) ∧ (d.length + 2 * szl (x.a.drop j) ≤ cq.length + 2 * szl x.a) ∧ (Em h vo hh v2 d) ∧ (x = x ∧ ∀ b, Go.Arm.vb v2 = some b → b ≠ h225.next) ∧ mm = x.a.length - j ∧ fr 0 = v2 ∧ fr 7 = nv (cq.length : Int) ∧ fr 12 = vl ∧ fr 13 = nv (l.length : Int) ∧ fr 14 = nv (k : Int) ∧ fr 21 = .slice p1 x.a.length c1 ∧ fr 22 = nv (x.a.length : Int) ∧ fr 23 = nv (j : Int) ∧ fr 6 = ptr h225.next ∧ Go.Arm.Sm (fun b => Go.Arm.vb vo = some b) h hh ∧ Cl hh (h225.next) [nv x.op, nv x.val, .string x.nm, .string x.ot, .slice p1 x.a.length c1, .slice p2 x.b.length c2, .slice p3 x.e.length c3]) (x.a.length) ?_ ?_
    ·
     exact ⟨0, v1, cq, Nat.zero_le _, rfl, by rw [List.drop_zero]; exact Nat.le_refl _, E1.ext U227, ⟨rfl, nb0⟩, rfl, kr, kr, kr, kr, kr, kr, kr, kr, kr, T227, c226⟩
    rintro mm228 fr228 h228 ⟨j, v2, d, hj, hd, hsj, E2, nb, hm228, y228_0, y228_7, y228_12, y228_13, y228_14, y228_21, y228_22, y228_23, y228_6, T228, c226⟩
    have N228 := T228.nx
    have B228_t6 := c226.lt
    refine W_set (k := 0) y228_0 (W_set (k := 7) y228_7 (W_set (k := 12) y228_12 (W_set (k := 13) y228_13 (W_set (k := 14) y228_14 (W_set (k := 21) y228_21 (W_set (k := 22) y228_22 (W_set (k := 23) y228_23 (W_set (k := 6) y228_6 ?_))))))))
    have U228 : Go.Arm.Sm Nix h228 h228 := .refl
    have nbx := nb.2
    refine W_sg 1 kr (L_nil (W_seq ?_))
    refine W_cond (decide ((j : Int) < (x.a.length : Nat))) kr (fun hb => ?_) (fun hb => ?_)
    ·
     have hlty : j < x.a.length := by simp at hb; omega
     obtain ⟨y, hxy⟩ : ∃ y, x.a[j]? = some y := ⟨_, List.getElem?_eq_getElem hlty⟩
     have hdry : x.a.drop j = y :: x.a.drop (j + 1) := by rw [List.drop_eq_getElem_cons hlty, (List.getElem?_eq_some_iff.1 hxy).2]
     have hszy := sz_mem (List.mem_of_getElem? hxy)
     have hsxy := sz_is y
     have hsdy : szl (x.a.drop j) = sz1 y + szl (x.a.drop (j + 1)) := by rw [hdry, szl]
     have hwy := wfl_at hwx.2.1 hxy
     obtain ⟨c8, hcy, hny⟩ := Ha3.at hxy
     obtain ⟨va4, vb4, ve4, rfl, Ga, Gb, Ge⟩ := hny.is
     obtain ⟨p4, c4, rfl⟩ := Ga.form
     obtain ⟨p5, c5, rfl⟩ := Gb.form
     obtain ⟨p6, c6, rfl⟩ := Ge.form
     obtain ⟨b8, o8, _, i8, l8⟩ := (Ha1.sm T228 (fun b hb => (hF b (Ha9 b hb)).2)).at (P := Tryz.prog) (T := 22) (el := 44) kr kr hlty .i64
     refine W_skip (W_seq (W_block (W_seq (W_region (L_ix _ rfl rfl kr kr (i8) (L_ld _ rfl rfl kr (ld_l (l := [nv y.op, nv y.val, .string y.nm, .string y.ot, .slice p4 y.a.length c4, .slice p5 y.b.length c5, .slice p6 y.e.length c6]) kr (fun j hj => by rw [l8 j hj]; exact hcy j hj)) (L_nwc [nv 0, nv 0, .string ⟨#[]⟩, .string ⟨#[]⟩, .slice none 0 0, .slice none 0 0, .slice none 0 0] .ptr rfl rfl kr fun h229 c229 t229 n229 => ?_)))))))
     replace c226 := c226.ext t229
     have T229 : Go.Arm.Sm (fun b => Go.Arm.vb vo = some b) h h229 := T228.ext t229
     have U229 : Go.Arm.Sm Nix h228 h229 := U228.ext t229
     have N229 := T229.nx
     have NU229 := U229.nx
     obtain ⟨h230, e230, d230, t230, n230⟩ := c229.sA 44 [nv y.op, nv y.val, .string y.nm, .string y.ot, .slice p4 y.a.length c4, .slice p5 y.b.length c5, .slice p6 y.e.length c6]
     replace c226 := c226.sn t230
     replace c229 := d230
     have T230 : Go.Arm.Sm (fun b => Go.Arm.vb vo = some b) h h230 := T229.tr t230
     have U230 : Go.Arm.Sm Nix h228 h230 := U229.tr t230
     have N230 := T230.nx
     have NU230 := U230.nx
     refine L_st _ rfl rfl rfl kr kr (e230) (L_nil (W_sg 1 kr (L_ld _ rfl rfl kr (c229.ld (o := 0) kr rfl) (L_i (y.op) (24) (.bool (y.op != 24)) rfl rfl kr kr rfl (rfl) (L_nil ?_)))))
     refine W_cond (y.op != 24) kr (fun hb => ?_) (fun hb => ?_)
     ·
      have hy24 : y.op ≠ 24 := by simpa using hb
      refine W_rg 1 kr (L_ld _ rfl rfl kr (Cl.allN (n := 7) c229 rfl kr) (L_nwc [nv y.op, nv y.val, .string y.nm, .string y.ot, .slice p4 y.a.length c4, .slice p5 y.b.length c5, .slice p6 y.e.length c6] (.sl 1 1) rfl rfl kr fun h231 c231 t231 n231 => ?_))
      replace c226 := c226.ext t231
      have T231 : Go.Arm.Sm (fun b => Go.Arm.vb vo = some b) h h231 := T230.ext t231
      have U231 : Go.Arm.Sm Nix h228 h231 := U230.ext t231
      have N231 := T231.nx
      have NU231 := U231.nx
      skip
      have U0232 := U231
      have lb232 := c226.lt
      have hy9 : NdS (fun b => F b ∨ b = h230.next) h231 (.slice (some ⟨h230.next, 0, none⟩) 1 1) [y] := ⟨_, c231.sdX rfl, (show 1 < 9223372036854775808 by decide), (fun q hq => .inr (by cases hq; rfl)), NdL.one (NdC.mk (x := y) (Ga.sm T231 (fun b hb => (hF b hb).2) (fun _ => .inl)) (Gb.sm T231 (fun b hb => (hF b hb).2) (fun _ => .inl)) (Ge.sm T231 (fun b hb => (hF b hb).2) (fun _ => .inl)))⟩
      have hs9 : szl [y] = sz1 y := by simp [szl]
      refine L_c rfl rfl kr (ih [y] d (by omega) (wfl_one hwy) (by omega) (hy9) ((fun b hb => hb.elim (fun hb => ⟨by have := (hF b hb).1; omega, fun e => (E2.fr b e).elim (hF b hb).2 (fun q => by have := (hF b hb).1; omega)⟩) (fun hb => ⟨by subst hb; exact c231.lt, fun e => by subst hb; have := E2.lt e; omega⟩))) (E2.ext U231).gr) ?_
      rintro v232 h232 A232
      dsimp only at A232
      have t232 := A232.sm
      replace c226 := c226.sm t232 (fun e => nbx _ e rfl)
      have T232 : Go.Arm.Sm (fun b => Go.Arm.vb vo = some b) h h232 := T231.trans t232 (fun x hx => E2.fr x hx)
      have N232 := T232.nx
      have U232 : Go.Arm.Sm Nix h232 h232 := .refl
      have E232 := (E2.ext U0232).trans A232
      have nb232 : ∀ b, Go.Arm.vb v232 = some b → b ≠ h225.next := fun b hb => (A232.fr b hb).elim (fun e => nbx b e) (fun e => by omega)
      obtain ⟨d232, hd232⟩ : ∃ q0 : List Ins, q0 = d ++ cgs d.length [y] := ⟨_, rfl⟩
      have ld232 : d232.length ≤ d.length + 2 * szl [y] := by rw [hd232]; rw [List.length_append]; have := cgs_len d.length [y]; omega
      rw [← hd232] at E232
      refine L_g 1 kr (L_nil (W_region (L_i ((j : Int)) (1) (nv ((j + 1 : Nat) : Int)) rfl rfl kr kr rfl (incT hlty Ha2) (L_g 1 kr (L_nil ?_)))))
      exact ⟨x.a.length - (j + 1), by omega, j + 1, _, _, by omega, emit_arg hdry hd hy24 hd232, (by have q0 := sz_is y; have : szl [y] = sz1 y := (by simp [szl]); omega), E232.ext U232, ⟨rfl, nb232⟩, rfl, kr, kr, kr, kr, kr, kr, kr, kr, kr, T232, c226⟩
     ·
      have hy24 : y.op = 24 := by simpa using hb
      refine W_skip (W_region (L_i ((j : Int)) (1) (nv ((j + 1 : Nat) : Int)) rfl rfl kr kr rfl (incT hlty Ha2) (L_g 1 kr (L_nil ?_))))
      exact ⟨x.a.length - (j + 1), by omega, j + 1, _, _, by omega, emit_any hdry hd hy24, (by omega), E2.ext U230, ⟨rfl, nbx⟩, rfl, kr, kr, kr, kr, kr, kr, kr, kr, kr, T230, c226⟩
    ·
     have hge : j = x.a.length := by simp at hb; omega
     have hd2 : d = cq ++ cga cq.length x.a := by rw [← hd, hge, List.drop_length, cga_nil, List.append_nil]
     have hsd2 : d.length ≤ cq.length + 2 * szl x.a := by rw [hge, List.drop_length, szl] at hsj; omega
     refine W_exit ?_
     refine rx ?_
     refine exit_here (W_sg 1 kr (L_ld _ rfl rfl kr (c226.ld (o := 0) kr rfl) (L_nil (W_block ?_))))
     refine W_seq_cut (fun fr hh => (hh = h228) ∧ fr 0 = v2 ∧ fr 6 = ptr h225.next ∧ fr 7 = nv (cq.length : Int) ∧ fr 12 = vl ∧ fr 13 = nv (l.length : Int) ∧ fr 14 = nv (k : Int) ∧ fr 42 = .bool (decide (x.op = 12 ∨ x.op = 13)) ∧ Go.Arm.Sm (fun b => Go.Arm.vb vo = some b) h hh) ?_ ?_
     ·
      refine W_seq ?_
      have h3 : x.op = 12 ∨ x.op = 13 ∨ (x.op ≠ 12 ∧ x.op ≠ 13) := by omega
      rcases h3 with q1 | q1 | ⟨q1, q2⟩
      ·
       refine W_region (L_i (x.op) (12) (.bool true) rfl rfl kr kr rfl (by first | (simp; omega) | (simp [*]; done)) (L_g 1 kr (L_nil (W_cT kr (W_skip ?_)))))
       skip
       exact ⟨rfl, kr, kr, kr, kr, kr, kr, (Eq.trans (b := .bool (true)) kr (congrArg Value.bool (Eq.symm (show decide (x.op = 12 ∨ x.op = 13) = (true) by simp [q1])))), T228⟩
      ·
       refine W_region (L_i (x.op) (12) (.bool false) rfl rfl kr kr rfl (by first | (simp; omega) | (simp [*]; done)) (L_g 1 kr (L_nil (W_cF kr (W_region (L_i (x.op) (13) (.bool true) rfl rfl kr kr rfl (by first | (simp; omega) | (simp [*]; done)) (L_g 1 kr (L_nil ?_))))))))
       skip
       exact ⟨rfl, kr, kr, kr, kr, kr, kr, (Eq.trans (b := .bool (true)) kr (congrArg Value.bool (Eq.symm (show decide (x.op = 12 ∨ x.op = 13) = (true) by simp [q1])))), T228⟩
      ·
       refine W_region (L_i (x.op) (12) (.bool false) rfl rfl kr kr rfl (by first | (simp; omega) | (simp [*]; done)) (L_g 1 kr (L_nil (W_cF kr (W_region (L_i (x.op) (13) (.bool false) rfl rfl kr kr rfl (by first | (simp; omega) | (simp [*]; done)) (L_g 1 kr (L_nil ?_))))))))
       skip
       exact ⟨rfl, kr, kr, kr, kr, kr, kr, (Eq.trans (b := .bool (false)) kr (congrArg Value.bool (Eq.symm (show decide (x.op = 12 ∨ x.op = 13) = (false) by simp [q1, q2])))), T228⟩
     ·
      rintro fr233 h233 ⟨eh, y233_0, y233_6, y233_7, y233_12, y233_13, y233_14, y233_42, T233⟩
      have N233 := T233.nx
      refine W_set (k := 0) y233_0 (W_set (k := 6) y233_6 (W_set (k := 7) y233_7 (W_set (k := 12) y233_12 (W_set (k := 13) y233_13 (W_set (k := 14) y233_14 (W_set (k := 42) y233_42 ?_))))))
      subst eh
      refine W_cond (decide (x.op = 12 ∨ x.op = 13)) kr (fun hb => ?_) (fun hb => ?_)
      ·
       have q7 := of_decide_eq_true hb
       refine W_sg 1 kr (L_ln _ rfl rfl kr ((E2.ext U228).len (P := Tryz.prog) (T := 33) (el := 37) kr) (L_g 1 kr (L_nil (W_seq (W_drawn kr (D_e (e := 3) (l := [0,1,2,4,5]) (s' := [4,5]) kr kr rfl kr Rk_nil (NS_b 2 kr (NS_new (Al.cells (insc z10)) (.sl 1 1) rfl kr rfl rfl kr kr ?_))))))))
       have c234 : Cl (h233.push (Al.cells (insc z10)).obj) h233.next (insc z10) := Cl.new h233 _
       have t234 : Sm Nix h233 (h233.push (Al.cells (insc z10)).obj) := .push h233 _
       have n234 : (h233.push (Al.cells (insc z10)).obj).next = h233.next + 1 := rfl
       generalize h233.push (Al.cells (insc z10)).obj = h234 at c234 t234 n234 ⊢
       replace c226 := c226.ext t234
       have T234 : Go.Arm.Sm (fun b => Go.Arm.vb vo = some b) h h234 := T228.ext t234
       have U234 : Go.Arm.Sm Nix h233 h234 := U228.ext t234
       have N234 := T234.nx
       have NU234 := U234.nx
       refine NS_b 1 kr (NS_ld _ rfl rfl kr kr kr (c226.ld (o := 5) kr rfl) (NS_nil ?_))
       have U0235 := U234
       have lb235 := c226.lt
       obtain ⟨v235, h235, e235, A235⟩ := (E2.ext U234).app (P := Tryz.prog) (sT := 33) (xT := 33) (el := 37) (by_ := 48) (z := .agg ⟨[nv 0, nv 0, .string ⟨#[]⟩, .string ⟨#[]⟩]⟩) (i := z10) kr kr kr kr kr rfl (c234.sdX rfl) (by omega)
       refine L_bi v235 h235 rfl rfl kr (vs := [v2, .slice (some ⟨h233.next, 0, none⟩) 1 1]) kr (bi_append e235) ?_
       have t235 := A235.sm
       replace c226 := c226.sm t235 (fun e => nbx _ e rfl)
       have T235 : Go.Arm.Sm (fun b => Go.Arm.vb vo = some b) h h235 := T234.trans t235 (fun x hx => E2.fr x hx)
       have N235 := T235.nx
       have U235 : Go.Arm.Sm Nix h235 h235 := .refl
       have E235 := (E2.ext U0235).trans A235
       have nb235 : ∀ b, Go.Arm.vb v235 = some b → b ≠ h225.next := fun b hb => (A235.fr b hb).elim (fun e => nbx b e) (fun e => by omega)
       obtain ⟨d235, hd235⟩ : ∃ q0 : List Ins, q0 = d ++ [z10] := ⟨_, rfl⟩
       have ld235 : d235.length = d.length + 1 := by rw [hd235]; simp
       rw [← hd235] at E235
       refine L_nil ⟨rfl, ?_⟩
       refine D_e (e := 6) (l := []) (s' := []) kr kr rfl kr (Rk_1 rfl rfl (Rk_ld _ rfl rfl rfl kr (c226.ld (o := 5) kr rfl) kr Rk_nil)) (NS_nil ?_)
       have U0236 := U235
       have lb236 := c226.lt
       refine L_c rfl rfl kr (ih x.b d235 (by omega) hwx.2.2.1 (by omega) ((Hb.sm T235 (fun b hb => (hF b hb).2) (fun _ => id))) ((fun b hb => ⟨by have := (hF b hb).1; omega, fun e => (E235.fr b e).elim (hF b hb).2 (fun q => by have := (hF b hb).1; omega)⟩)) (E235.ext U235).gr) ?_
       rintro v236 h236 A236
       dsimp only at A236
       have t236 := A236.sm
       replace c226 := c226.sm t236 (fun e => nb235 _ e rfl)
       have T236 : Go.Arm.Sm (fun b => Go.Arm.vb vo = some b) h h236 := T235.trans t236 (fun x hx => E235.fr x hx)
       have N236 := T236.nx
       have U236 : Go.Arm.Sm Nix h236 h236 := .refl
       have E236 := (E235.ext U0236).trans A236
       have nb236 : ∀ b, Go.Arm.vb v236 = some b → b ≠ h225.next := fun b hb => (A236.fr b hb).elim (fun e => nb235 b e) (fun e => by omega)
       obtain ⟨d236, hd236⟩ : ∃ q0 : List Ins, q0 = d235 ++ cgs d235.length x.b := ⟨_, rfl⟩
       have ld236 : d236.length ≤ d235.length + 2 * szl x.b := by rw [hd236]; rw [List.length_append]; have := cgs_len d235.length x.b; omega
       rw [← hd236] at E236
       refine L_nil ⟨rfl, ?_⟩
       refine D_l (l := [7]) kr kr Rk_nil (NS_b 1 kr (NS_nil (W_sg 1 kr (L_ln _ rfl rfl kr ((E236.ext U236).len (P := Tryz.prog) (T := 33) (el := 37) kr) (L_g 1 kr (L_nil (W_seq (W_seq ?_))))))))
       have h4 : (x.op = 12 ∧ x.e = []) ∨ (x.op = 12 ∧ x.e ≠ []) ∨ (x.op = 13 ∧ x.e = []) ∨ (x.op = 13 ∧ x.e ≠ []) := by rcases q7 with q | q <;> by_cases e : x.e = [] <;> simp [q, e]
       rcases h4 with ⟨q1, q2⟩ | ⟨q1, q2⟩ | ⟨q1, q2⟩ | ⟨q1, q2⟩
       ·
        refine W_rg 1 kr (L_ld _ rfl rfl kr (c226.ld (o := 0) kr rfl) (L_i (x.op) (13) (.bool false) rfl rfl kr kr rfl (by first | (simp; omega) | (simp [*]; done)) (L_g 2 kr (L_want kr (L_ld _ rfl rfl kr (c226.ld (o := 6) kr rfl) (L_want kr (L_ln _ rfl rfl kr ((show aLen Tryz.prog 22 (.slice p3 x.e.length c3) h236 = some (.int .i64 (x.e.length : Int)) by kernel_rfl)) (L_want kr (L_i ((x.e.length : Int)) (0) (.bool false) rfl rfl kr kr rfl (by first | (rw [q2]; rfl) | (have := List.length_pos_iff.2 q2; simp; omega)) (L_g 1 kr ?_))))))))))
        refine L_nil (W_cF kr (W_skip (W_sg 3 kr (L_ln _ rfl rfl kr ((E236.ext U236).len (P := Tryz.prog) (T := 33) (el := 37) kr) ?_))))
        have gj := get_mid hd235 hd236
        obtain ⟨b9, o9, h9, i9, e9, A9⟩ := (E236.ext U236).set (P := Tryz.prog) (T := 33) (el := 37) (IT := 2) (z := (d236.length : Int)) kr kr kr gj
        refine L_ix _ rfl rfl kr kr (i9) (L_g 1 kr ?_)
        have U0237 := U236
        obtain ⟨h237, hh237⟩ : ∃ q, q = h9 := ⟨_, rfl⟩
        rw [← hh237] at e9 A9
        have A237 := A9
        have e237 := e9
        refine L_st _ rfl rfl rfl kr kr (e237) ?_
        have t237 := A237.sm
        obtain ⟨v237, hv237⟩ : ∃ q, q = v236 := ⟨_, rfl⟩
        replace c226 := c226.sm t237 (fun e => nb236 _ e rfl)
        have T237 : Go.Arm.Sm (fun b => Go.Arm.vb vo = some b) h h237 := T236.trans t237 (fun x hx => E236.fr x hx)
        have N237 := T237.nx
        have U237 : Go.Arm.Sm Nix h237 h237 := .refl
        have E237 := (E236.ext U0237).trans A237
        obtain ⟨d237, hd237⟩ : ∃ q0 : List Ins, q0 = d236.set d.length { (z10 : Ins) with arg := (d236.length : Int) } := ⟨_, rfl⟩
        have ld237 : d237.length = d236.length := by rw [hd237, List.length_set]
        rw [← hd237] at E237
        refine L_nil (W_sg 1 kr (L_ld _ rfl rfl kr (c226.ld (o := 6) kr rfl) (L_ln _ rfl rfl kr ((show aLen Tryz.prog 22 (.slice p3 x.e.length c3) h237 = some (.int .i64 (x.e.length : Int)) by kernel_rfl)) (L_i ((x.e.length : Int)) (0) (.bool false) rfl rfl kr kr rfl (by first | (rw [q2]; rfl) | (have := List.length_pos_iff.2 q2; simp; omega)) (L_nil (W_cF kr (W_skip ?_)))))))
        skip
        exact ⟨_, _, e_if q1 q2 hd2 hd235 hd236 hd237, E237.ext U237, kr, kr, kr, kr, T237⟩
       ·
        refine W_rg 1 kr (L_ld _ rfl rfl kr (c226.ld (o := 0) kr rfl) (L_i (x.op) (13) (.bool false) rfl rfl kr kr rfl (by first | (simp; omega) | (simp [*]; done)) (L_g 2 kr (L_want kr (L_ld _ rfl rfl kr (c226.ld (o := 6) kr rfl) (L_want kr (L_ln _ rfl rfl kr ((show aLen Tryz.prog 22 (.slice p3 x.e.length c3) h236 = some (.int .i64 (x.e.length : Int)) by kernel_rfl)) (L_want kr (L_i ((x.e.length : Int)) (0) (.bool true) rfl rfl kr kr rfl (by first | (rw [q2]; rfl) | (have := List.length_pos_iff.2 q2; simp; omega)) (L_g 1 kr ?_))))))))))
        refine L_nil (W_cT kr (W_rg 3 kr (L_nwc (insc (⟨9, (cq.length : Int), emp, emp⟩ : Ins)) (.sl 1 1) rfl rfl kr fun h238 c238 t238 n238 => ?_)))
        replace c226 := c226.ext t238
        have T238 : Go.Arm.Sm (fun b => Go.Arm.vb vo = some b) h h238 := T236.ext t238
        have U238 : Go.Arm.Sm Nix h236 h238 := U236.ext t238
        have N238 := T238.nx
        have NU238 := U238.nx
        have U0239 := U238
        have lb239 := c226.lt
        obtain ⟨v239, h239, e239, A239⟩ := (E236.ext U238).app (P := Tryz.prog) (sT := 33) (xT := 33) (el := 37) (by_ := 48) (z := .agg ⟨[nv 0, nv 0, .string ⟨#[]⟩, .string ⟨#[]⟩]⟩) (i := (⟨9, (cq.length : Int), emp, emp⟩ : Ins)) kr kr kr kr kr rfl (c238.sdX rfl) (by omega)
        refine L_bi v239 h239 rfl rfl kr (vs := [v236, .slice (some ⟨h236.next, 0, none⟩) 1 1]) kr (bi_append e239) ?_
        have t239 := A239.sm
        replace c226 := c226.sm t239 (fun e => nb236 _ e rfl)
        have T239 : Go.Arm.Sm (fun b => Go.Arm.vb vo = some b) h h239 := T238.trans t239 (fun x hx => E236.fr x hx)
        have N239 := T239.nx
        have U239 : Go.Arm.Sm Nix h239 h239 := .refl
        have E239 := (E236.ext U0239).trans A239
        have nb239 : ∀ b, Go.Arm.vb v239 = some b → b ≠ h225.next := fun b hb => (A239.fr b hb).elim (fun e => nb236 b e) (fun e => by omega)
        obtain ⟨d239, hd239⟩ : ∃ q0 : List Ins, q0 = d236 ++ [(⟨9, (cq.length : Int), emp, emp⟩ : Ins)] := ⟨_, rfl⟩
        have ld239 : d239.length = d236.length + 1 := by rw [hd239]; simp
        rw [← hd239] at E239
        refine L_g 1 kr (L_nil (W_sg 3 kr (L_ln _ rfl rfl kr ((E239.ext U239).len (P := Tryz.prog) (T := 33) (el := 37) kr) ?_)))
        have gj := get_mid hd235 (show d239 = d235 ++ (cgs d235.length x.b ++ [(⟨9, (cq.length : Int), emp, emp⟩ : Ins)]) by rw [hd239, hd236, List.append_assoc])
        obtain ⟨b9, o9, h9, i9, e9, A9⟩ := (E239.ext U239).set (P := Tryz.prog) (T := 33) (el := 37) (IT := 2) (z := (d239.length : Int)) kr kr kr gj
        refine L_ix _ rfl rfl kr kr (i9) (L_g 1 kr ?_)
        have U0240 := U239
        obtain ⟨h240, hh240⟩ : ∃ q, q = h9 := ⟨_, rfl⟩
        rw [← hh240] at e9 A9
        have A240 := A9
        have e240 := e9
        refine L_st _ rfl rfl rfl kr kr (e240) ?_
        have t240 := A240.sm
        obtain ⟨v240, hv240⟩ : ∃ q, q = v239 := ⟨_, rfl⟩
        replace c226 := c226.sm t240 (fun e => nb239 _ e rfl)
        have T240 : Go.Arm.Sm (fun b => Go.Arm.vb vo = some b) h h240 := T239.trans t240 (fun x hx => E239.fr x hx)
        have N240 := T240.nx
        have U240 : Go.Arm.Sm Nix h240 h240 := .refl
        have E240 := (E239.ext U0240).trans A240
        obtain ⟨d240, hd240⟩ : ∃ q0 : List Ins, q0 = d239.set d.length { (z10 : Ins) with arg := (d239.length : Int) } := ⟨_, rfl⟩
        have ld240 : d240.length = d239.length := by rw [hd240, List.length_set]
        rw [← hd240] at E240
        refine L_nil (W_sg 1 kr (L_ld _ rfl rfl kr (c226.ld (o := 6) kr rfl) (L_ln _ rfl rfl kr ((show aLen Tryz.prog 22 (.slice p3 x.e.length c3) h240 = some (.int .i64 (x.e.length : Int)) by kernel_rfl)) (L_i ((x.e.length : Int)) (0) (.bool true) rfl rfl kr kr rfl (by first | (rw [q2]; rfl) | (have := List.length_pos_iff.2 q2; simp; omega)) (L_nil (W_cT kr (W_seq (W_region (L_g 2 kr ?_)))))))))
        refine L_ld _ rfl rfl kr (c226.ld (o := 6) kr rfl) ?_
        have U0241 := U240
        have lb241 := c226.lt
        refine L_c rfl rfl kr (ih x.e d240 (by omega) hwx.2.2.2 (by omega) ((He.sm T240 (fun b hb => (hF b hb).2) (fun _ => id))) ((fun b hb => ⟨by have := (hF b hb).1; omega, fun e => (E240.fr b e).elim (hF b hb).2 (fun q => by have := (hF b hb).1; omega)⟩)) (E240.ext U240).gr) ?_
        rintro v241 h241 A241
        dsimp only at A241
        have t241 := A241.sm
        have T241 : Go.Arm.Sm (fun b => Go.Arm.vb vo = some b) h h241 := T240.trans t241 (fun x hx => E240.fr x hx)
        have N241 := T241.nx
        have U241 : Go.Arm.Sm Nix h241 h241 := .refl
        have E241 := (E240.ext U0241).trans A241
        have nb241 : ∀ b, Go.Arm.vb v241 = some b → b ≠ h225.next := fun b hb => (A241.fr b hb).elim (fun e => nb239 b e) (fun e => by omega)
        obtain ⟨d241, hd241⟩ : ∃ q0 : List Ins, q0 = d240 ++ cgs d240.length x.e := ⟨_, rfl⟩
        have ld241 : d241.length ≤ d240.length + 2 * szl x.e := by rw [hd241]; rw [List.length_append]; have := cgs_len d240.length x.e; omega
        rw [← hd241] at E241
        refine L_g 1 kr (L_nil (W_rg 3 kr (L_ln _ rfl rfl kr ((E241.ext U241).len (P := Tryz.prog) (T := 33) (el := 37) kr) ?_)))
        have gj := get_jmp hd235 hd236 hd239 hd240 hd241
        obtain ⟨b9, o9, h9, i9, e9, A9⟩ := (E241.ext U241).set (P := Tryz.prog) (T := 33) (el := 37) (IT := 2) (z := (d241.length : Int)) kr kr kr gj
        refine L_ix _ rfl rfl kr kr (i9) (L_g 1 kr ?_)
        have U0242 := U241
        obtain ⟨h242, hh242⟩ : ∃ q, q = h9 := ⟨_, rfl⟩
        rw [← hh242] at e9 A9
        have A242 := A9
        have e242 := e9
        refine L_st _ rfl rfl rfl kr kr (e242) ?_
        have t242 := A242.sm
        obtain ⟨v242, hv242⟩ : ∃ q, q = v241 := ⟨_, rfl⟩
        have T242 : Go.Arm.Sm (fun b => Go.Arm.vb vo = some b) h h242 := T241.trans t242 (fun x hx => E241.fr x hx)
        have N242 := T242.nx
        have U242 : Go.Arm.Sm Nix h242 h242 := .refl
        have E242 := (E241.ext U0242).trans A242
        obtain ⟨d242, hd242⟩ : ∃ q0 : List Ins, q0 = d241.set d236.length { ((⟨9, (cq.length : Int), emp, emp⟩ : Ins) : Ins) with arg := (d241.length : Int) } := ⟨_, rfl⟩
        have ld242 : d242.length = d241.length := by rw [hd242, List.length_set]
        rw [← hd242] at E242
        refine L_nil ?_
        skip
        exact ⟨_, _, e_else q7 q2 hd2 hd235 hd236 hd239 hd240 hd241 hd242, E242.ext U242, kr, kr, kr, kr, T242⟩
       ·
        refine W_rg 1 kr (L_ld _ rfl rfl kr (c226.ld (o := 0) kr rfl) (L_i (x.op) (13) (.bool true) rfl rfl kr kr rfl (by first | (simp; omega) | (simp [*]; done)) (L_g 6 kr (L_nil (W_cT kr (W_rg 3 kr (L_nwc (insc (⟨9, (cq.length : Int), emp, emp⟩ : Ins)) (.sl 1 1) rfl rfl kr fun h243 c243 t243 n243 => ?_)))))))
        replace c226 := c226.ext t243
        have T243 : Go.Arm.Sm (fun b => Go.Arm.vb vo = some b) h h243 := T236.ext t243
        have U243 : Go.Arm.Sm Nix h236 h243 := U236.ext t243
        have N243 := T243.nx
        have NU243 := U243.nx
        have U0244 := U243
        have lb244 := c226.lt
        obtain ⟨v244, h244, e244, A244⟩ := (E236.ext U243).app (P := Tryz.prog) (sT := 33) (xT := 33) (el := 37) (by_ := 48) (z := .agg ⟨[nv 0, nv 0, .string ⟨#[]⟩, .string ⟨#[]⟩]⟩) (i := (⟨9, (cq.length : Int), emp, emp⟩ : Ins)) kr kr kr kr kr rfl (c243.sdX rfl) (by omega)
        refine L_bi v244 h244 rfl rfl kr (vs := [v236, .slice (some ⟨h236.next, 0, none⟩) 1 1]) kr (bi_append e244) ?_
        have t244 := A244.sm
        replace c226 := c226.sm t244 (fun e => nb236 _ e rfl)
        have T244 : Go.Arm.Sm (fun b => Go.Arm.vb vo = some b) h h244 := T243.trans t244 (fun x hx => E236.fr x hx)
        have N244 := T244.nx
        have U244 : Go.Arm.Sm Nix h244 h244 := .refl
        have E244 := (E236.ext U0244).trans A244
        have nb244 : ∀ b, Go.Arm.vb v244 = some b → b ≠ h225.next := fun b hb => (A244.fr b hb).elim (fun e => nb236 b e) (fun e => by omega)
        obtain ⟨d244, hd244⟩ : ∃ q0 : List Ins, q0 = d236 ++ [(⟨9, (cq.length : Int), emp, emp⟩ : Ins)] := ⟨_, rfl⟩
        have ld244 : d244.length = d236.length + 1 := by rw [hd244]; simp
        rw [← hd244] at E244
        refine L_g 1 kr (L_nil (W_sg 3 kr (L_ln _ rfl rfl kr ((E244.ext U244).len (P := Tryz.prog) (T := 33) (el := 37) kr) ?_)))
        have gj := get_mid hd235 (show d244 = d235 ++ (cgs d235.length x.b ++ [(⟨9, (cq.length : Int), emp, emp⟩ : Ins)]) by rw [hd244, hd236, List.append_assoc])
        obtain ⟨b9, o9, h9, i9, e9, A9⟩ := (E244.ext U244).set (P := Tryz.prog) (T := 33) (el := 37) (IT := 2) (z := (d244.length : Int)) kr kr kr gj
        refine L_ix _ rfl rfl kr kr (i9) (L_g 1 kr ?_)
        have U0245 := U244
        obtain ⟨h245, hh245⟩ : ∃ q, q = h9 := ⟨_, rfl⟩
        rw [← hh245] at e9 A9
        have A245 := A9
        have e245 := e9
        refine L_st _ rfl rfl rfl kr kr (e245) ?_
        have t245 := A245.sm
        obtain ⟨v245, hv245⟩ : ∃ q, q = v244 := ⟨_, rfl⟩
        replace c226 := c226.sm t245 (fun e => nb244 _ e rfl)
        have T245 : Go.Arm.Sm (fun b => Go.Arm.vb vo = some b) h h245 := T244.trans t245 (fun x hx => E244.fr x hx)
        have N245 := T245.nx
        have U245 : Go.Arm.Sm Nix h245 h245 := .refl
        have E245 := (E244.ext U0245).trans A245
        obtain ⟨d245, hd245⟩ : ∃ q0 : List Ins, q0 = d244.set d.length { (z10 : Ins) with arg := (d244.length : Int) } := ⟨_, rfl⟩
        have ld245 : d245.length = d244.length := by rw [hd245, List.length_set]
        rw [← hd245] at E245
        refine L_nil (W_sg 1 kr (L_ld _ rfl rfl kr (c226.ld (o := 6) kr rfl) (L_ln _ rfl rfl kr ((show aLen Tryz.prog 22 (.slice p3 x.e.length c3) h245 = some (.int .i64 (x.e.length : Int)) by kernel_rfl)) (L_i ((x.e.length : Int)) (0) (.bool false) rfl rfl kr kr rfl (by first | (rw [q2]; rfl) | (have := List.length_pos_iff.2 q2; simp; omega)) (L_nil (W_cF kr (W_skip ?_)))))))
        skip
        exact ⟨_, _, e_while q1 q2 hd2 hd235 hd236 hd244 hd245, E245.ext U245, kr, kr, kr, kr, T245⟩
       ·
        refine W_rg 1 kr (L_ld _ rfl rfl kr (c226.ld (o := 0) kr rfl) (L_i (x.op) (13) (.bool true) rfl rfl kr kr rfl (by first | (simp; omega) | (simp [*]; done)) (L_g 6 kr (L_nil (W_cT kr (W_rg 3 kr (L_nwc (insc (⟨9, (cq.length : Int), emp, emp⟩ : Ins)) (.sl 1 1) rfl rfl kr fun h246 c246 t246 n246 => ?_)))))))
        replace c226 := c226.ext t246
        have T246 : Go.Arm.Sm (fun b => Go.Arm.vb vo = some b) h h246 := T236.ext t246
        have U246 : Go.Arm.Sm Nix h236 h246 := U236.ext t246
        have N246 := T246.nx
        have NU246 := U246.nx
        have U0247 := U246
        have lb247 := c226.lt
        obtain ⟨v247, h247, e247, A247⟩ := (E236.ext U246).app (P := Tryz.prog) (sT := 33) (xT := 33) (el := 37) (by_ := 48) (z := .agg ⟨[nv 0, nv 0, .string ⟨#[]⟩, .string ⟨#[]⟩]⟩) (i := (⟨9, (cq.length : Int), emp, emp⟩ : Ins)) kr kr kr kr kr rfl (c246.sdX rfl) (by omega)
        refine L_bi v247 h247 rfl rfl kr (vs := [v236, .slice (some ⟨h236.next, 0, none⟩) 1 1]) kr (bi_append e247) ?_
        have t247 := A247.sm
        replace c226 := c226.sm t247 (fun e => nb236 _ e rfl)
        have T247 : Go.Arm.Sm (fun b => Go.Arm.vb vo = some b) h h247 := T246.trans t247 (fun x hx => E236.fr x hx)
        have N247 := T247.nx
        have U247 : Go.Arm.Sm Nix h247 h247 := .refl
        have E247 := (E236.ext U0247).trans A247
        have nb247 : ∀ b, Go.Arm.vb v247 = some b → b ≠ h225.next := fun b hb => (A247.fr b hb).elim (fun e => nb236 b e) (fun e => by omega)
        obtain ⟨d247, hd247⟩ : ∃ q0 : List Ins, q0 = d236 ++ [(⟨9, (cq.length : Int), emp, emp⟩ : Ins)] := ⟨_, rfl⟩
        have ld247 : d247.length = d236.length + 1 := by rw [hd247]; simp
        rw [← hd247] at E247
        refine L_g 1 kr (L_nil (W_sg 3 kr (L_ln _ rfl rfl kr ((E247.ext U247).len (P := Tryz.prog) (T := 33) (el := 37) kr) ?_)))
        have gj := get_mid hd235 (show d247 = d235 ++ (cgs d235.length x.b ++ [(⟨9, (cq.length : Int), emp, emp⟩ : Ins)]) by rw [hd247, hd236, List.append_assoc])
        obtain ⟨b9, o9, h9, i9, e9, A9⟩ := (E247.ext U247).set (P := Tryz.prog) (T := 33) (el := 37) (IT := 2) (z := (d247.length : Int)) kr kr kr gj
        refine L_ix _ rfl rfl kr kr (i9) (L_g 1 kr ?_)
        have U0248 := U247
        obtain ⟨h248, hh248⟩ : ∃ q, q = h9 := ⟨_, rfl⟩
        rw [← hh248] at e9 A9
        have A248 := A9
        have e248 := e9
        refine L_st _ rfl rfl rfl kr kr (e248) ?_
        have t248 := A248.sm
        obtain ⟨v248, hv248⟩ : ∃ q, q = v247 := ⟨_, rfl⟩
        replace c226 := c226.sm t248 (fun e => nb247 _ e rfl)
        have T248 : Go.Arm.Sm (fun b => Go.Arm.vb vo = some b) h h248 := T247.trans t248 (fun x hx => E247.fr x hx)
        have N248 := T248.nx
        have U248 : Go.Arm.Sm Nix h248 h248 := .refl
        have E248 := (E247.ext U0248).trans A248
        obtain ⟨d248, hd248⟩ : ∃ q0 : List Ins, q0 = d247.set d.length { (z10 : Ins) with arg := (d247.length : Int) } := ⟨_, rfl⟩
        have ld248 : d248.length = d247.length := by rw [hd248, List.length_set]
        rw [← hd248] at E248
        refine L_nil (W_sg 1 kr (L_ld _ rfl rfl kr (c226.ld (o := 6) kr rfl) (L_ln _ rfl rfl kr ((show aLen Tryz.prog 22 (.slice p3 x.e.length c3) h248 = some (.int .i64 (x.e.length : Int)) by kernel_rfl)) (L_i ((x.e.length : Int)) (0) (.bool true) rfl rfl kr kr rfl (by first | (rw [q2]; rfl) | (have := List.length_pos_iff.2 q2; simp; omega)) (L_nil (W_cT kr (W_seq (W_region (L_g 2 kr ?_)))))))))
        refine L_ld _ rfl rfl kr (c226.ld (o := 6) kr rfl) ?_
        have U0249 := U248
        have lb249 := c226.lt
        refine L_c rfl rfl kr (ih x.e d248 (by omega) hwx.2.2.2 (by omega) ((He.sm T248 (fun b hb => (hF b hb).2) (fun _ => id))) ((fun b hb => ⟨by have := (hF b hb).1; omega, fun e => (E248.fr b e).elim (hF b hb).2 (fun q => by have := (hF b hb).1; omega)⟩)) (E248.ext U248).gr) ?_
        rintro v249 h249 A249
        dsimp only at A249
        have t249 := A249.sm
        have T249 : Go.Arm.Sm (fun b => Go.Arm.vb vo = some b) h h249 := T248.trans t249 (fun x hx => E248.fr x hx)
        have N249 := T249.nx
        have U249 : Go.Arm.Sm Nix h249 h249 := .refl
        have E249 := (E248.ext U0249).trans A249
        have nb249 : ∀ b, Go.Arm.vb v249 = some b → b ≠ h225.next := fun b hb => (A249.fr b hb).elim (fun e => nb247 b e) (fun e => by omega)
        obtain ⟨d249, hd249⟩ : ∃ q0 : List Ins, q0 = d248 ++ cgs d248.length x.e := ⟨_, rfl⟩
        have ld249 : d249.length ≤ d248.length + 2 * szl x.e := by rw [hd249]; rw [List.length_append]; have := cgs_len d248.length x.e; omega
        rw [← hd249] at E249
        refine L_g 1 kr (L_nil (W_rg 3 kr (L_ln _ rfl rfl kr ((E249.ext U249).len (P := Tryz.prog) (T := 33) (el := 37) kr) ?_)))
        have gj := get_jmp hd235 hd236 hd247 hd248 hd249
        obtain ⟨b9, o9, h9, i9, e9, A9⟩ := (E249.ext U249).set (P := Tryz.prog) (T := 33) (el := 37) (IT := 2) (z := (d249.length : Int)) kr kr kr gj
        refine L_ix _ rfl rfl kr kr (i9) (L_g 1 kr ?_)
        have U0250 := U249
        obtain ⟨h250, hh250⟩ : ∃ q, q = h9 := ⟨_, rfl⟩
        rw [← hh250] at e9 A9
        have A250 := A9
        have e250 := e9
        refine L_st _ rfl rfl rfl kr kr (e250) ?_
        have t250 := A250.sm
        obtain ⟨v250, hv250⟩ : ∃ q, q = v249 := ⟨_, rfl⟩
        have T250 : Go.Arm.Sm (fun b => Go.Arm.vb vo = some b) h h250 := T249.trans t250 (fun x hx => E249.fr x hx)
        have N250 := T250.nx
        have U250 : Go.Arm.Sm Nix h250 h250 := .refl
        have E250 := (E249.ext U0250).trans A250
        obtain ⟨d250, hd250⟩ : ∃ q0 : List Ins, q0 = d249.set d236.length { ((⟨9, (cq.length : Int), emp, emp⟩ : Ins) : Ins) with arg := (d249.length : Int) } := ⟨_, rfl⟩
        have ld250 : d250.length = d249.length := by rw [hd250, List.length_set]
        rw [← hd250] at E250
        refine L_nil ?_
        skip
        exact ⟨_, _, e_else q7 q2 hd2 hd235 hd236 hd247 hd248 hd249 hd250, E250.ext U250, kr, kr, kr, kr, T250⟩
      ·
       have q7 := of_decide_eq_false hb
       refine W_rg 1 kr (L_ld _ rfl rfl kr (Cl.allN (n := 7) c226 rfl kr) (L_c rfl rfl kr (inst_ok (x := x) hwx.1 (Ha.sm T228 (fun b hb => (hF b hb).2) (fun _ => id)) (Hb.sm T228 (fun b hb => (hF b hb).2) (fun _ => id)) (He.sm T228 (fun b hb => (hF b hb).2) (fun _ => id))) ?_))
       rintro v251 h251 ⟨e251, t251⟩
       try dsimp only at e251 t251
       subst e251
       replace c226 := c226.ext t251
       have T251 : Go.Arm.Sm (fun b => Go.Arm.vb vo = some b) h h251 := T228.ext t251
       have U251 : Go.Arm.Sm Nix h233 h251 := U228.ext t251
       have N251 := T251.nx
       have NU251 := U251.nx
       have M251 := t251.nx
       refine L_nwc (insc (ins1 x)) (.sl 1 1) rfl rfl kr fun h252 c252 t252 n252 => ?_
       replace c226 := c226.ext t252
       have T252 : Go.Arm.Sm (fun b => Go.Arm.vb vo = some b) h h252 := T251.ext t252
       have U252 : Go.Arm.Sm Nix h233 h252 := U251.ext t252
       have N252 := T252.nx
       have NU252 := U252.nx
       have U0253 := U252
       have lb253 := c226.lt
       obtain ⟨v253, h253, e253, A253⟩ := (E2.ext U252).app (P := Tryz.prog) (sT := 33) (xT := 33) (el := 37) (by_ := 48) (z := .agg ⟨[nv 0, nv 0, .string ⟨#[]⟩, .string ⟨#[]⟩]⟩) (i := (ins1 x)) kr kr kr kr kr rfl (c252.sdX rfl) (by omega)
       refine L_bi v253 h253 rfl rfl kr (vs := [v2, .slice (some ⟨h251.next, 0, none⟩) 1 1]) kr (bi_append e253) ?_
       have t253 := A253.sm
       have T253 : Go.Arm.Sm (fun b => Go.Arm.vb vo = some b) h h253 := T252.trans t253 (fun x hx => E2.fr x hx)
       have N253 := T253.nx
       have U253 : Go.Arm.Sm Nix h253 h253 := .refl
       have E253 := (E2.ext U0253).trans A253
       have nb253 : ∀ b, Go.Arm.vb v253 = some b → b ≠ h225.next := fun b hb => (A253.fr b hb).elim (fun e => nbx b e) (fun e => by omega)
       obtain ⟨d253, hd253⟩ : ∃ q0 : List Ins, q0 = d ++ [(ins1 x)] := ⟨_, rfl⟩
       have ld253 : d253.length = d.length + 1 := by rw [hd253]; simp
       rw [← hd253] at E253
       refine L_g 1 kr (L_nil ?_)
       skip
       exact ⟨_, _, e_one q7 hd2 hd253, E253.ext U253, kr, kr, kr, kr, T253⟩
   ·
    rintro fr254 h254 ⟨v3, d3, e3, E3, y254_0, y254_12, y254_13, y254_14, T254⟩
    have N254 := T254.nx
    refine W_set (k := 0) y254_0 (W_set (k := 12) y254_12 (W_set (k := 13) y254_13 (W_set (k := 14) y254_14 ?_)))
    have U254 : Go.Arm.Sm Nix h254 h254 := .refl
    refine W_region (L_i ((k : Int)) (1) (nv ((k + 1 : Nat) : Int)) rfl rfl kr kr rfl (incT hltx H2) (L_g 1 kr (L_nil ?_)))
    exact ⟨l.length - (k + 1), by omega, k + 1, _, _, by omega, emit_step hdrx hc e3, (by have := cg1_len cq.length x; have := congrArg List.length e3; rw [List.length_append] at this; omega), E3.ext U254, rfl, kr, kr, kr, kr, T254⟩
  ·
   have hge : k = l.length := by simp at hb; omega
   rw [hge, List.drop_length, cgs_nil, List.append_nil] at hc
   refine W_exit ?_
   refine rx ?_
   refine exit_here (W_sg 2 kr (L_nil (W_ret ?_)))
   refine rr ?_
   refine done_of (v := v1) (.inl rfl) kr ?_
   show Em h vo _ _ _
   rw [← hc]
   exact E1.ext U225
end
end Go.Proofs.YtlgakeilplnfmaaGreatDoor
namespace Go.Proofs.YtlgakeilplnfmaaGreatDoor
noncomputable section
open Go Go.X Go.Arm Go.Mt Go.Lj
theorem compile_ok {l : List Nd} {F : Nat → Prop} {h : AH} {v : Value} (hz : chk l = 0) (hfew : dpl 8 l = false → szl l ≤ 300) (H : NdS F h v l) (hF : ∀ b, F b → b < h.next) :
  Arm.Calls Tryz.prog 12 [v] h (fun r => ∃ vc, r.1 = .tuple ⟨[vc, nv 0]⟩ ∧ Gr r.2 4 vc (cgs 0 l ++ [iend]).length ((cgs 0 l ++ [iend]).flatMap insc) ∧ Go.Arm.Sm Nix h r.2) := by
 obtain ⟨hd8, hfm⟩ := chk_ok hz
 have hw := wf_fma l 0 hfm
 have hs3 := hfew hd8
 refine Calls_W 15 Tryz.f12 ?_
 have T0 : Sm Nix h h := .refl
 refine W_sg 2 kr (L_nil (W_seq (W_seq (W_region (L_g 1 kr ?_)))))
 have hck := check_ok hfew (H.ext T0) (fun b hb => by have := hF b hb; omega)
 rw [hz] at hck
 refine L_c rfl rfl kr (hck) ?_
 rintro v255 h255 ⟨e255, t255⟩
 try dsimp only at e255 t255
 subst e255
 have T255 := T0.ext t255
 have N255 := T255.nx
 have M255 := t255.nx
 refine L_g 1 kr (L_nil (W_sg 2 kr (L_nil (W_cF kr (W_skip (W_sg 1 kr (L_c rfl rfl kr (emit_ok (szl l + 1) l [] (vo := .slice none 0 0) (by omega) hw (by simp; omega) (H.ext T255) (fun b hb => ⟨by have := hF b hb; omega, fun e => by cases e⟩) Gr.nil) ?_)))))))
 rintro v256 h256 A256
 dsimp only at A256
 rw [List.nil_append] at A256
 replace A256 : Em h255 (.slice none 0 0) h256 v256 (cgs 0 l) := A256
 have t256 : Go.Arm.Sm Nix _ h256 := A256.sm.mono (fun b hb => by cases hb)
 have T256 := T255.ext t256
 have N256 := T256.nx
 have U256 : Go.Arm.Sm Nix h256 h256 := .refl
 refine L_g 1 kr (L_nwc (insc iend) (.sl 1 1) rfl rfl kr fun h257 c257 t257 n257 => ?_)
 have T257 := T256.ext t257
 have U257 : Go.Arm.Sm Nix h256 h257 := U256.ext t257
 have N257 := T257.nx
 have NU257 := U257.nx
 obtain ⟨v258, h258, e258, B258⟩ := (A256.ext U257).app (P := Tryz.prog) (sT := 33) (xT := 33) (el := 37) (by_ := 48) (z := .agg ⟨[nv 0, nv 0, .string ⟨#[]⟩, .string ⟨#[]⟩]⟩) (i := iend) kr kr kr kr kr rfl (c257.sdX rfl) (by have := cgs_len 0 l; omega)
 refine L_bi v258 h258 rfl rfl kr (vs := [v256, .slice (some ⟨h256.next, 0, none⟩) 1 1]) kr (bi_append e258) ?_
 have T258 : Sm Nix h h258 := T257.trans B258.sm (fun x hx => .inr (by have := (A256.fr x hx).resolve_left (fun e => by cases e); omega))
 have N258 := T258.nx
 refine L_g 2 kr (L_nil (W_ret ?_))
 refine rr ?_
 refine done_of (v := .tuple ⟨[v258, nv 0]⟩) (.inl rfl) kr ?_
 exact ⟨_, rfl, B258.gr, T258⟩
theorem change_ok {h : AH} {i : Ins} (hi : okI i) :
   Arm.Calls Tryz.prog 13 [.agg ⟨insc i⟩] h (fun r => r.1 = .tuple ⟨[nv (chg i).1, nv (chg i).2]⟩ ∧ Go.Arm.Sm Nix h r.2) := by
 obtain ⟨op, arg, nm, ot⟩ := i
 obtain ⟨q1, q2, q3⟩ := hi
 have q1 : 1 ≤ op := q1
 have q2 : op ≤ 21 := q2
 have q3 : op = 12 ∨ op = 14 → 0 ≤ arg ∧ arg ≤ 3 := q3
 have q4 : op = 1 ∨ op = 2 ∨ op = 3 ∨ op = 4 ∨ op = 5 ∨ op = 6 ∨ op = 7 ∨ op = 8 ∨ op = 9 ∨ op = 10 ∨ op = 11 ∨ op = 12 ∨ op = 13 ∨ op = 14 ∨ op = 15 ∨ op = 16 ∨ op = 17 ∨ op = 18 ∨ op = 19 ∨ op = 20 ∨ op = 21 := by omega
 rcases q4 with rfl | rfl | rfl | rfl | rfl | rfl | rfl | rfl | rfl | rfl | rfl | rfl | rfl | rfl | rfl | rfl | rfl | rfl | rfl | rfl | rfl
 · skip
   have e9 : chg ⟨1, arg, nm, ot⟩ = (1, 0) := rfl
   rw [e9]
   refine Calls_W 41 Tryz.f13 ?_
   have T0 : Sm Nix h h := .refl
   refine W_seq (W_region (L_nwc [nv 1, nv arg, .string nm, .string ot] .ptr rfl rfl kr fun h259 c259 t259 n259 => ?_))
   have T259 := T0.ext t259
   have N259 := T259.nx
   refine L_g 2 kr (L_nil (W_seq (W_sg 1 kr (L_ld _ rfl rfl kr (c259.ld (o := 0) kr rfl) (L_nil (W_block (W_seq (W_seq (W_region ?_)))))))))
   refine L_g 2 kr (L_nil (W_cT kr (W_skip (W_cT kr (W_sg 2 kr (L_nil (W_ret ?_)))))))
   refine rr ?_
   refine done_of (v := .tuple ⟨[nv (1), nv 0]⟩) (.inl rfl) kr ?_
   exact ⟨rfl, T259⟩
 · skip
   have e9 : chg ⟨2, arg, nm, ot⟩ = (1, 0) := rfl
   rw [e9]
   refine Calls_W 41 Tryz.f13 ?_
   have T0 : Sm Nix h h := .refl
   refine W_seq (W_region (L_nwc [nv 2, nv arg, .string nm, .string ot] .ptr rfl rfl kr fun h260 c260 t260 n260 => ?_))
   have T260 := T0.ext t260
   have N260 := T260.nx
   refine L_g 2 kr (L_nil (W_seq (W_sg 1 kr (L_ld _ rfl rfl kr (c260.ld (o := 0) kr rfl) (L_nil (W_block (W_seq (W_seq (W_region ?_)))))))))
   refine L_g 2 kr (L_nil (W_cF kr (W_sg 2 kr (L_nil (W_cT kr (W_skip (W_cT kr (W_seq (W_region ?_)))))))))
   refine L_g 2 kr (L_nil (W_ret ?_))
   refine rr ?_
   refine done_of (v := .tuple ⟨[nv (1), nv 0]⟩) (.inl rfl) kr ?_
   exact ⟨rfl, T260⟩
 · skip
   have e9 : chg ⟨3, arg, nm, ot⟩ = (-1, 1) := rfl
   rw [e9]
   refine Calls_W 41 Tryz.f13 ?_
   have T0 : Sm Nix h h := .refl
   refine W_seq (W_region (L_nwc [nv 3, nv arg, .string nm, .string ot] .ptr rfl rfl kr fun h261 c261 t261 n261 => ?_))
   have T261 := T0.ext t261
   have N261 := T261.nx
   refine L_g 2 kr (L_nil (W_seq (W_sg 1 kr (L_ld _ rfl rfl kr (c261.ld (o := 0) kr rfl) (L_nil (W_block (W_seq (W_seq (W_region ?_)))))))))
   refine L_g 2 kr (L_nil (W_cF kr (W_sg 2 kr (L_nil (W_cF kr (W_sg 2 kr (L_nil ?_)))))))
   refine W_cF kr (W_rg 2 kr (L_nil (W_cF kr (W_seq (W_sg 2 kr (L_nil (W_cF kr (W_region ?_))))))))
   refine L_g 2 kr (L_nil (W_cF kr (W_sg 2 kr (L_nil (W_cF kr (W_seq (W_seq (W_region (L_g 2 kr ?_)))))))))
   refine L_nil (W_cT kr (W_skip (W_cT kr (W_sg 2 kr (L_nil (W_ret ?_))))))
   refine rr ?_
   refine done_of (v := .tuple ⟨[nv (-1), nv 1]⟩) (.inl rfl) kr ?_
   exact ⟨rfl, T261⟩
 · skip
   have e9 : chg ⟨4, arg, nm, ot⟩ = (1, 0) := rfl
   rw [e9]
   refine Calls_W 41 Tryz.f13 ?_
   have T0 : Sm Nix h h := .refl
   refine W_seq (W_region (L_nwc [nv 4, nv arg, .string nm, .string ot] .ptr rfl rfl kr fun h262 c262 t262 n262 => ?_))
   have T262 := T0.ext t262
   have N262 := T262.nx
   refine L_g 2 kr (L_nil (W_seq (W_sg 1 kr (L_ld _ rfl rfl kr (c262.ld (o := 0) kr rfl) (L_nil (W_block (W_seq (W_seq (W_region ?_)))))))))
   refine L_g 2 kr (L_nil (W_cF kr (W_sg 2 kr (L_nil (W_cF kr (W_sg 2 kr (L_nil ?_)))))))
   refine W_cT kr (W_skip (W_cT kr (W_sg 2 kr (L_nil (W_ret ?_)))))
   refine rr ?_
   refine done_of (v := .tuple ⟨[nv (1), nv 0]⟩) (.inl rfl) kr ?_
   exact ⟨rfl, T262⟩
 · skip
   have e9 : chg ⟨5, arg, nm, ot⟩ = (1, 0) := rfl
   rw [e9]
   refine Calls_W 41 Tryz.f13 ?_
   have T0 : Sm Nix h h := .refl
   refine W_seq (W_region (L_nwc [nv 5, nv arg, .string nm, .string ot] .ptr rfl rfl kr fun h263 c263 t263 n263 => ?_))
   have T263 := T0.ext t263
   have N263 := T263.nx
   refine L_g 2 kr (L_nil (W_seq (W_sg 1 kr (L_ld _ rfl rfl kr (c263.ld (o := 0) kr rfl) (L_nil (W_block (W_seq (W_seq (W_region ?_)))))))))
   refine L_g 2 kr (L_nil (W_cF kr (W_sg 2 kr (L_nil (W_cF kr (W_sg 2 kr (L_nil ?_)))))))
   refine W_cF kr (W_rg 2 kr (L_nil (W_cT kr (W_sg 2 kr (L_nil (W_ret ?_))))))
   refine rr ?_
   refine done_of (v := .tuple ⟨[nv (1), nv 0]⟩) (.inl rfl) kr ?_
   exact ⟨rfl, T263⟩
 · skip
   have e9 : chg ⟨6, arg, nm, ot⟩ = (0, 1) := rfl
   rw [e9]
   refine Calls_W 41 Tryz.f13 ?_
   have T0 : Sm Nix h h := .refl
   refine W_seq (W_region (L_nwc [nv 6, nv arg, .string nm, .string ot] .ptr rfl rfl kr fun h264 c264 t264 n264 => ?_))
   have T264 := T0.ext t264
   have N264 := T264.nx
   refine L_g 2 kr (L_nil (W_seq (W_sg 1 kr (L_ld _ rfl rfl kr (c264.ld (o := 0) kr rfl) (L_nil (W_block (W_seq (W_seq (W_region ?_)))))))))
   refine L_g 2 kr (L_nil (W_cF kr (W_sg 2 kr (L_nil (W_cF kr (W_sg 2 kr (L_nil ?_)))))))
   refine W_cF kr (W_rg 2 kr (L_nil (W_cF kr (W_seq (W_sg 2 kr (L_nil (W_cT kr (W_skip ?_))))))))
   refine W_cT kr (W_sg 2 kr (L_nil (W_ret ?_)))
   refine rr ?_
   refine done_of (v := .tuple ⟨[nv (0), nv 1]⟩) (.inl rfl) kr ?_
   exact ⟨rfl, T264⟩
 · skip
   have e9 : chg ⟨7, arg, nm, ot⟩ = (0, 1) := rfl
   rw [e9]
   refine Calls_W 41 Tryz.f13 ?_
   have T0 : Sm Nix h h := .refl
   refine W_seq (W_region (L_nwc [nv 7, nv arg, .string nm, .string ot] .ptr rfl rfl kr fun h265 c265 t265 n265 => ?_))
   have T265 := T0.ext t265
   have N265 := T265.nx
   refine L_g 2 kr (L_nil (W_seq (W_sg 1 kr (L_ld _ rfl rfl kr (c265.ld (o := 0) kr rfl) (L_nil (W_block (W_seq (W_seq (W_region ?_)))))))))
   refine L_g 2 kr (L_nil (W_cF kr (W_sg 2 kr (L_nil (W_cF kr (W_sg 2 kr (L_nil ?_)))))))
   refine W_cF kr (W_rg 2 kr (L_nil (W_cF kr (W_seq (W_sg 2 kr (L_nil (W_cF kr (W_region ?_))))))))
   refine L_g 2 kr (L_nil (W_cT kr (W_sg 2 kr (L_nil (W_ret ?_)))))
   refine rr ?_
   refine done_of (v := .tuple ⟨[nv (0), nv 1]⟩) (.inl rfl) kr ?_
   exact ⟨rfl, T265⟩
 · skip
   have e9 : chg ⟨8, arg, nm, ot⟩ = (-1, 2) := rfl
   rw [e9]
   refine Calls_W 41 Tryz.f13 ?_
   have T0 : Sm Nix h h := .refl
   refine W_seq (W_region (L_nwc [nv 8, nv arg, .string nm, .string ot] .ptr rfl rfl kr fun h266 c266 t266 n266 => ?_))
   have T266 := T0.ext t266
   have N266 := T266.nx
   refine L_g 2 kr (L_nil (W_seq (W_sg 1 kr (L_ld _ rfl rfl kr (c266.ld (o := 0) kr rfl) (L_nil (W_block (W_seq (W_seq (W_region ?_)))))))))
   refine L_g 2 kr (L_nil (W_cF kr (W_sg 2 kr (L_nil (W_cF kr (W_sg 2 kr (L_nil ?_)))))))
   refine W_cF kr (W_rg 2 kr (L_nil (W_cF kr (W_seq (W_sg 2 kr (L_nil (W_cF kr (W_region ?_))))))))
   refine L_g 2 kr (L_nil (W_cF kr (W_sg 2 kr (L_nil (W_cT kr (W_sg 2 kr (L_nil ?_)))))))
   refine W_ret ?_
   refine rr ?_
   refine done_of (v := .tuple ⟨[nv (-1), nv 2]⟩) (.inl rfl) kr ?_
   exact ⟨rfl, T266⟩
 · skip
   have e9 : chg ⟨9, arg, nm, ot⟩ = (0, 0) := rfl
   rw [e9]
   refine Calls_W 41 Tryz.f13 ?_
   have T0 : Sm Nix h h := .refl
   refine W_seq (W_region (L_nwc [nv 9, nv arg, .string nm, .string ot] .ptr rfl rfl kr fun h267 c267 t267 n267 => ?_))
   have T267 := T0.ext t267
   have N267 := T267.nx
   refine L_g 2 kr (L_nil (W_seq (W_sg 1 kr (L_ld _ rfl rfl kr (c267.ld (o := 0) kr rfl) (L_nil (W_block (W_seq (W_seq (W_region ?_)))))))))
   refine L_g 2 kr (L_nil (W_cF kr (W_sg 2 kr (L_nil (W_cF kr (W_sg 2 kr (L_nil ?_)))))))
   refine W_cF kr (W_rg 2 kr (L_nil (W_cF kr (W_seq (W_sg 2 kr (L_nil (W_cF kr (W_region ?_))))))))
   refine L_g 2 kr (L_nil (W_cF kr (W_sg 2 kr (L_nil (W_cF kr (W_seq (W_seq (W_region (L_g 2 kr ?_)))))))))
   refine L_nil (W_cF kr (W_sg 2 kr (L_nil (W_cF kr (W_sg 2 kr (L_nil (W_cF kr ?_)))))))
   refine W_sg 2 kr (L_nil (W_cF kr (W_rg 2 kr (L_nil (W_cF kr (W_seq (W_seq (W_region ?_))))))))
   refine L_g 2 kr (L_nil (W_cF kr (W_rg 2 kr (L_nil (W_cF kr (W_seq (W_sg 2 kr (L_nil ?_))))))))
   refine W_cF kr (W_rg 2 kr (L_nil (W_cF kr (W_skip (W_sg 2 kr (L_nil (W_ret ?_)))))))
   refine rr ?_
   refine done_of (v := .tuple ⟨[nv (0), nv 0]⟩) (.inl rfl) kr ?_
   exact ⟨rfl, T267⟩
 · skip
   have e9 : chg ⟨10, arg, nm, ot⟩ = (-1, 1) := rfl
   rw [e9]
   refine Calls_W 41 Tryz.f13 ?_
   have T0 : Sm Nix h h := .refl
   refine W_seq (W_region (L_nwc [nv 10, nv arg, .string nm, .string ot] .ptr rfl rfl kr fun h268 c268 t268 n268 => ?_))
   have T268 := T0.ext t268
   have N268 := T268.nx
   refine L_g 2 kr (L_nil (W_seq (W_sg 1 kr (L_ld _ rfl rfl kr (c268.ld (o := 0) kr rfl) (L_nil (W_block (W_seq (W_seq (W_region ?_)))))))))
   refine L_g 2 kr (L_nil (W_cF kr (W_sg 2 kr (L_nil (W_cF kr (W_sg 2 kr (L_nil ?_)))))))
   refine W_cF kr (W_rg 2 kr (L_nil (W_cF kr (W_seq (W_sg 2 kr (L_nil (W_cF kr (W_region ?_))))))))
   refine L_g 2 kr (L_nil (W_cF kr (W_sg 2 kr (L_nil (W_cF kr (W_seq (W_seq (W_region (L_g 2 kr ?_)))))))))
   refine L_nil (W_cF kr (W_sg 2 kr (L_nil (W_cT kr (W_skip (W_cT kr (W_seq (W_region (L_g 2 kr ?_)))))))))
   refine L_nil (W_ret ?_)
   refine rr ?_
   refine done_of (v := .tuple ⟨[nv (-1), nv 1]⟩) (.inl rfl) kr ?_
   exact ⟨rfl, T268⟩
 · skip
   have e9 : chg ⟨11, arg, nm, ot⟩ = (-3, 3) := rfl
   rw [e9]
   refine Calls_W 41 Tryz.f13 ?_
   have T0 : Sm Nix h h := .refl
   refine W_seq (W_region (L_nwc [nv 11, nv arg, .string nm, .string ot] .ptr rfl rfl kr fun h269 c269 t269 n269 => ?_))
   have T269 := T0.ext t269
   have N269 := T269.nx
   refine L_g 2 kr (L_nil (W_seq (W_sg 1 kr (L_ld _ rfl rfl kr (c269.ld (o := 0) kr rfl) (L_nil (W_block (W_seq (W_seq (W_region ?_)))))))))
   refine L_g 2 kr (L_nil (W_cF kr (W_sg 2 kr (L_nil (W_cF kr (W_sg 2 kr (L_nil ?_)))))))
   refine W_cF kr (W_rg 2 kr (L_nil (W_cF kr (W_seq (W_sg 2 kr (L_nil (W_cF kr (W_region ?_))))))))
   refine L_g 2 kr (L_nil (W_cF kr (W_sg 2 kr (L_nil (W_cF kr (W_seq (W_seq (W_region (L_g 2 kr ?_)))))))))
   refine L_nil (W_cF kr (W_sg 2 kr (L_nil (W_cF kr (W_sg 2 kr (L_nil (W_cF kr ?_)))))))
   refine W_sg 2 kr (L_nil (W_cF kr (W_rg 2 kr (L_nil (W_cF kr (W_seq (W_seq (W_region ?_))))))))
   refine L_g 2 kr (L_nil (W_cT kr (W_skip (W_cT kr (W_sg 2 kr (L_nil (W_ret ?_)))))))
   refine rr ?_
   refine done_of (v := .tuple ⟨[nv (-3), nv 3]⟩) (.inl rfl) kr ?_
   exact ⟨rfl, T269⟩
 · have q5 : arg = 0 ∨ arg = 1 ∨ arg = 2 ∨ arg = 3 := by have := q3 (by decide); omega
   rcases q5 with rfl | rfl | rfl | rfl
   · skip
     have e9 : chg ⟨12, 0, nm, ot⟩ = (-2, 2) := rfl
     rw [e9]
     refine Calls_W 41 Tryz.f13 ?_
     have T0 : Sm Nix h h := .refl
     refine W_seq (W_region (L_nwc [nv 12, nv 0, .string nm, .string ot] .ptr rfl rfl kr fun h270 c270 t270 n270 => ?_))
     have T270 := T0.ext t270
     have N270 := T270.nx
     refine L_g 2 kr (L_nil (W_seq (W_sg 1 kr (L_ld _ rfl rfl kr (c270.ld (o := 0) kr rfl) (L_nil (W_block (W_seq (W_seq (W_region ?_)))))))))
     refine L_g 2 kr (L_nil (W_cF kr (W_sg 2 kr (L_nil (W_cF kr (W_sg 2 kr (L_nil ?_)))))))
     refine W_cF kr (W_rg 2 kr (L_nil (W_cF kr (W_seq (W_sg 2 kr (L_nil (W_cF kr (W_region ?_))))))))
     refine L_g 2 kr (L_nil (W_cF kr (W_sg 2 kr (L_nil (W_cF kr (W_seq (W_seq (W_region (L_g 2 kr ?_)))))))))
     refine L_nil (W_cF kr (W_sg 2 kr (L_nil (W_cF kr (W_sg 2 kr (L_nil (W_cF kr ?_)))))))
     refine W_sg 2 kr (L_nil (W_cF kr (W_rg 2 kr (L_nil (W_cF kr (W_seq (W_seq (W_region ?_))))))))
     refine L_g 2 kr (L_nil (W_cF kr (W_rg 2 kr (L_nil (W_cF kr (W_seq (W_sg 2 kr (L_nil ?_))))))))
     refine W_cT kr (W_skip (W_cT kr (W_sg 1 kr (L_ld _ rfl rfl kr (c270.ld (o := 1) kr rfl) (L_g 3 kr (L_ld _ rfl rfl kr (c270.ld (o := 1) kr rfl) (L_g 4 kr (L_nil (W_seq ?_)))))))))
     refine W_rg 5 kr (L_nil (W_ret ?_))
     refine rr ?_
     refine done_of (v := .tuple ⟨[nv (-2), nv 2]⟩) (.inl rfl) kr ?_
     exact ⟨rfl, T270⟩
   · skip
     have e9 : chg ⟨12, 1, nm, ot⟩ = (-1, 1) := rfl
     rw [e9]
     refine Calls_W 41 Tryz.f13 ?_
     have T0 : Sm Nix h h := .refl
     refine W_seq (W_region (L_nwc [nv 12, nv 1, .string nm, .string ot] .ptr rfl rfl kr fun h271 c271 t271 n271 => ?_))
     have T271 := T0.ext t271
     have N271 := T271.nx
     refine L_g 2 kr (L_nil (W_seq (W_sg 1 kr (L_ld _ rfl rfl kr (c271.ld (o := 0) kr rfl) (L_nil (W_block (W_seq (W_seq (W_region ?_)))))))))
     refine L_g 2 kr (L_nil (W_cF kr (W_sg 2 kr (L_nil (W_cF kr (W_sg 2 kr (L_nil ?_)))))))
     refine W_cF kr (W_rg 2 kr (L_nil (W_cF kr (W_seq (W_sg 2 kr (L_nil (W_cF kr (W_region ?_))))))))
     refine L_g 2 kr (L_nil (W_cF kr (W_sg 2 kr (L_nil (W_cF kr (W_seq (W_seq (W_region (L_g 2 kr ?_)))))))))
     refine L_nil (W_cF kr (W_sg 2 kr (L_nil (W_cF kr (W_sg 2 kr (L_nil (W_cF kr ?_)))))))
     refine W_sg 2 kr (L_nil (W_cF kr (W_rg 2 kr (L_nil (W_cF kr (W_seq (W_seq (W_region ?_))))))))
     refine L_g 2 kr (L_nil (W_cF kr (W_rg 2 kr (L_nil (W_cF kr (W_seq (W_sg 2 kr (L_nil ?_))))))))
     refine W_cT kr (W_skip (W_cT kr (W_sg 1 kr (L_ld _ rfl rfl kr (c271.ld (o := 1) kr rfl) (L_g 3 kr (L_ld _ rfl rfl kr (c271.ld (o := 1) kr rfl) (L_g 4 kr (L_nil (W_seq ?_)))))))))
     refine W_rg 5 kr (L_nil (W_ret ?_))
     refine rr ?_
     refine done_of (v := .tuple ⟨[nv (-1), nv 1]⟩) (.inl rfl) kr ?_
     exact ⟨rfl, T271⟩
   · skip
     have e9 : chg ⟨12, 2, nm, ot⟩ = (-1, 1) := rfl
     rw [e9]
     refine Calls_W 41 Tryz.f13 ?_
     have T0 : Sm Nix h h := .refl
     refine W_seq (W_region (L_nwc [nv 12, nv 2, .string nm, .string ot] .ptr rfl rfl kr fun h272 c272 t272 n272 => ?_))
     have T272 := T0.ext t272
     have N272 := T272.nx
     refine L_g 2 kr (L_nil (W_seq (W_sg 1 kr (L_ld _ rfl rfl kr (c272.ld (o := 0) kr rfl) (L_nil (W_block (W_seq (W_seq (W_region ?_)))))))))
     refine L_g 2 kr (L_nil (W_cF kr (W_sg 2 kr (L_nil (W_cF kr (W_sg 2 kr (L_nil ?_)))))))
     refine W_cF kr (W_rg 2 kr (L_nil (W_cF kr (W_seq (W_sg 2 kr (L_nil (W_cF kr (W_region ?_))))))))
     refine L_g 2 kr (L_nil (W_cF kr (W_sg 2 kr (L_nil (W_cF kr (W_seq (W_seq (W_region (L_g 2 kr ?_)))))))))
     refine L_nil (W_cF kr (W_sg 2 kr (L_nil (W_cF kr (W_sg 2 kr (L_nil (W_cF kr ?_)))))))
     refine W_sg 2 kr (L_nil (W_cF kr (W_rg 2 kr (L_nil (W_cF kr (W_seq (W_seq (W_region ?_))))))))
     refine L_g 2 kr (L_nil (W_cF kr (W_rg 2 kr (L_nil (W_cF kr (W_seq (W_sg 2 kr (L_nil ?_))))))))
     refine W_cT kr (W_skip (W_cT kr (W_sg 1 kr (L_ld _ rfl rfl kr (c272.ld (o := 1) kr rfl) (L_g 3 kr (L_ld _ rfl rfl kr (c272.ld (o := 1) kr rfl) (L_g 4 kr (L_nil (W_seq ?_)))))))))
     refine W_rg 5 kr (L_nil (W_ret ?_))
     refine rr ?_
     refine done_of (v := .tuple ⟨[nv (-1), nv 1]⟩) (.inl rfl) kr ?_
     exact ⟨rfl, T272⟩
   · skip
     have e9 : chg ⟨12, 3, nm, ot⟩ = (0, 0) := rfl
     rw [e9]
     refine Calls_W 41 Tryz.f13 ?_
     have T0 : Sm Nix h h := .refl
     refine W_seq (W_region (L_nwc [nv 12, nv 3, .string nm, .string ot] .ptr rfl rfl kr fun h273 c273 t273 n273 => ?_))
     have T273 := T0.ext t273
     have N273 := T273.nx
     refine L_g 2 kr (L_nil (W_seq (W_sg 1 kr (L_ld _ rfl rfl kr (c273.ld (o := 0) kr rfl) (L_nil (W_block (W_seq (W_seq (W_region ?_)))))))))
     refine L_g 2 kr (L_nil (W_cF kr (W_sg 2 kr (L_nil (W_cF kr (W_sg 2 kr (L_nil ?_)))))))
     refine W_cF kr (W_rg 2 kr (L_nil (W_cF kr (W_seq (W_sg 2 kr (L_nil (W_cF kr (W_region ?_))))))))
     refine L_g 2 kr (L_nil (W_cF kr (W_sg 2 kr (L_nil (W_cF kr (W_seq (W_seq (W_region (L_g 2 kr ?_)))))))))
     refine L_nil (W_cF kr (W_sg 2 kr (L_nil (W_cF kr (W_sg 2 kr (L_nil (W_cF kr ?_)))))))
     refine W_sg 2 kr (L_nil (W_cF kr (W_rg 2 kr (L_nil (W_cF kr (W_seq (W_seq (W_region ?_))))))))
     refine L_g 2 kr (L_nil (W_cF kr (W_rg 2 kr (L_nil (W_cF kr (W_seq (W_sg 2 kr (L_nil ?_))))))))
     refine W_cT kr (W_skip (W_cT kr (W_sg 1 kr (L_ld _ rfl rfl kr (c273.ld (o := 1) kr rfl) (L_g 3 kr (L_ld _ rfl rfl kr (c273.ld (o := 1) kr rfl) (L_g 4 kr (L_nil (W_seq ?_)))))))))
     refine W_rg 5 kr (L_nil (W_ret ?_))
     refine rr ?_
     refine done_of (v := .tuple ⟨[nv (0), nv 0]⟩) (.inl rfl) kr ?_
     exact ⟨rfl, T273⟩
 · skip
   have e9 : chg ⟨13, arg, nm, ot⟩ = (-3, 3) := rfl
   rw [e9]
   refine Calls_W 41 Tryz.f13 ?_
   have T0 : Sm Nix h h := .refl
   refine W_seq (W_region (L_nwc [nv 13, nv arg, .string nm, .string ot] .ptr rfl rfl kr fun h274 c274 t274 n274 => ?_))
   have T274 := T0.ext t274
   have N274 := T274.nx
   refine L_g 2 kr (L_nil (W_seq (W_sg 1 kr (L_ld _ rfl rfl kr (c274.ld (o := 0) kr rfl) (L_nil (W_block (W_seq (W_seq (W_region ?_)))))))))
   refine L_g 2 kr (L_nil (W_cF kr (W_sg 2 kr (L_nil (W_cF kr (W_sg 2 kr (L_nil ?_)))))))
   refine W_cF kr (W_rg 2 kr (L_nil (W_cF kr (W_seq (W_sg 2 kr (L_nil (W_cF kr (W_region ?_))))))))
   refine L_g 2 kr (L_nil (W_cF kr (W_sg 2 kr (L_nil (W_cF kr (W_seq (W_seq (W_region (L_g 2 kr ?_)))))))))
   refine L_nil (W_cF kr (W_sg 2 kr (L_nil (W_cF kr (W_sg 2 kr (L_nil (W_cF kr ?_)))))))
   refine W_sg 2 kr (L_nil (W_cF kr (W_rg 2 kr (L_nil (W_cF kr (W_seq (W_seq (W_region ?_))))))))
   refine L_g 2 kr (L_nil (W_cF kr (W_rg 2 kr (L_nil (W_cT kr (W_sg 2 kr (L_nil (W_ret ?_))))))))
   refine rr ?_
   refine done_of (v := .tuple ⟨[nv (-3), nv 3]⟩) (.inl rfl) kr ?_
   exact ⟨rfl, T274⟩
 · have q5 : arg = 0 ∨ arg = 1 ∨ arg = 2 ∨ arg = 3 := by have := q3 (by decide); omega
   rcases q5 with rfl | rfl | rfl | rfl
   · skip
     have e9 : chg ⟨14, 0, nm, ot⟩ = (-2, 2) := rfl
     rw [e9]
     refine Calls_W 41 Tryz.f13 ?_
     have T0 : Sm Nix h h := .refl
     refine W_seq (W_region (L_nwc [nv 14, nv 0, .string nm, .string ot] .ptr rfl rfl kr fun h275 c275 t275 n275 => ?_))
     have T275 := T0.ext t275
     have N275 := T275.nx
     refine L_g 2 kr (L_nil (W_seq (W_sg 1 kr (L_ld _ rfl rfl kr (c275.ld (o := 0) kr rfl) (L_nil (W_block (W_seq (W_seq (W_region ?_)))))))))
     refine L_g 2 kr (L_nil (W_cF kr (W_sg 2 kr (L_nil (W_cF kr (W_sg 2 kr (L_nil ?_)))))))
     refine W_cF kr (W_rg 2 kr (L_nil (W_cF kr (W_seq (W_sg 2 kr (L_nil (W_cF kr (W_region ?_))))))))
     refine L_g 2 kr (L_nil (W_cF kr (W_sg 2 kr (L_nil (W_cF kr (W_seq (W_seq (W_region (L_g 2 kr ?_)))))))))
     refine L_nil (W_cF kr (W_sg 2 kr (L_nil (W_cF kr (W_sg 2 kr (L_nil (W_cF kr ?_)))))))
     refine W_sg 2 kr (L_nil (W_cF kr (W_rg 2 kr (L_nil (W_cF kr (W_seq (W_seq (W_region ?_))))))))
     refine L_g 2 kr (L_nil (W_cF kr (W_rg 2 kr (L_nil (W_cF kr (W_seq (W_sg 2 kr (L_nil ?_))))))))
     refine W_cF kr (W_rg 2 kr (L_nil (W_cT kr (W_sg 1 kr (L_ld _ rfl rfl kr (c275.ld (o := 1) kr rfl) (L_g 3 kr (L_ld _ rfl rfl kr (c275.ld (o := 1) kr rfl) (L_g 4 kr ?_))))))))
     refine L_nil (W_sg 5 kr (L_nil (W_ret ?_)))
     refine rr ?_
     refine done_of (v := .tuple ⟨[nv (-2), nv 2]⟩) (.inl rfl) kr ?_
     exact ⟨rfl, T275⟩
   · skip
     have e9 : chg ⟨14, 1, nm, ot⟩ = (-1, 1) := rfl
     rw [e9]
     refine Calls_W 41 Tryz.f13 ?_
     have T0 : Sm Nix h h := .refl
     refine W_seq (W_region (L_nwc [nv 14, nv 1, .string nm, .string ot] .ptr rfl rfl kr fun h276 c276 t276 n276 => ?_))
     have T276 := T0.ext t276
     have N276 := T276.nx
     refine L_g 2 kr (L_nil (W_seq (W_sg 1 kr (L_ld _ rfl rfl kr (c276.ld (o := 0) kr rfl) (L_nil (W_block (W_seq (W_seq (W_region ?_)))))))))
     refine L_g 2 kr (L_nil (W_cF kr (W_sg 2 kr (L_nil (W_cF kr (W_sg 2 kr (L_nil ?_)))))))
     refine W_cF kr (W_rg 2 kr (L_nil (W_cF kr (W_seq (W_sg 2 kr (L_nil (W_cF kr (W_region ?_))))))))
     refine L_g 2 kr (L_nil (W_cF kr (W_sg 2 kr (L_nil (W_cF kr (W_seq (W_seq (W_region (L_g 2 kr ?_)))))))))
     refine L_nil (W_cF kr (W_sg 2 kr (L_nil (W_cF kr (W_sg 2 kr (L_nil (W_cF kr ?_)))))))
     refine W_sg 2 kr (L_nil (W_cF kr (W_rg 2 kr (L_nil (W_cF kr (W_seq (W_seq (W_region ?_))))))))
     refine L_g 2 kr (L_nil (W_cF kr (W_rg 2 kr (L_nil (W_cF kr (W_seq (W_sg 2 kr (L_nil ?_))))))))
     refine W_cF kr (W_rg 2 kr (L_nil (W_cT kr (W_sg 1 kr (L_ld _ rfl rfl kr (c276.ld (o := 1) kr rfl) (L_g 3 kr (L_ld _ rfl rfl kr (c276.ld (o := 1) kr rfl) (L_g 4 kr ?_))))))))
     refine L_nil (W_sg 5 kr (L_nil (W_ret ?_)))
     refine rr ?_
     refine done_of (v := .tuple ⟨[nv (-1), nv 1]⟩) (.inl rfl) kr ?_
     exact ⟨rfl, T276⟩
   · skip
     have e9 : chg ⟨14, 2, nm, ot⟩ = (-1, 1) := rfl
     rw [e9]
     refine Calls_W 41 Tryz.f13 ?_
     have T0 : Sm Nix h h := .refl
     refine W_seq (W_region (L_nwc [nv 14, nv 2, .string nm, .string ot] .ptr rfl rfl kr fun h277 c277 t277 n277 => ?_))
     have T277 := T0.ext t277
     have N277 := T277.nx
     refine L_g 2 kr (L_nil (W_seq (W_sg 1 kr (L_ld _ rfl rfl kr (c277.ld (o := 0) kr rfl) (L_nil (W_block (W_seq (W_seq (W_region ?_)))))))))
     refine L_g 2 kr (L_nil (W_cF kr (W_sg 2 kr (L_nil (W_cF kr (W_sg 2 kr (L_nil ?_)))))))
     refine W_cF kr (W_rg 2 kr (L_nil (W_cF kr (W_seq (W_sg 2 kr (L_nil (W_cF kr (W_region ?_))))))))
     refine L_g 2 kr (L_nil (W_cF kr (W_sg 2 kr (L_nil (W_cF kr (W_seq (W_seq (W_region (L_g 2 kr ?_)))))))))
     refine L_nil (W_cF kr (W_sg 2 kr (L_nil (W_cF kr (W_sg 2 kr (L_nil (W_cF kr ?_)))))))
     refine W_sg 2 kr (L_nil (W_cF kr (W_rg 2 kr (L_nil (W_cF kr (W_seq (W_seq (W_region ?_))))))))
     refine L_g 2 kr (L_nil (W_cF kr (W_rg 2 kr (L_nil (W_cF kr (W_seq (W_sg 2 kr (L_nil ?_))))))))
     refine W_cF kr (W_rg 2 kr (L_nil (W_cT kr (W_sg 1 kr (L_ld _ rfl rfl kr (c277.ld (o := 1) kr rfl) (L_g 3 kr (L_ld _ rfl rfl kr (c277.ld (o := 1) kr rfl) (L_g 4 kr ?_))))))))
     refine L_nil (W_sg 5 kr (L_nil (W_ret ?_)))
     refine rr ?_
     refine done_of (v := .tuple ⟨[nv (-1), nv 1]⟩) (.inl rfl) kr ?_
     exact ⟨rfl, T277⟩
   · skip
     have e9 : chg ⟨14, 3, nm, ot⟩ = (0, 0) := rfl
     rw [e9]
     refine Calls_W 41 Tryz.f13 ?_
     have T0 : Sm Nix h h := .refl
     refine W_seq (W_region (L_nwc [nv 14, nv 3, .string nm, .string ot] .ptr rfl rfl kr fun h278 c278 t278 n278 => ?_))
     have T278 := T0.ext t278
     have N278 := T278.nx
     refine L_g 2 kr (L_nil (W_seq (W_sg 1 kr (L_ld _ rfl rfl kr (c278.ld (o := 0) kr rfl) (L_nil (W_block (W_seq (W_seq (W_region ?_)))))))))
     refine L_g 2 kr (L_nil (W_cF kr (W_sg 2 kr (L_nil (W_cF kr (W_sg 2 kr (L_nil ?_)))))))
     refine W_cF kr (W_rg 2 kr (L_nil (W_cF kr (W_seq (W_sg 2 kr (L_nil (W_cF kr (W_region ?_))))))))
     refine L_g 2 kr (L_nil (W_cF kr (W_sg 2 kr (L_nil (W_cF kr (W_seq (W_seq (W_region (L_g 2 kr ?_)))))))))
     refine L_nil (W_cF kr (W_sg 2 kr (L_nil (W_cF kr (W_sg 2 kr (L_nil (W_cF kr ?_)))))))
     refine W_sg 2 kr (L_nil (W_cF kr (W_rg 2 kr (L_nil (W_cF kr (W_seq (W_seq (W_region ?_))))))))
     refine L_g 2 kr (L_nil (W_cF kr (W_rg 2 kr (L_nil (W_cF kr (W_seq (W_sg 2 kr (L_nil ?_))))))))
     refine W_cF kr (W_rg 2 kr (L_nil (W_cT kr (W_sg 1 kr (L_ld _ rfl rfl kr (c278.ld (o := 1) kr rfl) (L_g 3 kr (L_ld _ rfl rfl kr (c278.ld (o := 1) kr rfl) (L_g 4 kr ?_))))))))
     refine L_nil (W_sg 5 kr (L_nil (W_ret ?_)))
     refine rr ?_
     refine done_of (v := .tuple ⟨[nv (0), nv 0]⟩) (.inl rfl) kr ?_
     exact ⟨rfl, T278⟩
 · skip
   have e9 : chg ⟨15, arg, nm, ot⟩ = (0, 0) := rfl
   rw [e9]
   refine Calls_W 41 Tryz.f13 ?_
   have T0 : Sm Nix h h := .refl
   refine W_seq (W_region (L_nwc [nv 15, nv arg, .string nm, .string ot] .ptr rfl rfl kr fun h279 c279 t279 n279 => ?_))
   have T279 := T0.ext t279
   have N279 := T279.nx
   refine L_g 2 kr (L_nil (W_seq (W_sg 1 kr (L_ld _ rfl rfl kr (c279.ld (o := 0) kr rfl) (L_nil (W_block (W_seq (W_seq (W_region ?_)))))))))
   refine L_g 2 kr (L_nil (W_cF kr (W_sg 2 kr (L_nil (W_cF kr (W_sg 2 kr (L_nil ?_)))))))
   refine W_cF kr (W_rg 2 kr (L_nil (W_cF kr (W_seq (W_sg 2 kr (L_nil (W_cF kr (W_region ?_))))))))
   refine L_g 2 kr (L_nil (W_cF kr (W_sg 2 kr (L_nil (W_cF kr (W_seq (W_seq (W_region (L_g 2 kr ?_)))))))))
   refine L_nil (W_cF kr (W_sg 2 kr (L_nil (W_cF kr (W_sg 2 kr (L_nil (W_cF kr ?_)))))))
   refine W_sg 2 kr (L_nil (W_cF kr (W_rg 2 kr (L_nil (W_cF kr (W_seq (W_seq (W_region ?_))))))))
   refine L_g 2 kr (L_nil (W_cF kr (W_rg 2 kr (L_nil (W_cF kr (W_seq (W_sg 2 kr (L_nil ?_))))))))
   refine W_cF kr (W_rg 2 kr (L_nil (W_cF kr (W_skip (W_sg 2 kr (L_nil (W_ret ?_)))))))
   refine rr ?_
   refine done_of (v := .tuple ⟨[nv (0), nv 0]⟩) (.inl rfl) kr ?_
   exact ⟨rfl, T279⟩
 · skip
   have e9 : chg ⟨16, arg, nm, ot⟩ = (0, 0) := rfl
   rw [e9]
   refine Calls_W 41 Tryz.f13 ?_
   have T0 : Sm Nix h h := .refl
   refine W_seq (W_region (L_nwc [nv 16, nv arg, .string nm, .string ot] .ptr rfl rfl kr fun h280 c280 t280 n280 => ?_))
   have T280 := T0.ext t280
   have N280 := T280.nx
   refine L_g 2 kr (L_nil (W_seq (W_sg 1 kr (L_ld _ rfl rfl kr (c280.ld (o := 0) kr rfl) (L_nil (W_block (W_seq (W_seq (W_region ?_)))))))))
   refine L_g 2 kr (L_nil (W_cF kr (W_sg 2 kr (L_nil (W_cF kr (W_sg 2 kr (L_nil ?_)))))))
   refine W_cF kr (W_rg 2 kr (L_nil (W_cF kr (W_seq (W_sg 2 kr (L_nil (W_cF kr (W_region ?_))))))))
   refine L_g 2 kr (L_nil (W_cF kr (W_sg 2 kr (L_nil (W_cF kr (W_seq (W_seq (W_region (L_g 2 kr ?_)))))))))
   refine L_nil (W_cF kr (W_sg 2 kr (L_nil (W_cF kr (W_sg 2 kr (L_nil (W_cF kr ?_)))))))
   refine W_sg 2 kr (L_nil (W_cF kr (W_rg 2 kr (L_nil (W_cF kr (W_seq (W_seq (W_region ?_))))))))
   refine L_g 2 kr (L_nil (W_cF kr (W_rg 2 kr (L_nil (W_cF kr (W_seq (W_sg 2 kr (L_nil ?_))))))))
   refine W_cF kr (W_rg 2 kr (L_nil (W_cF kr (W_skip (W_sg 2 kr (L_nil (W_ret ?_)))))))
   refine rr ?_
   refine done_of (v := .tuple ⟨[nv (0), nv 0]⟩) (.inl rfl) kr ?_
   exact ⟨rfl, T280⟩
 · skip
   have e9 : chg ⟨17, arg, nm, ot⟩ = (-1, 1) := rfl
   rw [e9]
   refine Calls_W 41 Tryz.f13 ?_
   have T0 : Sm Nix h h := .refl
   refine W_seq (W_region (L_nwc [nv 17, nv arg, .string nm, .string ot] .ptr rfl rfl kr fun h281 c281 t281 n281 => ?_))
   have T281 := T0.ext t281
   have N281 := T281.nx
   refine L_g 2 kr (L_nil (W_seq (W_sg 1 kr (L_ld _ rfl rfl kr (c281.ld (o := 0) kr rfl) (L_nil (W_block (W_seq (W_seq (W_region ?_)))))))))
   refine L_g 2 kr (L_nil (W_cF kr (W_sg 2 kr (L_nil (W_cF kr (W_sg 2 kr (L_nil ?_)))))))
   refine W_cF kr (W_rg 2 kr (L_nil (W_cF kr (W_seq (W_sg 2 kr (L_nil (W_cF kr (W_region ?_))))))))
   refine L_g 2 kr (L_nil (W_cF kr (W_sg 2 kr (L_nil (W_cF kr (W_seq (W_seq (W_region (L_g 2 kr ?_)))))))))
   refine L_nil (W_cF kr (W_sg 2 kr (L_nil (W_cF kr (W_sg 2 kr (L_nil (W_cT kr ?_)))))))
   refine W_skip (W_cT kr (W_sg 2 kr (L_nil (W_ret ?_))))
   refine rr ?_
   refine done_of (v := .tuple ⟨[nv (-1), nv 1]⟩) (.inl rfl) kr ?_
   exact ⟨rfl, T281⟩
 · skip
   have e9 : chg ⟨18, arg, nm, ot⟩ = (0, 0) := rfl
   rw [e9]
   refine Calls_W 41 Tryz.f13 ?_
   have T0 : Sm Nix h h := .refl
   refine W_seq (W_region (L_nwc [nv 18, nv arg, .string nm, .string ot] .ptr rfl rfl kr fun h282 c282 t282 n282 => ?_))
   have T282 := T0.ext t282
   have N282 := T282.nx
   refine L_g 2 kr (L_nil (W_seq (W_sg 1 kr (L_ld _ rfl rfl kr (c282.ld (o := 0) kr rfl) (L_nil (W_block (W_seq (W_seq (W_region ?_)))))))))
   refine L_g 2 kr (L_nil (W_cF kr (W_sg 2 kr (L_nil (W_cF kr (W_sg 2 kr (L_nil ?_)))))))
   refine W_cF kr (W_rg 2 kr (L_nil (W_cF kr (W_seq (W_sg 2 kr (L_nil (W_cF kr (W_region ?_))))))))
   refine L_g 2 kr (L_nil (W_cF kr (W_sg 2 kr (L_nil (W_cF kr (W_seq (W_seq (W_region (L_g 2 kr ?_)))))))))
   refine L_nil (W_cF kr (W_sg 2 kr (L_nil (W_cF kr (W_sg 2 kr (L_nil (W_cF kr ?_)))))))
   refine W_sg 2 kr (L_nil (W_cF kr (W_rg 2 kr (L_nil (W_cF kr (W_seq (W_seq (W_region ?_))))))))
   refine L_g 2 kr (L_nil (W_cF kr (W_rg 2 kr (L_nil (W_cF kr (W_seq (W_sg 2 kr (L_nil ?_))))))))
   refine W_cF kr (W_rg 2 kr (L_nil (W_cF kr (W_skip (W_sg 2 kr (L_nil (W_ret ?_)))))))
   refine rr ?_
   refine done_of (v := .tuple ⟨[nv (0), nv 0]⟩) (.inl rfl) kr ?_
   exact ⟨rfl, T282⟩
 · skip
   have e9 : chg ⟨19, arg, nm, ot⟩ = (-1, 1) := rfl
   rw [e9]
   refine Calls_W 41 Tryz.f13 ?_
   have T0 : Sm Nix h h := .refl
   refine W_seq (W_region (L_nwc [nv 19, nv arg, .string nm, .string ot] .ptr rfl rfl kr fun h283 c283 t283 n283 => ?_))
   have T283 := T0.ext t283
   have N283 := T283.nx
   refine L_g 2 kr (L_nil (W_seq (W_sg 1 kr (L_ld _ rfl rfl kr (c283.ld (o := 0) kr rfl) (L_nil (W_block (W_seq (W_seq (W_region ?_)))))))))
   refine L_g 2 kr (L_nil (W_cF kr (W_sg 2 kr (L_nil (W_cF kr (W_sg 2 kr (L_nil ?_)))))))
   refine W_cF kr (W_rg 2 kr (L_nil (W_cF kr (W_seq (W_sg 2 kr (L_nil (W_cF kr (W_region ?_))))))))
   refine L_g 2 kr (L_nil (W_cF kr (W_sg 2 kr (L_nil (W_cF kr (W_seq (W_seq (W_region (L_g 2 kr ?_)))))))))
   refine L_nil (W_cF kr (W_sg 2 kr (L_nil (W_cF kr (W_sg 2 kr (L_nil (W_cF kr ?_)))))))
   refine W_sg 2 kr (L_nil (W_cT kr (W_skip (W_cT kr (W_sg 2 kr (L_nil (W_ret ?_)))))))
   refine rr ?_
   refine done_of (v := .tuple ⟨[nv (-1), nv 1]⟩) (.inl rfl) kr ?_
   exact ⟨rfl, T283⟩
 · skip
   have e9 : chg ⟨20, arg, nm, ot⟩ = (-1, 1) := rfl
   rw [e9]
   refine Calls_W 41 Tryz.f13 ?_
   have T0 : Sm Nix h h := .refl
   refine W_seq (W_region (L_nwc [nv 20, nv arg, .string nm, .string ot] .ptr rfl rfl kr fun h284 c284 t284 n284 => ?_))
   have T284 := T0.ext t284
   have N284 := T284.nx
   refine L_g 2 kr (L_nil (W_seq (W_sg 1 kr (L_ld _ rfl rfl kr (c284.ld (o := 0) kr rfl) (L_nil (W_block (W_seq (W_seq (W_region ?_)))))))))
   refine L_g 2 kr (L_nil (W_cF kr (W_sg 2 kr (L_nil (W_cF kr (W_sg 2 kr (L_nil ?_)))))))
   refine W_cF kr (W_rg 2 kr (L_nil (W_cF kr (W_seq (W_sg 2 kr (L_nil (W_cF kr (W_region ?_))))))))
   refine L_g 2 kr (L_nil (W_cF kr (W_sg 2 kr (L_nil (W_cF kr (W_seq (W_seq (W_region (L_g 2 kr ?_)))))))))
   refine L_nil (W_cF kr (W_sg 2 kr (L_nil (W_cF kr (W_sg 2 kr (L_nil (W_cF kr ?_)))))))
   refine W_sg 2 kr (L_nil (W_cF kr (W_rg 2 kr (L_nil (W_cT kr (W_seq (W_region (L_g 2 kr ?_))))))))
   refine L_nil (W_ret ?_)
   refine rr ?_
   refine done_of (v := .tuple ⟨[nv (-1), nv 1]⟩) (.inl rfl) kr ?_
   exact ⟨rfl, T284⟩
 · skip
   have e9 : chg ⟨21, arg, nm, ot⟩ = (0, 0) := rfl
   rw [e9]
   refine Calls_W 41 Tryz.f13 ?_
   have T0 : Sm Nix h h := .refl
   refine W_seq (W_region (L_nwc [nv 21, nv arg, .string nm, .string ot] .ptr rfl rfl kr fun h285 c285 t285 n285 => ?_))
   have T285 := T0.ext t285
   have N285 := T285.nx
   refine L_g 2 kr (L_nil (W_seq (W_sg 1 kr (L_ld _ rfl rfl kr (c285.ld (o := 0) kr rfl) (L_nil (W_block (W_seq (W_seq (W_region ?_)))))))))
   refine L_g 2 kr (L_nil (W_cF kr (W_sg 2 kr (L_nil (W_cF kr (W_sg 2 kr (L_nil ?_)))))))
   refine W_cF kr (W_rg 2 kr (L_nil (W_cF kr (W_seq (W_sg 2 kr (L_nil (W_cF kr (W_region ?_))))))))
   refine L_g 2 kr (L_nil (W_cF kr (W_sg 2 kr (L_nil (W_cF kr (W_seq (W_seq (W_region (L_g 2 kr ?_)))))))))
   refine L_nil (W_cF kr (W_sg 2 kr (L_nil (W_cF kr (W_sg 2 kr (L_nil (W_cF kr ?_)))))))
   refine W_sg 2 kr (L_nil (W_cF kr (W_rg 2 kr (L_nil (W_cF kr (W_seq (W_seq (W_region ?_))))))))
   refine L_g 2 kr (L_nil (W_cF kr (W_rg 2 kr (L_nil (W_cF kr (W_seq (W_sg 2 kr (L_nil ?_))))))))
   refine W_cF kr (W_rg 2 kr (L_nil (W_cF kr (W_skip (W_sg 2 kr (L_nil (W_ret ?_)))))))
   refine rr ?_
   refine done_of (v := .tuple ⟨[nv (0), nv 0]⟩) (.inl rfl) kr ?_
   exact ⟨rfl, T285⟩
end
end Go.Proofs.YtlgakeilplnfmaaGreatDoor
namespace Go.Lj
noncomputable section
open Go Go.X Go.Arm
variable {P : Program} {h h' : AH} {T el sT xT : TypeId} {v u vc vt w : Value} {td r : List Nat} {ht ts : List Int} {C : List Ins} {b0 : Nat}
def To (h : AH) (v : Value) (td : List Nat) : Prop :=
 (∃ b x, v = .slice (some ⟨b, 0, none⟩) td.length 1 ∧ Cl h b [x] ∧ (td = [] ∨ ∃ i, td = [i] ∧ x = nk i)) ∨ Gr h 1 v td.length (td.map nk)
theorem To.sd (t : To h v td) : Sd h 1 v td.length (td.map nk) := by
 rcases t with ⟨b, x, rfl, hc, rfl | ⟨i, rfl, rfl⟩⟩ | g
 · exact ⟨rfl, .inl ⟨rfl, _, _, rfl, (fun e => by cases e), fun q hq => by cases hq; exact hc.lt⟩⟩
 · exact hc.sd rfl
 · exact g.sd
theorem To.sm {S : Nat → Prop} (t : To h v td) (s : Go.Arm.Sm S h h') (hb : ∀ b, vb v = some b → ¬ S b) : To h' v td := by
 rcases t with ⟨b, x, rfl, hc, hd⟩ | g
 · exact .inl ⟨b, x, rfl, hc.sm s (hb b rfl), hd⟩
 · exact .inr (g.sm s hb)
theorem To.one {b i : Nat} (hc : Cl h b [nk i]) : To h (.slice (some ⟨b, 0, none⟩) 1 1) [i] := .inl ⟨b, _, rfl, hc, .inr ⟨i, rfl, rfl⟩⟩
theorem To.cut {i : Nat} (t : To h v (r ++ [i])) (hT : P.underlying T = some (.slice el)) (hk : szOf P el = some 1) : ∃ v', aSl P T v none (some (nv ((r.length : Nat) : Int))) none h = some v' ∧ To h v' r ∧ ∀ b, vb v' = some b → vb v = some b := by
 rcases t with ⟨b, x, rfl, hc, hd⟩ | g
 · have hr : r = [] := by
     rcases hd with hd | ⟨j, hd, _⟩
     · simp at hd
     · cases r with
       | nil => rfl
       | cons a r => simp at hd
   subst hr
   refine ⟨.slice (some ⟨b, 0, none⟩) 0 1, ?_, .inl ⟨b, x, rfl, hc, .inl rfl⟩, fun q hq => hq⟩
   have : aSlice P T (.slice (some ⟨b, 0, none⟩) 1 1) none (some (nv ((0 : Nat) : Int))) none h = some (.slice (some ⟨b, 0, none⟩) 0 1) := by
     unfold aSlice
     rw [if_pos (show mxOk _ _ = true from rfl)]
     simp only [hT, hk]
     rw [if_neg (show ¬ (1 : Nat) = open_ by decide)]
     rfl
   unfold aSl
   show (match aSlice P T (.slice (some ⟨b, 0, none⟩) 1 1) none (some (nv ((0 : Nat) : Int))) none h with | some v => some v | none => _) = _
   rw [this]
 · rw [List.length_append, List.length_singleton] at g
   have hn : (r ++ [i]).length = r.length + 1 := by simp
   obtain ⟨e1, _, e3⟩ := Gr.cutL g hT hk (by omega) (i := r.length) (by omega)
   rcases g.2 with ⟨h0, _⟩ | ⟨b, o, cc, nn, rfl, h2, h3, hk0, h5, h6⟩
   · omega
   · refine ⟨_, cut2 hT hk h3 (by omega), .inr ⟨by simp, .inr ⟨b, o, cc, nn, rfl, h2, h3, hk0, by omega, fun j hj => ?_⟩⟩, fun q hq => hq⟩
     rw [List.length_map] at hj
     rw [h6 j (by simp; omega), List.map_append, List.getElem?_append_left (by simpa using hj)]
theorem app_of {by_ len : Nat} {z s u : Value} {ds : List Value} (hT : P.underlying sT = some (.slice el)) (hx : newsK P xT = .list) (hs : szOf P el = some 1) (hb : byOf P el = some by_) (hz : zeroOf P el = some z) (hzl : (cellsL z).length = 1)
  (hl : lenV s = some len) (hu : Sd h 1 u 1 ds) (h1 : ∀ x, x ∈ ds → x.oneCell' = true) (hlim : (len + 1) * (by_ + 1) < 1099511627776) (hu8 : isU8 P el = none) (e : aAppendTo 1 s 1 ds h none = some (v, h')) : aAppend P sT xT s u h = some (v, h') := by
 obtain ⟨a2, c2, e2⟩ := hu.form
 have hf := hu.first
 have hlen : lenV u = some 1 := by rw [e2]; rfl
 unfold aAppend
 simp only [hT, hs, hb, hz]
 unfold aNews
 simp only [hx, hlen, hf, hl]
 rw [if_pos ⟨hzl, hu.1, by rw [List.all_eq_true]; exact h1, hlim⟩]
 rw [hu8]
 exact e
theorem To.app {by_ j : Nat} {z u : Value} (t : To h v td) (hT : P.underlying sT = some (.slice el)) (hx : newsK P xT = .list) (hs : szOf P el = some 1) (hb : byOf P el = some by_) (hz : zeroOf P el = some z) (hzl : (cellsL z).length = 1)
   (hu : Sd h 1 u 1 [nk j]) (hlim : (td.length + 1) * (by_ + 1) < 1099511627776) (hu8 : isU8 P el = none := by kernel_rfl) :
   ∃ v' h', aAppend P sT xT v u h = some (v', h') ∧ To h' v' (td ++ [j]) ∧ Go.Arm.Sm (fun b => vb v = some b) h h' ∧ ∀ b, vb v' = some b → vb v = some b ∨ h.next ≤ b := by
 have h1 : ∀ x, x ∈ [nk j] → x.oneCell' = true := List.all_eq_true.1 rfl
 rcases t with ⟨b, x, rfl, hc, rfl | ⟨i, rfl, rfl⟩⟩ | g
 · obtain ⟨h2, e1, c1, s1, n1⟩ := Cl.setcs (o := 0) (vs := [nk j]) (i := 0) hc (by simp) h1
   refine ⟨.slice (some ⟨b, 0, none⟩) 1 1, h2, app_of hT hx hs hb hz hzl (len := 0) rfl hu h1 hlim hu8 ?_, .inl ⟨b, nk j, rfl, ?_, .inr ⟨j, rfl, rfl⟩⟩, s1.mono (fun q hq => by rw [hq]; rfl), fun q hq => .inl hq⟩
   · unfold aAppendTo
     dsimp only
     rw [if_neg (show ¬ (1 : Nat) = open_ by decide), if_pos (by simp), if_neg (by decide)]
     have e1 : h.setcs ⟨b, 0, none⟩ (([] : List Nat).length * 1) [nk j] = some h2 := e1
     rw [e1]
     rfl
   · simpa using c1
 · obtain ⟨h2, e, g, n1, o1⟩ := newo_gr h (k := 1) (n := 2) (ds := [nk i] ++ [nk j]) (by decide) rfl (by decide)
   have hcell : h.cells ⟨b, 0, none⟩ 0 1 = some [nk i] := by
     have := hc.cells (o := 0) 1 0 (by simp)
     simpa using this
   refine ⟨.slice (some ⟨h.next, 0, none⟩) 2 open_, h2, app_of hT hx hs hb hz hzl (len := 1) rfl hu h1 hlim hu8 ?_, .inr g, ⟨by omega, fun q _ hq => o1 q (fun e => by omega)⟩, fun q hq => by cases hq; exact .inr (Nat.le_refl _)⟩
   unfold aAppendTo
   dsimp only
   rw [if_neg (show ¬ (1 : Nat) = open_ by decide), if_neg (by simp), if_neg (by simp), if_neg (by decide)]
   have hcell : h.cells ⟨b, 0, none⟩ 0 (([i] : List Nat).length * 1) = some [nk i] := hcell
   rw [hcell]
   dsimp only
   rw [e]
   rfl
 · obtain ⟨v', h2, e, g2, s, f⟩ := g.append hT hx hs hb hz hzl (by decide) hu h1 hlim hu8
   refine ⟨v', h2, e, .inr ?_, s, f⟩
   rw [List.length_append, List.map_append]
   exact g2
end
end Go.Lj
