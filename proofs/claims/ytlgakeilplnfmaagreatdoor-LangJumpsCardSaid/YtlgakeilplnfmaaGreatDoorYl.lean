/- Nodes, their laws and the walks of Check, Compile and the law. -/
import Derived.Test.YtlgakeilplnfmaaGreatDoorYk
import Derived.Test.YtlgakeilplnfmaaGreatDoorYj
namespace Go.Proofs.YtlgakeilplnfmaaGreatDoor
noncomputable section
open Go Go.X Go.Arm Go.Mt Go.Lj
theorem Rk_nw {P : Program} {h : AH} {n : Nat} {ops : Array Oper} {f : Fr} {i : Nat} {r : List Nat} {o : Oper} (ho : ops[i]? = some o) (hw : wantF n ops o f = false) (k : Rk P n ops f h r) : Rk P n ops f h (i :: r) :=
 Rk_no ho (fun t ht => by rw [wantF_ok, ht]; exact hw) k
theorem formed1_ok {F : Nat → Prop} {h : AH} {x : Nd} {pl b : Nat} {c : List Value} (hc : NdC F h x c) (hb : Cl h b [nv (pl : Int)])
  (ih : ∀ h', Go.Arm.Sm Nix h h' → Arm.Calls Tryz.prog 23 [.agg ⟨c⟩, nv (pl : Int)] h' (fun r => r.1 = .bool (fm nok pl x) ∧ Go.Arm.Sm Nix h' r.2)) :
  Arm.Calls Tryz.prog 45 [.agg ⟨c⟩, ptr b] h (fun r => r.1 = .bool (!fm nok pl x) ∧ Go.Arm.Sm Nix h r.2) := by
 obtain ⟨va, vb, ve, rfl, _⟩ := hc.is
 refine Calls_W 8 Tryz.f45 ?_
 have T0 : Sm Nix h h := .refl
 refine W_seq (W_region (L_nwc [nv x.op, nv x.val, .string x.nm, .string x.ot, va, vb, ve] .ptr rfl rfl kr fun h79 c79 t79 n79 => ?_))
 have T79 := T0.ext t79
 have N79 := T79.nx
 refine L_g 1 kr (L_nil (W_seq (W_region (L_ld _ rfl rfl kr (Cl.allN (n := 7) c79 rfl kr) (L_ld _ rfl rfl kr ((hb.ext T79).ld (o := 0) kr rfl) (L_c rfl rfl kr (ih _ T79) ?_))))))
 rintro v80 h80 ⟨e80, t80⟩
 try dsimp only at e80 t80
 subst e80
 have T80 := T79.ext t80
 have N80 := T80.nx
 have M80 := t80.nx
 refine L_g 2 kr (L_nil (W_ret ?_))
 refine rr ?_
 refine done_of (v := .bool (!fm nok pl x)) (.inl rfl) kr ?_
 exact ⟨rfl, T80⟩
theorem formed_ok : ∀ (N : Nat) (x : Nd) (pl : Nat) {F : Nat → Prop} {h : AH} {va vb ve : Value} (_ : sz1 x < N) (_ : NdS F h va x.a) (_ : NdS F h vb x.b) (_ : NdS F h ve x.e),
  Arm.Calls Tryz.prog 23 [.agg ⟨x.c7 va vb ve⟩, nv (pl : Int)] h (fun r => r.1 = .bool (fm nok pl x) ∧ Go.Arm.Sm Nix h r.2) := by
 intro N
 induction N with
 | zero => intro x pl F h va vb ve hs _ _ _; omega
 | succ N ih =>
  intro x pl F h va vb ve hs Ha Hb He
  obtain ⟨p1, c1, rfl⟩ := Ha.form
  obtain ⟨p2, c2, rfl⟩ := Hb.form
  obtain ⟨p3, c3, rfl⟩ := He.form
  cases hf : forms x.op with
  | none =>
   have e6 : fo6 x.op = [nv 0, .bool false, .bool false, .bool false, .bool false, .string emp] := by unfold fo6; rw [hf]
   have e7 : (forms x.op).isSome = false := by rw [hf]; rfl
   refine Calls_W 127 Tryz.f23 ?_
   have T0 : Sm Nix h h := .refl
   refine W_seq (W_region (L_nwc [nv x.op, nv x.val, .string x.nm, .string x.ot, .slice p1 x.a.length c1, .slice p2 x.b.length c2, .slice p3 x.e.length c3] .ptr rfl rfl kr fun h81 c81 t81 n81 => ?_))
   have T81 := T0.ext t81
   have N81 := T81.nx
   refine L_g 1 kr (L_nil (W_sg 1 kr (L_ld _ rfl rfl kr (c81.ld (o := 0) kr rfl) ?_)))
   have hfo := forms_ok (op := x.op) (h := h81)
   rw [e6, e7] at hfo
   refine L_c rfl rfl kr (hfo) ?_
   rintro v82 h82 ⟨e82, t82⟩
   try dsimp only at e82 t82
   subst e82
   have T82 := T81.ext t82
   have N82 := T82.nx
   have M82 := t82.nx
   refine L_g 3 kr (L_nwc [nv 0, .bool false, .bool false, .bool false, .bool false, .string ⟨#[]⟩] .ptr rfl rfl kr fun h83 c83 t83 n83 => ?_)
   have T83 := T82.ext t83
   have N83 := T83.nx
   obtain ⟨h84, e84, d84, t84, n84⟩ := c83.sA 123 [nv 0, .bool false, .bool false, .bool false, .bool false, .string emp]
   replace c83 := d84
   have T84 := T83.tr t84
   have N84 := T84.nx
   refine L_st _ rfl rfl rfl kr kr (e84) (L_g 1 kr (L_nil (W_seq (W_block (W_sg 20 kr (L_nil (W_cT kr (W_seq (W_region ?_)))))))))
   refine L_g 1 kr (L_nil (W_ret ?_))
   refine rr ?_
   refine done_of (v := .bool false) (.inl rfl) kr ?_
   rw [fm_none hf]
   exact ⟨rfl, T84⟩
  | some f =>
   obtain ⟨args, name, other, body, rest⟩ := f
   have e6 : fo6 x.op = [nk args, .bool name, .bool other, .bool body, .bool rest, .string (wd x.op)] := by unfold fo6; rw [hf]
   have e7 : (forms x.op).isSome = true := by rw [hf]; rfl
   refine Calls_W 127 Tryz.f23 ?_
   have T0 : Sm Nix h h := .refl
   refine W_seq (W_region (L_nwc [nv x.op, nv x.val, .string x.nm, .string x.ot, .slice p1 x.a.length c1, .slice p2 x.b.length c2, .slice p3 x.e.length c3] .ptr rfl rfl kr fun h85 c85 t85 n85 => ?_))
   have T85 := T0.ext t85
   have N85 := T85.nx
   refine L_g 1 kr (L_nil (W_sg 1 kr (L_ld _ rfl rfl kr (c85.ld (o := 0) kr rfl) ?_)))
   have hfo := forms_ok (op := x.op) (h := h85)
   rw [e6, e7] at hfo
   refine L_c rfl rfl kr (hfo) ?_
   rintro v86 h86 ⟨e86, t86⟩
   try dsimp only at e86 t86
   subst e86
   replace c85 := c85.ext t86
   have T86 := T85.ext t86
   have N86 := T86.nx
   have M86 := t86.nx
   refine L_g 3 kr (L_nwc [nv 0, .bool false, .bool false, .bool false, .bool false, .string ⟨#[]⟩] .ptr rfl rfl kr fun h87 c87 t87 n87 => ?_)
   replace c85 := c85.ext t87
   have T87 := T86.ext t87
   have N87 := T87.nx
   obtain ⟨h88, e88, d88, t88, n88⟩ := c87.sA 123 [nk args, .bool name, .bool other, .bool body, .bool rest, .string (wd x.op)]
   replace c85 := c85.sn t88
   replace c87 := d88
   have T88 := T87.tr t88
   have N88 := T88.nx
   refine L_st _ rfl rfl rfl kr kr (e88) (L_g 1 kr (L_nil (W_seq (W_block ?_))))
   refine W_seq_cut (fun fr hh => fr 1 = nv (pl : Int) ∧ fr 2 = ptr h.next ∧ fr 5 = ptr h86.next ∧ fr 17 = .bool (bad2 pl x.op) ∧ Sm Nix h hh ∧ Cl hh (h.next) [nv x.op, nv x.val, .string x.nm, .string x.ot, .slice p1 x.a.length c1, .slice p2 x.b.length c2, .slice p3 x.e.length c3] ∧ Cl hh (h86.next) [nk args, .bool name, .bool other, .bool body, .bool rest, .string (wd x.op)]) ?_ ?_
   ·
    have h6 : (x.op ≤ 13 ∧ pl ≠ 0) ∨ (¬ x.op ≤ 13 ∧ pl = 0) ∨ (x.op ≤ 13 ∧ pl = 0) ∨ (¬ x.op ≤ 13 ∧ pl ≠ 0 ∧ x.op ≠ 24) ∨ (¬ x.op ≤ 13 ∧ pl ≠ 0 ∧ x.op = 24 ∧ pl ≠ 2) ∨ (¬ x.op ≤ 13 ∧ pl ≠ 0 ∧ x.op = 24 ∧ pl = 2) := by omega
    rcases h6 with ⟨q1, q2⟩ | ⟨q1, q2⟩ | ⟨q1, q2⟩ | ⟨q1, q2, q3⟩ | ⟨q1, q2, q3, q4⟩ | ⟨q1, q2, q3, q4⟩
    ·
     refine W_rg 4 kr (L_want kr (L_ld _ rfl rfl kr (c85.ld (o := 0) kr rfl) (L_want kr (L_i (x.op) (13) (.bool true) rfl rfl kr kr rfl (by simp; omega) (L_g 1 kr (L_want kr (L_i ((pl : Int)) (0) (.bool false) rfl rfl kr kr rfl (by simp; omega) (L_g 12 kr (L_nil ?_)))))))))
     exact ⟨by kernel_rfl, kr, kr, (Eq.trans (b := .bool (true)) kr (congrArg Value.bool (Eq.symm (show bad2 pl x.op = (true) by unfold bad2; rw [decide_eq_true (p := x.op ≤ 13) (by omega), decide_eq_false (p := pl = 0) (by omega)]; rfl)))), T88, c85, c87⟩
    ·
     refine W_rg 4 kr (L_want kr (L_ld _ rfl rfl kr (c85.ld (o := 0) kr rfl) (L_want kr (L_i (x.op) (13) (.bool false) rfl rfl kr kr rfl (by simp; omega) (L_g 1 kr (L_want kr (L_i ((pl : Int)) (0) (.bool true) rfl rfl kr kr rfl (by simp; omega) (L_g 12 kr (L_nil ?_)))))))))
     exact ⟨by kernel_rfl, kr, kr, (Eq.trans (b := .bool (true)) kr (congrArg Value.bool (Eq.symm (show bad2 pl x.op = (true) by unfold bad2; rw [decide_eq_false (p := x.op ≤ 13) (by omega), decide_eq_true (p := pl = 0) (by omega)]; rfl)))), T88, c85, c87⟩
    ·
     refine W_rg 4 kr (L_want kr (L_ld _ rfl rfl kr (c85.ld (o := 0) kr rfl) (L_want kr (L_i (x.op) (13) (.bool true) rfl rfl kr kr rfl (by simp; omega) (L_g 1 kr (L_want kr (L_i ((pl : Int)) (0) (.bool true) rfl rfl kr kr rfl (by simp; omega) (L_g 4 kr (L_want kr (L_ld _ rfl rfl kr (c85.ld (o := 0) kr rfl) ?_))))))))))
     refine L_want kr (L_i (x.op) (24) (.bool false) rfl rfl kr kr rfl (by simp; omega) (L_g 6 kr (L_nil ?_)))
     exact ⟨by kernel_rfl, kr, kr, (Eq.trans (b := .bool (false)) kr (congrArg Value.bool (Eq.symm (show bad2 pl x.op = (false) by unfold bad2; rw [decide_eq_true (p := x.op ≤ 13) (by omega), decide_eq_true (p := pl = 0) (by omega), decide_eq_false (p := x.op = 24) (by omega)]; rfl)))), T88, c85, c87⟩
    ·
     refine W_rg 4 kr (L_want kr (L_ld _ rfl rfl kr (c85.ld (o := 0) kr rfl) (L_want kr (L_i (x.op) (13) (.bool false) rfl rfl kr kr rfl (by simp; omega) (L_g 1 kr (L_want kr (L_i ((pl : Int)) (0) (.bool false) rfl rfl kr kr rfl (by simp; omega) (L_g 4 kr (L_want kr (L_ld _ rfl rfl kr (c85.ld (o := 0) kr rfl) ?_))))))))))
     refine L_want kr (L_i (x.op) (24) (.bool false) rfl rfl kr kr rfl (by simp; omega) (L_g 6 kr (L_nil ?_)))
     exact ⟨by kernel_rfl, kr, kr, (Eq.trans (b := .bool (false)) kr (congrArg Value.bool (Eq.symm (show bad2 pl x.op = (false) by unfold bad2; rw [decide_eq_false (p := x.op ≤ 13) (by omega), decide_eq_false (p := pl = 0) (by omega), decide_eq_false (p := x.op = 24) (by omega)]; rfl)))), T88, c85, c87⟩
    ·
     refine W_rg 4 kr (L_want kr (L_ld _ rfl rfl kr (c85.ld (o := 0) kr rfl) (L_want kr (L_i (x.op) (13) (.bool false) rfl rfl kr kr rfl (by simp; omega) (L_g 1 kr (L_want kr (L_i ((pl : Int)) (0) (.bool false) rfl rfl kr kr rfl (by simp; omega) (L_g 4 kr (L_want kr (L_ld _ rfl rfl kr (c85.ld (o := 0) kr rfl) ?_))))))))))
     refine L_want kr (L_i (x.op) (24) (.bool true) rfl rfl kr kr rfl (by simp; omega) (L_g 2 kr (L_want kr (L_i ((pl : Int)) (2) (.bool true) rfl rfl kr kr rfl (by simp; omega) (L_g 3 kr (L_nil ?_))))))
     exact ⟨by kernel_rfl, kr, kr, (Eq.trans (b := .bool (true)) kr (congrArg Value.bool (Eq.symm (show bad2 pl x.op = (true) by unfold bad2; rw [decide_eq_false (p := x.op ≤ 13) (by omega), decide_eq_false (p := pl = 0) (by omega), decide_eq_true (p := x.op = 24) (by omega), decide_eq_false (p := pl = 2) (by omega)]; rfl)))), T88, c85, c87⟩
    ·
     refine W_rg 4 kr (L_want kr (L_ld _ rfl rfl kr (c85.ld (o := 0) kr rfl) (L_want kr (L_i (x.op) (13) (.bool false) rfl rfl kr kr rfl (by simp; omega) (L_g 1 kr (L_want kr (L_i ((pl : Int)) (0) (.bool false) rfl rfl kr kr rfl (by simp; omega) (L_g 4 kr (L_want kr (L_ld _ rfl rfl kr (c85.ld (o := 0) kr rfl) ?_))))))))))
     refine L_want kr (L_i (x.op) (24) (.bool true) rfl rfl kr kr rfl (by simp; omega) (L_g 2 kr (L_want kr (L_i ((pl : Int)) (2) (.bool false) rfl rfl kr kr rfl (by simp; omega) (L_g 3 kr (L_nil ?_))))))
     exact ⟨by kernel_rfl, kr, kr, (Eq.trans (b := .bool (false)) kr (congrArg Value.bool (Eq.symm (show bad2 pl x.op = (false) by unfold bad2; rw [decide_eq_false (p := x.op ≤ 13) (by omega), decide_eq_false (p := pl = 0) (by omega), decide_eq_true (p := x.op = 24) (by omega), decide_eq_true (p := pl = 2) (by omega)]; rfl)))), T88, c85, c87⟩
   ·
    rintro fr89 h89 ⟨y89_1, y89_2, y89_5, y89_17, T89, c85, c87⟩
    have N89 := T89.nx
    have B89_t2 := c85.lt
    have B89_t5 := c87.lt
    refine W_set (k := 1) y89_1 (W_set (k := 2) y89_2 (W_set (k := 5) y89_5 (W_set (k := 17) y89_17 ?_)))
    refine W_cond (bad2 pl x.op) kr (fun hb => ?_) (fun hb => ?_)
    ·
     have hr : fm nok pl x = false := by rw [fm_some hf, hb]; simp
     refine W_sg 1 kr (L_nil (W_ret ?_))
     refine rr ?_
     refine done_of (v := .bool false) (.inl rfl) kr ?_
     rw [hr]
     exact ⟨rfl, T89⟩
    ·
     have g2 := hb
     refine W_seq_cut (fun fr hh => fr 1 = nv (pl : Int) ∧ fr 2 = ptr h.next ∧ fr 5 = ptr h86.next ∧ fr 37 = .bool (bad4 (⟨args, name, other, body, rest⟩ : Fo) x) ∧ Sm Nix h hh ∧ Cl hh (h.next) [nv x.op, nv x.val, .string x.nm, .string x.ot, .slice p1 x.a.length c1, .slice p2 x.b.length c2, .slice p3 x.e.length c3] ∧ Cl hh (h86.next) [nk args, .bool name, .bool other, .bool body, .bool rest, .string (wd x.op)]) ?_ ?_
     ·
      have h8 : x.a.length ≠ args ∨ (x.a.length = args ∧ body = false ∧ x.b ≠ []) ∨ (x.a.length = args ∧ body = false ∧ x.b = [] ∧ rest = false ∧ x.e ≠ []) ∨ (x.a.length = args ∧ body = false ∧ x.b = [] ∧ rest = false ∧ x.e = []) ∨ (x.a.length = args ∧ body = false ∧ x.b = [] ∧ rest = true) ∨
        (x.a.length = args ∧ body = true ∧ rest = false ∧ x.e ≠ []) ∨ (x.a.length = args ∧ body = true ∧ rest = false ∧ x.e = []) ∨ (x.a.length = args ∧ body = true ∧ rest = true) := by
       by_cases a1 : x.a.length = args <;> cases body <;> cases rest <;> by_cases a2 : x.b = [] <;> by_cases a3 : x.e = [] <;> simp [a1, a2, a3]
      rcases h8 with q1 | ⟨q1, rfl, q3⟩ | ⟨q1, rfl, q3, rfl, q5⟩ | ⟨q1, rfl, q3, rfl, q5⟩ | ⟨q1, rfl, q3, rfl⟩ | ⟨q1, rfl, rfl, q5⟩ | ⟨q1, rfl, rfl, q5⟩ | ⟨q1, rfl, rfl⟩
      ·
       skip
       refine W_rg 1 kr (L_ld _ rfl rfl kr (c85.ld (o := 4) kr rfl) (L_ln _ rfl rfl kr ((show aLen Tryz.prog 22 (.slice p1 x.a.length c1) h89 = some (.int .i64 (x.a.length : Int)) by kernel_rfl)) (L_g 1 kr (L_ld _ rfl rfl kr (c87.ld (o := 0) kr rfl) (L_i ((x.a.length : Int)) ((args : Int)) (.bool true) rfl rfl kr kr rfl (by simp; omega) (L_g 28 kr (L_nil ?_)))))))
       exact ⟨by kernel_rfl, kr, kr, (Eq.trans (b := .bool (true)) kr (congrArg Value.bool (Eq.symm (show bad4 (⟨args, name, other, body, rest⟩ : Fo) x = (true) by unfold bad4; rw [decide_eq_false q1]; simp)))), T89, c85, c87⟩
      ·
       have e3 : x.b.isEmpty = false := by simpa using q3
       refine W_rg 1 kr (L_ld _ rfl rfl kr (c85.ld (o := 4) kr rfl) (L_ln _ rfl rfl kr ((show aLen Tryz.prog 22 (.slice p1 x.a.length c1) h89 = some (.int .i64 (x.a.length : Int)) by kernel_rfl)) (L_g 1 kr (L_ld _ rfl rfl kr (c87.ld (o := 0) kr rfl) (L_i ((x.a.length : Int)) ((args : Int)) (.bool false) rfl rfl kr kr rfl (by simp; omega) (L_g 2 kr (L_want kr (L_ld _ rfl rfl kr (c87.ld (o := 3) kr rfl) (L_g 3 kr (L_want kr ?_))))))))))
       refine L_ld _ rfl rfl kr (c85.ld (o := 5) kr rfl) (L_want kr (L_ln _ rfl rfl kr ((show aLen Tryz.prog 22 (.slice p2 x.b.length c2) h89 = some (.int .i64 (x.b.length : Int)) by kernel_rfl)) (L_want kr (L_i ((x.b.length : Int)) (0) (.bool true) rfl rfl kr kr rfl (by first | (rw [q3]; rfl) | (have := List.length_pos_iff.2 q3; simp; omega)) (L_g 19 kr (L_nil ?_))))))
       exact ⟨by kernel_rfl, kr, kr, (Eq.trans (b := .bool (true)) kr (congrArg Value.bool (Eq.symm (show bad4 (⟨args, name, other, false, rest⟩ : Fo) x = (true) by unfold bad4; rw [decide_eq_true q1, e3]; simp)))), T89, c85, c87⟩
      ·
       have e3 : x.b.isEmpty = true := by simpa using q3
       have e5 : x.e.isEmpty = false := by simpa using q5
       refine W_rg 1 kr (L_ld _ rfl rfl kr (c85.ld (o := 4) kr rfl) (L_ln _ rfl rfl kr ((show aLen Tryz.prog 22 (.slice p1 x.a.length c1) h89 = some (.int .i64 (x.a.length : Int)) by kernel_rfl)) (L_g 1 kr (L_ld _ rfl rfl kr (c87.ld (o := 0) kr rfl) (L_i ((x.a.length : Int)) ((args : Int)) (.bool false) rfl rfl kr kr rfl (by simp; omega) (L_g 2 kr (L_want kr (L_ld _ rfl rfl kr (c87.ld (o := 3) kr rfl) (L_g 3 kr (L_want kr ?_))))))))))
       refine L_ld _ rfl rfl kr (c85.ld (o := 5) kr rfl) (L_want kr (L_ln _ rfl rfl kr ((show aLen Tryz.prog 22 (.slice p2 x.b.length c2) h89 = some (.int .i64 (x.b.length : Int)) by kernel_rfl)) (L_want kr (L_i ((x.b.length : Int)) (0) (.bool false) rfl rfl kr kr rfl (by first | (rw [q3]; rfl) | (have := List.length_pos_iff.2 q3; simp; omega)) (L_g 4 kr (L_want kr (L_ld _ rfl rfl kr (c87.ld (o := 4) kr rfl) (L_g 3 kr (L_want kr (L_ld _ rfl rfl kr (c85.ld (o := 6) kr rfl) (L_want kr ?_)))))))))))
       refine L_ln _ rfl rfl kr ((show aLen Tryz.prog 22 (.slice p3 x.e.length c3) h89 = some (.int .i64 (x.e.length : Int)) by kernel_rfl)) (L_want kr (L_i ((x.e.length : Int)) (0) (.bool true) rfl rfl kr kr rfl (by first | (rw [q5]; rfl) | (have := List.length_pos_iff.2 q5; simp; omega)) (L_g 8 kr (L_nil ?_))))
       exact ⟨by kernel_rfl, kr, kr, (Eq.trans (b := .bool (true)) kr (congrArg Value.bool (Eq.symm (show bad4 (⟨args, name, other, false, false⟩ : Fo) x = (true) by unfold bad4; rw [decide_eq_true q1, e3, e5]; simp)))), T89, c85, c87⟩
      ·
       have e3 : x.b.isEmpty = true := by simpa using q3
       have e5 : x.e.isEmpty = true := by simpa using q5
       refine W_rg 1 kr (L_ld _ rfl rfl kr (c85.ld (o := 4) kr rfl) (L_ln _ rfl rfl kr ((show aLen Tryz.prog 22 (.slice p1 x.a.length c1) h89 = some (.int .i64 (x.a.length : Int)) by kernel_rfl)) (L_g 1 kr (L_ld _ rfl rfl kr (c87.ld (o := 0) kr rfl) (L_i ((x.a.length : Int)) ((args : Int)) (.bool false) rfl rfl kr kr rfl (by simp; omega) (L_g 2 kr (L_want kr (L_ld _ rfl rfl kr (c87.ld (o := 3) kr rfl) (L_g 3 kr (L_want kr ?_))))))))))
       refine L_ld _ rfl rfl kr (c85.ld (o := 5) kr rfl) (L_want kr (L_ln _ rfl rfl kr ((show aLen Tryz.prog 22 (.slice p2 x.b.length c2) h89 = some (.int .i64 (x.b.length : Int)) by kernel_rfl)) (L_want kr (L_i ((x.b.length : Int)) (0) (.bool false) rfl rfl kr kr rfl (by first | (rw [q3]; rfl) | (have := List.length_pos_iff.2 q3; simp; omega)) (L_g 4 kr (L_want kr (L_ld _ rfl rfl kr (c87.ld (o := 4) kr rfl) (L_g 3 kr (L_want kr (L_ld _ rfl rfl kr (c85.ld (o := 6) kr rfl) (L_want kr ?_)))))))))))
       refine L_ln _ rfl rfl kr ((show aLen Tryz.prog 22 (.slice p3 x.e.length c3) h89 = some (.int .i64 (x.e.length : Int)) by kernel_rfl)) (L_want kr (L_i ((x.e.length : Int)) (0) (.bool false) rfl rfl kr kr rfl (by first | (rw [q5]; rfl) | (have := List.length_pos_iff.2 q5; simp; omega)) (L_g 3 kr (L_want kr (L_ld _ rfl rfl kr (Cl.allN (n := 7) c85 rfl kr) (L_want kr (L_c rfl rfl kr (fits_ok (x := x) (va := .slice p1 x.a.length c1) (vb := .slice p2 x.b.length c2) (ve := .slice p3 x.e.length c3)) ?_)))))))
       rintro v90 h90 ⟨e90, t90⟩
       try dsimp only at e90 t90
       subst e90
       replace c85 := c85.ext t90
       replace c87 := c87.ext t90
       have T90 := T89.ext t90
       have N90 := T90.nx
       have M90 := t90.nx
       refine L_g 3 kr (L_nil ?_)
       exact ⟨by kernel_rfl, kr, kr, (Eq.trans (b := .bool (!fitv x.op x.val)) kr (congrArg Value.bool (Eq.symm (show bad4 (⟨args, name, other, false, false⟩ : Fo) x = (!fitv x.op x.val) by unfold bad4; rw [decide_eq_true q1, e3, e5]; simp)))), T90, c85, c87⟩
      ·
       have e3 : x.b.isEmpty = true := by simpa using q3
       refine W_rg 1 kr (L_ld _ rfl rfl kr (c85.ld (o := 4) kr rfl) (L_ln _ rfl rfl kr ((show aLen Tryz.prog 22 (.slice p1 x.a.length c1) h89 = some (.int .i64 (x.a.length : Int)) by kernel_rfl)) (L_g 1 kr (L_ld _ rfl rfl kr (c87.ld (o := 0) kr rfl) (L_i ((x.a.length : Int)) ((args : Int)) (.bool false) rfl rfl kr kr rfl (by simp; omega) (L_g 2 kr (L_want kr (L_ld _ rfl rfl kr (c87.ld (o := 3) kr rfl) (L_g 3 kr (L_want kr ?_))))))))))
       refine L_ld _ rfl rfl kr (c85.ld (o := 5) kr rfl) (L_want kr (L_ln _ rfl rfl kr ((show aLen Tryz.prog 22 (.slice p2 x.b.length c2) h89 = some (.int .i64 (x.b.length : Int)) by kernel_rfl)) (L_want kr (L_i ((x.b.length : Int)) (0) (.bool false) rfl rfl kr kr rfl (by first | (rw [q3]; rfl) | (have := List.length_pos_iff.2 q3; simp; omega)) (L_g 4 kr (L_want kr (L_ld _ rfl rfl kr (c87.ld (o := 4) kr rfl) (L_g 9 kr (L_want kr (L_ld _ rfl rfl kr (Cl.allN (n := 7) c85 rfl kr) (L_want kr ?_)))))))))))
       refine L_c rfl rfl kr (fits_ok (x := x) (va := .slice p1 x.a.length c1) (vb := .slice p2 x.b.length c2) (ve := .slice p3 x.e.length c3)) ?_
       rintro v91 h91 ⟨e91, t91⟩
       try dsimp only at e91 t91
       subst e91
       replace c85 := c85.ext t91
       replace c87 := c87.ext t91
       have T91 := T89.ext t91
       have N91 := T91.nx
       have M91 := t91.nx
       refine L_g 3 kr (L_nil ?_)
       exact ⟨by kernel_rfl, kr, kr, (Eq.trans (b := .bool (!fitv x.op x.val)) kr (congrArg Value.bool (Eq.symm (show bad4 (⟨args, name, other, false, true⟩ : Fo) x = (!fitv x.op x.val) by unfold bad4; rw [decide_eq_true q1, e3]; simp)))), T91, c85, c87⟩
      ·
       have e5 : x.e.isEmpty = false := by simpa using q5
       refine W_rg 1 kr (L_ld _ rfl rfl kr (c85.ld (o := 4) kr rfl) (L_ln _ rfl rfl kr ((show aLen Tryz.prog 22 (.slice p1 x.a.length c1) h89 = some (.int .i64 (x.a.length : Int)) by kernel_rfl)) (L_g 1 kr (L_ld _ rfl rfl kr (c87.ld (o := 0) kr rfl) (L_i ((x.a.length : Int)) ((args : Int)) (.bool false) rfl rfl kr kr rfl (by simp; omega) (L_g 2 kr (L_want kr (L_ld _ rfl rfl kr (c87.ld (o := 3) kr rfl) (L_g 10 kr (L_want kr ?_))))))))))
       refine L_ld _ rfl rfl kr (c87.ld (o := 4) kr rfl) (L_g 3 kr (L_want kr (L_ld _ rfl rfl kr (c85.ld (o := 6) kr rfl) (L_want kr (L_ln _ rfl rfl kr ((show aLen Tryz.prog 22 (.slice p3 x.e.length c3) h89 = some (.int .i64 (x.e.length : Int)) by kernel_rfl)) (L_want kr (L_i ((x.e.length : Int)) (0) (.bool true) rfl rfl kr kr rfl (by first | (rw [q5]; rfl) | (have := List.length_pos_iff.2 q5; simp; omega)) (L_g 8 kr (L_nil ?_)))))))))
       exact ⟨by kernel_rfl, kr, kr, (Eq.trans (b := .bool (true)) kr (congrArg Value.bool (Eq.symm (show bad4 (⟨args, name, other, true, false⟩ : Fo) x = (true) by unfold bad4; rw [decide_eq_true q1, e5]; simp)))), T89, c85, c87⟩
      ·
       have e5 : x.e.isEmpty = true := by simpa using q5
       refine W_rg 1 kr (L_ld _ rfl rfl kr (c85.ld (o := 4) kr rfl) (L_ln _ rfl rfl kr ((show aLen Tryz.prog 22 (.slice p1 x.a.length c1) h89 = some (.int .i64 (x.a.length : Int)) by kernel_rfl)) (L_g 1 kr (L_ld _ rfl rfl kr (c87.ld (o := 0) kr rfl) (L_i ((x.a.length : Int)) ((args : Int)) (.bool false) rfl rfl kr kr rfl (by simp; omega) (L_g 2 kr (L_want kr (L_ld _ rfl rfl kr (c87.ld (o := 3) kr rfl) (L_g 10 kr (L_want kr ?_))))))))))
       refine L_ld _ rfl rfl kr (c87.ld (o := 4) kr rfl) (L_g 3 kr (L_want kr (L_ld _ rfl rfl kr (c85.ld (o := 6) kr rfl) (L_want kr (L_ln _ rfl rfl kr ((show aLen Tryz.prog 22 (.slice p3 x.e.length c3) h89 = some (.int .i64 (x.e.length : Int)) by kernel_rfl)) (L_want kr (L_i ((x.e.length : Int)) (0) (.bool false) rfl rfl kr kr rfl (by first | (rw [q5]; rfl) | (have := List.length_pos_iff.2 q5; simp; omega)) (L_g 3 kr (L_want kr (L_ld _ rfl rfl kr (Cl.allN (n := 7) c85 rfl kr) (L_want kr ?_)))))))))))
       refine L_c rfl rfl kr (fits_ok (x := x) (va := .slice p1 x.a.length c1) (vb := .slice p2 x.b.length c2) (ve := .slice p3 x.e.length c3)) ?_
       rintro v92 h92 ⟨e92, t92⟩
       try dsimp only at e92 t92
       subst e92
       replace c85 := c85.ext t92
       replace c87 := c87.ext t92
       have T92 := T89.ext t92
       have N92 := T92.nx
       have M92 := t92.nx
       refine L_g 3 kr (L_nil ?_)
       exact ⟨by kernel_rfl, kr, kr, (Eq.trans (b := .bool (!fitv x.op x.val)) kr (congrArg Value.bool (Eq.symm (show bad4 (⟨args, name, other, true, false⟩ : Fo) x = (!fitv x.op x.val) by unfold bad4; rw [decide_eq_true q1, e5]; simp)))), T92, c85, c87⟩
      ·
       skip
       refine W_rg 1 kr (L_ld _ rfl rfl kr (c85.ld (o := 4) kr rfl) (L_ln _ rfl rfl kr ((show aLen Tryz.prog 22 (.slice p1 x.a.length c1) h89 = some (.int .i64 (x.a.length : Int)) by kernel_rfl)) (L_g 1 kr (L_ld _ rfl rfl kr (c87.ld (o := 0) kr rfl) (L_i ((x.a.length : Int)) ((args : Int)) (.bool false) rfl rfl kr kr rfl (by simp; omega) (L_g 2 kr (L_want kr (L_ld _ rfl rfl kr (c87.ld (o := 3) kr rfl) (L_g 10 kr (L_want kr ?_))))))))))
       refine L_ld _ rfl rfl kr (c87.ld (o := 4) kr rfl) (L_g 9 kr (L_want kr (L_ld _ rfl rfl kr (Cl.allN (n := 7) c85 rfl kr) (L_want kr (L_c rfl rfl kr (fits_ok (x := x) (va := .slice p1 x.a.length c1) (vb := .slice p2 x.b.length c2) (ve := .slice p3 x.e.length c3)) ?_)))))
       rintro v93 h93 ⟨e93, t93⟩
       try dsimp only at e93 t93
       subst e93
       replace c85 := c85.ext t93
       replace c87 := c87.ext t93
       have T93 := T89.ext t93
       have N93 := T93.nx
       have M93 := t93.nx
       refine L_g 3 kr (L_nil ?_)
       exact ⟨by kernel_rfl, kr, kr, (Eq.trans (b := .bool (!fitv x.op x.val)) kr (congrArg Value.bool (Eq.symm (show bad4 (⟨args, name, other, true, true⟩ : Fo) x = (!fitv x.op x.val) by unfold bad4; rw [decide_eq_true q1]; simp)))), T93, c85, c87⟩
     ·
      rintro fr94 h94 ⟨y94_1, y94_2, y94_5, y94_37, T94, c85, c87⟩
      have N94 := T94.nx
      have B94_t2 := c85.lt
      have B94_t5 := c87.lt
      refine W_set (k := 1) y94_1 (W_set (k := 2) y94_2 (W_set (k := 5) y94_5 (W_set (k := 37) y94_37 ?_)))
      refine W_cond (bad4 (⟨args, name, other, body, rest⟩ : Fo) x) kr (fun hb => ?_) (fun hb => ?_)
      ·
       have hr : fm nok pl x = false := by rw [fm_some hf, hb]; simp
       refine W_sg 1 kr (L_nil (W_ret ?_))
       refine rr ?_
       refine done_of (v := .bool false) (.inl rfl) kr ?_
       rw [hr]
       exact ⟨rfl, T94⟩
      ·
       have g4 := hb
       refine W_seq_cut (fun fr hh => fr 2 = ptr h.next ∧ fr 71 = .bool (bad6 (⟨args, name, other, body, rest⟩ : Fo) x) ∧ Sm Nix h hh ∧ Cl hh (h.next) [nv x.op, nv x.val, .string x.nm, .string x.ot, .slice p1 x.a.length c1, .slice p2 x.b.length c2, .slice p3 x.e.length c3]) ?_ ?_
       ·
        have h9 : (name = true ∧ nok x.nm = false) ∨ (name = false ∧ nok x.nm = true) ∨ (name = false ∧ nok x.nm = false ∧ x.nm ≠ emp) ∨ (name = true ∧ nok x.nm = true ∧ other = true ∧ nok x.ot = false) ∨ (name = true ∧ nok x.nm = true ∧ other = false ∧ nok x.ot = true) ∨ (name = true ∧ nok x.nm = true ∧ other = true ∧ nok x.ot = true) ∨ (name = true ∧ nok x.nm = true ∧ other = false ∧ nok x.ot = false) ∨ (name = false ∧ nok x.nm = false ∧ x.nm = emp ∧ other = true ∧ nok x.ot = false) ∨ (name = false ∧ nok x.nm = false ∧ x.nm = emp ∧ other = false ∧ nok x.ot = true) ∨ (name = false ∧ nok x.nm = false ∧ x.nm = emp ∧ other = true ∧ nok x.ot = true) ∨ (name = false ∧ nok x.nm = false ∧ x.nm = emp ∧ other = false ∧ nok x.ot = false) := by
         cases name <;> cases other <;> cases nok x.nm <;> cases nok x.ot <;> by_cases a1 : x.nm = emp <;> simp [a1]
        rcases h9 with ⟨rfl, q1⟩ | ⟨rfl, q1⟩ | ⟨rfl, q1, q2⟩ | ⟨rfl, q1, rfl, q3⟩ | ⟨rfl, q1, rfl, q3⟩ | ⟨rfl, q1, rfl, q3⟩ | ⟨rfl, q1, rfl, q3⟩ | ⟨rfl, q1, q2, rfl, q3⟩ | ⟨rfl, q1, q2, rfl, q3⟩ | ⟨rfl, q1, q2, rfl, q3⟩ | ⟨rfl, q1, q2, rfl, q3⟩
        ·
         skip
         refine W_drawn kr (D_e (e := 4) (l := [0,1,2,3]) (s' := [0,1]) kr kr rfl kr Rk_nil (NS_b 1 kr (NS_ld _ rfl rfl kr kr kr (c87.ld (o := 1) kr rfl) (NS_b 1 kr (NS_ld _ rfl rfl kr kr kr (c85.ld (o := 2) kr rfl) (NS_nil ?_))))))
         have hq12 := nok_ok (s := x.nm) (h := h94)
         rw [q1] at hq12
         refine L_c rfl rfl kr (hq12) ?_
         rintro v95 h95 ⟨e95, t95⟩
         try dsimp only at e95 t95
         subst e95
         replace c85 := c85.ext t95
         replace c87 := c87.ext t95
         have T95 := T94.ext t95
         have N95 := T95.nx
         have M95 := t95.nx
         refine L_nil ⟨rfl, ?_⟩
         refine D_e (e := 21) (l := [5,6,7,8,9,10,11,12,13,14,15,16,17,18,19,20]) (s' := [17,18]) kr kr rfl kr (Rk_1 rfl rfl (Rk_ld _ rfl rfl rfl kr (c87.ld (o := 1) kr rfl) kr Rk_nil)) (NS_v (.bool true) rfl kr rfl kr kr (NS_b 15 kr (NS_nil (L_not kr kr ?_))))
         refine L_nil ⟨rfl, ?_⟩
         refine D_l (l := [22,23,24,25,26,27,28,29,30,31,32,33,34]) kr kr (Rk_nw rfl kr (Rk_nw rfl kr Rk_nil)) (NS_b 13 kr (NS_nil ?_))
         exact ⟨by kernel_rfl, (Eq.trans (b := .bool (true)) kr (congrArg Value.bool (Eq.symm (show bad6 (⟨args, true, other, body, rest⟩ : Fo) x = (true) by unfold bad6; rw [q1]; simp)))), T95, c85⟩
        ·
         skip
         refine W_drawn kr (D_e (e := 4) (l := [0,1,2,3]) (s' := [0,1]) kr kr rfl kr Rk_nil (NS_b 1 kr (NS_ld _ rfl rfl kr kr kr (c87.ld (o := 1) kr rfl) (NS_b 1 kr (NS_ld _ rfl rfl kr kr kr (c85.ld (o := 2) kr rfl) (NS_nil ?_))))))
         have hq13 := nok_ok (s := x.nm) (h := h94)
         rw [q1] at hq13
         refine L_c rfl rfl kr (hq13) ?_
         rintro v96 h96 ⟨e96, t96⟩
         try dsimp only at e96 t96
         subst e96
         replace c85 := c85.ext t96
         replace c87 := c87.ext t96
         have T96 := T94.ext t96
         have N96 := T96.nx
         have M96 := t96.nx
         refine L_nil ⟨rfl, ?_⟩
         refine D_e (e := 21) (l := [5,6,7,8,9,10,11,12,13,14,15,16,17,18,19,20]) (s' := [17,18]) kr kr rfl kr (Rk_1 rfl rfl (Rk_ld _ rfl rfl rfl kr (c87.ld (o := 1) kr rfl) kr Rk_nil)) (NS_v (.bool true) rfl kr rfl kr kr (NS_b 15 kr (NS_nil (L_not kr kr ?_))))
         refine L_nil ⟨rfl, ?_⟩
         refine D_l (l := [22,23,24,25,26,27,28,29,30,31,32,33,34]) kr kr (Rk_nw rfl kr (Rk_nw rfl kr Rk_nil)) (NS_b 13 kr (NS_nil ?_))
         exact ⟨by kernel_rfl, (Eq.trans (b := .bool (true)) kr (congrArg Value.bool (Eq.symm (show bad6 (⟨args, false, other, body, rest⟩ : Fo) x = (true) by unfold bad6; rw [q1]; simp)))), T96, c85⟩
        ·
         skip
         refine W_drawn kr (D_e (e := 4) (l := [0,1,2,3]) (s' := [0,1]) kr kr rfl kr Rk_nil (NS_b 1 kr (NS_ld _ rfl rfl kr kr kr (c87.ld (o := 1) kr rfl) (NS_b 1 kr (NS_ld _ rfl rfl kr kr kr (c85.ld (o := 2) kr rfl) (NS_nil ?_))))))
         have hq14 := nok_ok (s := x.nm) (h := h94)
         rw [q1] at hq14
         refine L_c rfl rfl kr (hq14) ?_
         rintro v97 h97 ⟨e97, t97⟩
         try dsimp only at e97 t97
         subst e97
         replace c85 := c85.ext t97
         replace c87 := c87.ext t97
         have T97 := T94.ext t97
         have N97 := T97.nx
         have M97 := t97.nx
         refine L_nil ⟨rfl, ?_⟩
         refine D_e (e := 21) (l := [5,6,7,8,9,10,11,12,13,14,15,16,17,18,19,20]) (s' := [17,18]) kr kr rfl kr (Rk_1 rfl rfl (Rk_ld _ rfl rfl rfl kr (c87.ld (o := 1) kr rfl) kr Rk_nil)) (NS_v (.bool false) rfl kr rfl kr kr (NS_b 2 kr (NS_ld _ rfl rfl kr kr kr (c87.ld (o := 1) kr rfl) (NS_b 3 kr (NS_ld _ rfl rfl kr kr kr (c85.ld (o := 2) kr rfl) (NS_v (.bool true) rfl kr rfl kr ((ev_bin (o := _) rfl kr kr (str_ne _ _ _ x.nm emp)).trans (by rw [decide_eq_false q2]; rfl)) (NS_b 7 kr (NS_nil (L_not kr kr ?_)))))))))
         refine L_nil ⟨rfl, ?_⟩
         refine D_l (l := [22,23,24,25,26,27,28,29,30,31,32,33,34]) kr kr (Rk_nw rfl kr (Rk_nw rfl kr Rk_nil)) (NS_b 13 kr (NS_nil ?_))
         exact ⟨by kernel_rfl, (Eq.trans (b := .bool (true)) kr (congrArg Value.bool (Eq.symm (show bad6 (⟨args, false, other, body, rest⟩ : Fo) x = (true) by unfold bad6; rw [q1, decide_eq_false q2]; simp)))), T97, c85⟩
        ·
         skip
         refine W_drawn kr (D_e (e := 4) (l := [0,1,2,3]) (s' := [0,1]) kr kr rfl kr Rk_nil (NS_b 1 kr (NS_ld _ rfl rfl kr kr kr (c87.ld (o := 1) kr rfl) (NS_b 1 kr (NS_ld _ rfl rfl kr kr kr (c85.ld (o := 2) kr rfl) (NS_nil ?_))))))
         have hq15 := nok_ok (s := x.nm) (h := h94)
         rw [q1] at hq15
         refine L_c rfl rfl kr (hq15) ?_
         rintro v98 h98 ⟨e98, t98⟩
         try dsimp only at e98 t98
         subst e98
         replace c85 := c85.ext t98
         replace c87 := c87.ext t98
         have T98 := T94.ext t98
         have N98 := T98.nx
         have M98 := t98.nx
         refine L_nil ⟨rfl, ?_⟩
         refine D_e (e := 21) (l := [5,6,7,8,9,10,11,12,13,14,15,16,17,18,19,20]) (s' := [17,18]) kr kr rfl kr (Rk_1 rfl rfl (Rk_ld _ rfl rfl rfl kr (c87.ld (o := 1) kr rfl) kr Rk_nil)) (NS_v (.bool false) rfl kr rfl kr kr (NS_b 2 kr (NS_ld _ rfl rfl kr kr kr (c87.ld (o := 1) kr rfl) (NS_b 9 kr (NS_ld _ rfl rfl kr kr kr (c87.ld (o := 2) kr rfl) (NS_b 1 kr (NS_ld _ rfl rfl kr kr kr (c85.ld (o := 3) kr rfl) (NS_nil ?_))))))))
         have hq16 := nok_ok (s := x.ot) (h := h98)
         rw [q3] at hq16
         refine L_want kr (L_c rfl rfl kr (hq16) ?_)
         rintro v99 h99 ⟨e99, t99⟩
         try dsimp only at e99 t99
         subst e99
         replace c85 := c85.ext t99
         replace c87 := c87.ext t99
         have T99 := T98.ext t99
         have N99 := T99.nx
         have M99 := t99.nx
         refine L_nil ⟨rfl, ?_⟩
         refine D_l (l := [22,23,24,25,26,27,28,29,30,31,32,33,34]) kr kr (Rk_1 rfl rfl (Rk_ld _ rfl rfl rfl kr (c87.ld (o := 2) kr rfl) kr Rk_nil)) (NS_v (.bool true) rfl kr rfl kr kr (NS_b 12 kr (NS_nil ?_)))
         exact ⟨by kernel_rfl, (Eq.trans (b := .bool (true)) kr (congrArg Value.bool (Eq.symm (show bad6 (⟨args, true, true, body, rest⟩ : Fo) x = (true) by unfold bad6; rw [q1, q3]; simp)))), T99, c85⟩
        ·
         skip
         refine W_drawn kr (D_e (e := 4) (l := [0,1,2,3]) (s' := [0,1]) kr kr rfl kr Rk_nil (NS_b 1 kr (NS_ld _ rfl rfl kr kr kr (c87.ld (o := 1) kr rfl) (NS_b 1 kr (NS_ld _ rfl rfl kr kr kr (c85.ld (o := 2) kr rfl) (NS_nil ?_))))))
         have hq17 := nok_ok (s := x.nm) (h := h94)
         rw [q1] at hq17
         refine L_c rfl rfl kr (hq17) ?_
         rintro v100 h100 ⟨e100, t100⟩
         try dsimp only at e100 t100
         subst e100
         replace c85 := c85.ext t100
         replace c87 := c87.ext t100
         have T100 := T94.ext t100
         have N100 := T100.nx
         have M100 := t100.nx
         refine L_nil ⟨rfl, ?_⟩
         refine D_e (e := 21) (l := [5,6,7,8,9,10,11,12,13,14,15,16,17,18,19,20]) (s' := [17,18]) kr kr rfl kr (Rk_1 rfl rfl (Rk_ld _ rfl rfl rfl kr (c87.ld (o := 1) kr rfl) kr Rk_nil)) (NS_v (.bool false) rfl kr rfl kr kr (NS_b 2 kr (NS_ld _ rfl rfl kr kr kr (c87.ld (o := 1) kr rfl) (NS_b 9 kr (NS_ld _ rfl rfl kr kr kr (c87.ld (o := 2) kr rfl) (NS_b 1 kr (NS_ld _ rfl rfl kr kr kr (c85.ld (o := 3) kr rfl) (NS_nil ?_))))))))
         have hq18 := nok_ok (s := x.ot) (h := h100)
         rw [q3] at hq18
         refine L_want kr (L_c rfl rfl kr (hq18) ?_)
         rintro v101 h101 ⟨e101, t101⟩
         try dsimp only at e101 t101
         subst e101
         replace c85 := c85.ext t101
         replace c87 := c87.ext t101
         have T101 := T100.ext t101
         have N101 := T101.nx
         have M101 := t101.nx
         refine L_nil ⟨rfl, ?_⟩
         refine D_l (l := [22,23,24,25,26,27,28,29,30,31,32,33,34]) kr kr (Rk_1 rfl rfl (Rk_ld _ rfl rfl rfl kr (c87.ld (o := 2) kr rfl) kr Rk_nil)) (NS_v (.bool true) rfl kr rfl kr kr (NS_b 12 kr (NS_nil ?_)))
         exact ⟨by kernel_rfl, (Eq.trans (b := .bool (true)) kr (congrArg Value.bool (Eq.symm (show bad6 (⟨args, true, false, body, rest⟩ : Fo) x = (true) by unfold bad6; rw [q1, q3]; simp)))), T101, c85⟩
        ·
         skip
         refine W_drawn kr (D_e (e := 4) (l := [0,1,2,3]) (s' := [0,1]) kr kr rfl kr Rk_nil (NS_b 1 kr (NS_ld _ rfl rfl kr kr kr (c87.ld (o := 1) kr rfl) (NS_b 1 kr (NS_ld _ rfl rfl kr kr kr (c85.ld (o := 2) kr rfl) (NS_nil ?_))))))
         have hq19 := nok_ok (s := x.nm) (h := h94)
         rw [q1] at hq19
         refine L_c rfl rfl kr (hq19) ?_
         rintro v102 h102 ⟨e102, t102⟩
         try dsimp only at e102 t102
         subst e102
         replace c85 := c85.ext t102
         replace c87 := c87.ext t102
         have T102 := T94.ext t102
         have N102 := T102.nx
         have M102 := t102.nx
         refine L_nil ⟨rfl, ?_⟩
         refine D_e (e := 21) (l := [5,6,7,8,9,10,11,12,13,14,15,16,17,18,19,20]) (s' := [17,18]) kr kr rfl kr (Rk_1 rfl rfl (Rk_ld _ rfl rfl rfl kr (c87.ld (o := 1) kr rfl) kr Rk_nil)) (NS_v (.bool false) rfl kr rfl kr kr (NS_b 2 kr (NS_ld _ rfl rfl kr kr kr (c87.ld (o := 1) kr rfl) (NS_b 9 kr (NS_ld _ rfl rfl kr kr kr (c87.ld (o := 2) kr rfl) (NS_b 1 kr (NS_ld _ rfl rfl kr kr kr (c85.ld (o := 3) kr rfl) (NS_nil ?_))))))))
         have hq20 := nok_ok (s := x.ot) (h := h102)
         rw [q3] at hq20
         refine L_want kr (L_c rfl rfl kr (hq20) ?_)
         rintro v103 h103 ⟨e103, t103⟩
         try dsimp only at e103 t103
         subst e103
         replace c85 := c85.ext t103
         replace c87 := c87.ext t103
         have T103 := T102.ext t103
         have N103 := T103.nx
         have M103 := t103.nx
         refine L_nil ⟨rfl, ?_⟩
         refine D_l (l := [22,23,24,25,26,27,28,29,30,31,32,33,34]) kr kr (Rk_1 rfl rfl (Rk_ld _ rfl rfl rfl kr (c87.ld (o := 2) kr rfl) kr Rk_nil)) (NS_v (.bool false) rfl kr rfl kr kr (NS_b 3 kr (NS_ld _ rfl rfl kr kr kr (c87.ld (o := 2) kr rfl) (NS_b 8 kr (NS_nil ?_)))))
         exact ⟨by kernel_rfl, (Eq.trans (b := .bool (false)) kr (congrArg Value.bool (Eq.symm (show bad6 (⟨args, true, true, body, rest⟩ : Fo) x = (false) by unfold bad6; rw [q1, q3]; simp)))), T103, c85⟩
        ·
         skip
         refine W_drawn kr (D_e (e := 4) (l := [0,1,2,3]) (s' := [0,1]) kr kr rfl kr Rk_nil (NS_b 1 kr (NS_ld _ rfl rfl kr kr kr (c87.ld (o := 1) kr rfl) (NS_b 1 kr (NS_ld _ rfl rfl kr kr kr (c85.ld (o := 2) kr rfl) (NS_nil ?_))))))
         have hq21 := nok_ok (s := x.nm) (h := h94)
         rw [q1] at hq21
         refine L_c rfl rfl kr (hq21) ?_
         rintro v104 h104 ⟨e104, t104⟩
         try dsimp only at e104 t104
         subst e104
         replace c85 := c85.ext t104
         replace c87 := c87.ext t104
         have T104 := T94.ext t104
         have N104 := T104.nx
         have M104 := t104.nx
         refine L_nil ⟨rfl, ?_⟩
         refine D_e (e := 21) (l := [5,6,7,8,9,10,11,12,13,14,15,16,17,18,19,20]) (s' := [17,18]) kr kr rfl kr (Rk_1 rfl rfl (Rk_ld _ rfl rfl rfl kr (c87.ld (o := 1) kr rfl) kr Rk_nil)) (NS_v (.bool false) rfl kr rfl kr kr (NS_b 2 kr (NS_ld _ rfl rfl kr kr kr (c87.ld (o := 1) kr rfl) (NS_b 9 kr (NS_ld _ rfl rfl kr kr kr (c87.ld (o := 2) kr rfl) (NS_b 1 kr (NS_ld _ rfl rfl kr kr kr (c85.ld (o := 3) kr rfl) (NS_nil ?_))))))))
         have hq22 := nok_ok (s := x.ot) (h := h104)
         rw [q3] at hq22
         refine L_want kr (L_c rfl rfl kr (hq22) ?_)
         rintro v105 h105 ⟨e105, t105⟩
         try dsimp only at e105 t105
         subst e105
         replace c85 := c85.ext t105
         replace c87 := c87.ext t105
         have T105 := T104.ext t105
         have N105 := T105.nx
         have M105 := t105.nx
         refine L_nil ⟨rfl, ?_⟩
         refine D_l (l := [22,23,24,25,26,27,28,29,30,31,32,33,34]) kr kr (Rk_1 rfl rfl (Rk_ld _ rfl rfl rfl kr (c87.ld (o := 2) kr rfl) kr Rk_nil)) (NS_v (.bool false) rfl kr rfl kr kr (NS_b 3 kr (NS_ld _ rfl rfl kr kr kr (c87.ld (o := 2) kr rfl) (NS_b 3 kr (NS_ld _ rfl rfl kr kr kr (c85.ld (o := 3) kr rfl) (NS_v (.bool (!decide (x.ot = emp))) rfl kr rfl kr (ev_bin (o := _) rfl kr kr (str_ne _ _ _ x.ot emp)) (NS_b 3 kr (NS_nil ?_))))))))
         exact ⟨by kernel_rfl, (Eq.trans (b := .bool (!decide (x.ot = emp))) kr (congrArg Value.bool (Eq.symm (show bad6 (⟨args, true, false, body, rest⟩ : Fo) x = (!decide (x.ot = emp)) by unfold bad6; rw [q1, q3]; simp)))), T105, c85⟩
        ·
         skip
         refine W_drawn kr (D_e (e := 4) (l := [0,1,2,3]) (s' := [0,1]) kr kr rfl kr Rk_nil (NS_b 1 kr (NS_ld _ rfl rfl kr kr kr (c87.ld (o := 1) kr rfl) (NS_b 1 kr (NS_ld _ rfl rfl kr kr kr (c85.ld (o := 2) kr rfl) (NS_nil ?_))))))
         have hq23 := nok_ok (s := x.nm) (h := h94)
         rw [q1] at hq23
         refine L_c rfl rfl kr (hq23) ?_
         rintro v106 h106 ⟨e106, t106⟩
         try dsimp only at e106 t106
         subst e106
         replace c85 := c85.ext t106
         replace c87 := c87.ext t106
         have T106 := T94.ext t106
         have N106 := T106.nx
         have M106 := t106.nx
         refine L_nil ⟨rfl, ?_⟩
         refine D_e (e := 21) (l := [5,6,7,8,9,10,11,12,13,14,15,16,17,18,19,20]) (s' := [17,18]) kr kr rfl kr (Rk_1 rfl rfl (Rk_ld _ rfl rfl rfl kr (c87.ld (o := 1) kr rfl) kr Rk_nil)) (NS_v (.bool false) rfl kr rfl kr kr (NS_b 2 kr (NS_ld _ rfl rfl kr kr kr (c87.ld (o := 1) kr rfl) (NS_b 3 kr (NS_ld _ rfl rfl kr kr kr (c85.ld (o := 2) kr rfl) (NS_v (.bool false) rfl kr rfl kr ((ev_bin (o := _) rfl kr kr (str_ne _ _ _ x.nm emp)).trans (by rw [decide_eq_true q2]; rfl)) (NS_b 4 kr (NS_ld _ rfl rfl kr kr kr (c87.ld (o := 2) kr rfl) (NS_b 1 kr (NS_ld _ rfl rfl kr kr kr (c85.ld (o := 3) kr rfl) (NS_nil ?_)))))))))))
         have hq24 := nok_ok (s := x.ot) (h := h106)
         rw [q3] at hq24
         refine L_want kr (L_c rfl rfl kr (hq24) ?_)
         rintro v107 h107 ⟨e107, t107⟩
         try dsimp only at e107 t107
         subst e107
         replace c85 := c85.ext t107
         replace c87 := c87.ext t107
         have T107 := T106.ext t107
         have N107 := T107.nx
         have M107 := t107.nx
         refine L_nil ⟨rfl, ?_⟩
         refine D_l (l := [22,23,24,25,26,27,28,29,30,31,32,33,34]) kr kr (Rk_1 rfl rfl (Rk_ld _ rfl rfl rfl kr (c87.ld (o := 2) kr rfl) kr Rk_nil)) (NS_v (.bool true) rfl kr rfl kr kr (NS_b 12 kr (NS_nil ?_)))
         exact ⟨by kernel_rfl, (Eq.trans (b := .bool (true)) kr (congrArg Value.bool (Eq.symm (show bad6 (⟨args, false, true, body, rest⟩ : Fo) x = (true) by unfold bad6; rw [q1, decide_eq_true q2, q3]; simp)))), T107, c85⟩
        ·
         skip
         refine W_drawn kr (D_e (e := 4) (l := [0,1,2,3]) (s' := [0,1]) kr kr rfl kr Rk_nil (NS_b 1 kr (NS_ld _ rfl rfl kr kr kr (c87.ld (o := 1) kr rfl) (NS_b 1 kr (NS_ld _ rfl rfl kr kr kr (c85.ld (o := 2) kr rfl) (NS_nil ?_))))))
         have hq25 := nok_ok (s := x.nm) (h := h94)
         rw [q1] at hq25
         refine L_c rfl rfl kr (hq25) ?_
         rintro v108 h108 ⟨e108, t108⟩
         try dsimp only at e108 t108
         subst e108
         replace c85 := c85.ext t108
         replace c87 := c87.ext t108
         have T108 := T94.ext t108
         have N108 := T108.nx
         have M108 := t108.nx
         refine L_nil ⟨rfl, ?_⟩
         refine D_e (e := 21) (l := [5,6,7,8,9,10,11,12,13,14,15,16,17,18,19,20]) (s' := [17,18]) kr kr rfl kr (Rk_1 rfl rfl (Rk_ld _ rfl rfl rfl kr (c87.ld (o := 1) kr rfl) kr Rk_nil)) (NS_v (.bool false) rfl kr rfl kr kr (NS_b 2 kr (NS_ld _ rfl rfl kr kr kr (c87.ld (o := 1) kr rfl) (NS_b 3 kr (NS_ld _ rfl rfl kr kr kr (c85.ld (o := 2) kr rfl) (NS_v (.bool false) rfl kr rfl kr ((ev_bin (o := _) rfl kr kr (str_ne _ _ _ x.nm emp)).trans (by rw [decide_eq_true q2]; rfl)) (NS_b 4 kr (NS_ld _ rfl rfl kr kr kr (c87.ld (o := 2) kr rfl) (NS_b 1 kr (NS_ld _ rfl rfl kr kr kr (c85.ld (o := 3) kr rfl) (NS_nil ?_)))))))))))
         have hq26 := nok_ok (s := x.ot) (h := h108)
         rw [q3] at hq26
         refine L_want kr (L_c rfl rfl kr (hq26) ?_)
         rintro v109 h109 ⟨e109, t109⟩
         try dsimp only at e109 t109
         subst e109
         replace c85 := c85.ext t109
         replace c87 := c87.ext t109
         have T109 := T108.ext t109
         have N109 := T109.nx
         have M109 := t109.nx
         refine L_nil ⟨rfl, ?_⟩
         refine D_l (l := [22,23,24,25,26,27,28,29,30,31,32,33,34]) kr kr (Rk_1 rfl rfl (Rk_ld _ rfl rfl rfl kr (c87.ld (o := 2) kr rfl) kr Rk_nil)) (NS_v (.bool true) rfl kr rfl kr kr (NS_b 12 kr (NS_nil ?_)))
         exact ⟨by kernel_rfl, (Eq.trans (b := .bool (true)) kr (congrArg Value.bool (Eq.symm (show bad6 (⟨args, false, false, body, rest⟩ : Fo) x = (true) by unfold bad6; rw [q1, decide_eq_true q2, q3]; simp)))), T109, c85⟩
        ·
         skip
         refine W_drawn kr (D_e (e := 4) (l := [0,1,2,3]) (s' := [0,1]) kr kr rfl kr Rk_nil (NS_b 1 kr (NS_ld _ rfl rfl kr kr kr (c87.ld (o := 1) kr rfl) (NS_b 1 kr (NS_ld _ rfl rfl kr kr kr (c85.ld (o := 2) kr rfl) (NS_nil ?_))))))
         have hq27 := nok_ok (s := x.nm) (h := h94)
         rw [q1] at hq27
         refine L_c rfl rfl kr (hq27) ?_
         rintro v110 h110 ⟨e110, t110⟩
         try dsimp only at e110 t110
         subst e110
         replace c85 := c85.ext t110
         replace c87 := c87.ext t110
         have T110 := T94.ext t110
         have N110 := T110.nx
         have M110 := t110.nx
         refine L_nil ⟨rfl, ?_⟩
         refine D_e (e := 21) (l := [5,6,7,8,9,10,11,12,13,14,15,16,17,18,19,20]) (s' := [17,18]) kr kr rfl kr (Rk_1 rfl rfl (Rk_ld _ rfl rfl rfl kr (c87.ld (o := 1) kr rfl) kr Rk_nil)) (NS_v (.bool false) rfl kr rfl kr kr (NS_b 2 kr (NS_ld _ rfl rfl kr kr kr (c87.ld (o := 1) kr rfl) (NS_b 3 kr (NS_ld _ rfl rfl kr kr kr (c85.ld (o := 2) kr rfl) (NS_v (.bool false) rfl kr rfl kr ((ev_bin (o := _) rfl kr kr (str_ne _ _ _ x.nm emp)).trans (by rw [decide_eq_true q2]; rfl)) (NS_b 4 kr (NS_ld _ rfl rfl kr kr kr (c87.ld (o := 2) kr rfl) (NS_b 1 kr (NS_ld _ rfl rfl kr kr kr (c85.ld (o := 3) kr rfl) (NS_nil ?_)))))))))))
         have hq28 := nok_ok (s := x.ot) (h := h110)
         rw [q3] at hq28
         refine L_want kr (L_c rfl rfl kr (hq28) ?_)
         rintro v111 h111 ⟨e111, t111⟩
         try dsimp only at e111 t111
         subst e111
         replace c85 := c85.ext t111
         replace c87 := c87.ext t111
         have T111 := T110.ext t111
         have N111 := T111.nx
         have M111 := t111.nx
         refine L_nil ⟨rfl, ?_⟩
         refine D_l (l := [22,23,24,25,26,27,28,29,30,31,32,33,34]) kr kr (Rk_1 rfl rfl (Rk_ld _ rfl rfl rfl kr (c87.ld (o := 2) kr rfl) kr Rk_nil)) (NS_v (.bool false) rfl kr rfl kr kr (NS_b 3 kr (NS_ld _ rfl rfl kr kr kr (c87.ld (o := 2) kr rfl) (NS_b 8 kr (NS_nil ?_)))))
         exact ⟨by kernel_rfl, (Eq.trans (b := .bool (false)) kr (congrArg Value.bool (Eq.symm (show bad6 (⟨args, false, true, body, rest⟩ : Fo) x = (false) by unfold bad6; rw [q1, decide_eq_true q2, q3]; simp)))), T111, c85⟩
        ·
         skip
         refine W_drawn kr (D_e (e := 4) (l := [0,1,2,3]) (s' := [0,1]) kr kr rfl kr Rk_nil (NS_b 1 kr (NS_ld _ rfl rfl kr kr kr (c87.ld (o := 1) kr rfl) (NS_b 1 kr (NS_ld _ rfl rfl kr kr kr (c85.ld (o := 2) kr rfl) (NS_nil ?_))))))
         have hq29 := nok_ok (s := x.nm) (h := h94)
         rw [q1] at hq29
         refine L_c rfl rfl kr (hq29) ?_
         rintro v112 h112 ⟨e112, t112⟩
         try dsimp only at e112 t112
         subst e112
         replace c85 := c85.ext t112
         replace c87 := c87.ext t112
         have T112 := T94.ext t112
         have N112 := T112.nx
         have M112 := t112.nx
         refine L_nil ⟨rfl, ?_⟩
         refine D_e (e := 21) (l := [5,6,7,8,9,10,11,12,13,14,15,16,17,18,19,20]) (s' := [17,18]) kr kr rfl kr (Rk_1 rfl rfl (Rk_ld _ rfl rfl rfl kr (c87.ld (o := 1) kr rfl) kr Rk_nil)) (NS_v (.bool false) rfl kr rfl kr kr (NS_b 2 kr (NS_ld _ rfl rfl kr kr kr (c87.ld (o := 1) kr rfl) (NS_b 3 kr (NS_ld _ rfl rfl kr kr kr (c85.ld (o := 2) kr rfl) (NS_v (.bool false) rfl kr rfl kr ((ev_bin (o := _) rfl kr kr (str_ne _ _ _ x.nm emp)).trans (by rw [decide_eq_true q2]; rfl)) (NS_b 4 kr (NS_ld _ rfl rfl kr kr kr (c87.ld (o := 2) kr rfl) (NS_b 1 kr (NS_ld _ rfl rfl kr kr kr (c85.ld (o := 3) kr rfl) (NS_nil ?_)))))))))))
         have hq30 := nok_ok (s := x.ot) (h := h112)
         rw [q3] at hq30
         refine L_want kr (L_c rfl rfl kr (hq30) ?_)
         rintro v113 h113 ⟨e113, t113⟩
         try dsimp only at e113 t113
         subst e113
         replace c85 := c85.ext t113
         replace c87 := c87.ext t113
         have T113 := T112.ext t113
         have N113 := T113.nx
         have M113 := t113.nx
         refine L_nil ⟨rfl, ?_⟩
         refine D_l (l := [22,23,24,25,26,27,28,29,30,31,32,33,34]) kr kr (Rk_1 rfl rfl (Rk_ld _ rfl rfl rfl kr (c87.ld (o := 2) kr rfl) kr Rk_nil)) (NS_v (.bool false) rfl kr rfl kr kr (NS_b 3 kr (NS_ld _ rfl rfl kr kr kr (c87.ld (o := 2) kr rfl) (NS_b 3 kr (NS_ld _ rfl rfl kr kr kr (c85.ld (o := 3) kr rfl) (NS_v (.bool (!decide (x.ot = emp))) rfl kr rfl kr (ev_bin (o := _) rfl kr kr (str_ne _ _ _ x.ot emp)) (NS_b 3 kr (NS_nil ?_))))))))
         exact ⟨by kernel_rfl, (Eq.trans (b := .bool (!decide (x.ot = emp))) kr (congrArg Value.bool (Eq.symm (show bad6 (⟨args, false, false, body, rest⟩ : Fo) x = (!decide (x.ot = emp)) by unfold bad6; rw [q1, decide_eq_true q2, q3]; simp)))), T113, c85⟩
       ·
        rintro fr114 h114 ⟨y114_2, y114_71, T114, c85⟩
        have N114 := T114.nx
        have B114_t2 := c85.lt
        refine W_set (k := 2) y114_2 (W_set (k := 71) y114_71 ?_)
        refine W_cond (bad6 (⟨args, name, other, body, rest⟩ : Fo) x) kr (fun hb => ?_) (fun hb => ?_)
        ·
         have hr : fm nok pl x = false := by rw [fm_some hf, hb]; simp
         refine W_sg 1 kr (L_nil (W_ret ?_))
         refine rr ?_
         refine done_of (v := .bool false) (.inl rfl) kr ?_
         rw [hr]
         exact ⟨rfl, T114⟩
        ·
         have g6 := hb
         refine W_skip (W_sg 1 kr (L_nil ?_))
         refine W_seq_cut (fun fr hh => fr 2 = ptr h.next ∧ fr 7 = nv (inner x.op : Int) ∧ Go.Arm.Sm Nix h hh ∧ Cl hh (h.next) [nv x.op, nv x.val, .string x.nm, .string x.ot, .slice p1 x.a.length c1, .slice p2 x.b.length c2, .slice p3 x.e.length c3]) ?_ ?_
         ·
          refine W_seq ?_
          have h3 : x.op = 3 ∨ x.op = 5 ∨ (x.op ≠ 3 ∧ x.op ≠ 5) := by omega
          rcases h3 with q1 | q1 | ⟨q1, q2⟩
          ·
           have q9 : inner x.op = 2 := by unfold inner; rw [if_pos (by omega)]
           refine W_rg 1 kr (L_ld _ rfl rfl kr (c85.ld (o := 0) kr rfl) (L_i (x.op) (3) (.bool true) rfl rfl kr kr rfl (by first | (simp; omega) | (simp [*]; done)) (L_g 5 kr (L_nil (W_cT kr (W_rg 1 kr (L_nil ?_)))))))
           exact ⟨by kernel_rfl, (by show _ = nv ((inner x.op : Nat) : Int); rw [q9]; kernel_rfl), T114, c85⟩
          ·
           have q9 : inner x.op = 2 := by unfold inner; rw [if_pos (by omega)]
           refine W_rg 1 kr (L_ld _ rfl rfl kr (c85.ld (o := 0) kr rfl) (L_i (x.op) (3) (.bool false) rfl rfl kr kr rfl (by first | (simp; omega) | (simp [*]; done)) (L_g 2 kr (L_want kr (L_ld _ rfl rfl kr (c85.ld (o := 0) kr rfl) (L_want kr (L_i (x.op) (5) (.bool true) rfl rfl kr kr rfl (by first | (simp; omega) | (simp [*]; done)) (L_g 1 kr (L_nil (W_cT kr ?_))))))))))
           refine W_rg 1 kr (L_nil ?_)
           exact ⟨by kernel_rfl, (by show _ = nv ((inner x.op : Nat) : Int); rw [q9]; kernel_rfl), T114, c85⟩
          ·
           have q9 : inner x.op = 1 := by unfold inner; rw [if_neg (by omega)]
           refine W_rg 1 kr (L_ld _ rfl rfl kr (c85.ld (o := 0) kr rfl) (L_i (x.op) (3) (.bool false) rfl rfl kr kr rfl (by first | (simp; omega) | (simp [*]; done)) (L_g 2 kr (L_want kr (L_ld _ rfl rfl kr (c85.ld (o := 0) kr rfl) (L_want kr (L_i (x.op) (5) (.bool false) rfl rfl kr kr rfl (by first | (simp; omega) | (simp [*]; done)) (L_g 1 kr (L_nil (W_cF kr ?_))))))))))
           refine W_skip ?_
           exact ⟨by kernel_rfl, (by show _ = nv ((inner x.op : Nat) : Int); rw [q9]; kernel_rfl), T114, c85⟩
         ·
          rintro fr9 h9k ⟨y9_2, y9_7, T9k, c85⟩
          have N9 := T9k.nx
          have B9 := c85.lt
          refine W_set (k := 2) y9_2 (W_set (k := 7) y9_7 (W_seq (W_seq (W_region (L_ld _ rfl rfl kr (Cl.allN (n := 7) c85 rfl kr) (L_c rfl rfl kr (children_ok (x := x) (p1 := p1) (p2 := p2) (p3 := p3) (n1 := x.a.length) (n2 := x.b.length) (n3 := x.e.length) (c1 := c1) (c2 := c2) (c3 := c3)) ?_))))))
          rintro v115 h115 ⟨e115, t115⟩
          try dsimp only at e115 t115
          subst e115
          have T115 := T9k.ext t115
          have N115 := T115.nx
          have M115 := t115.nx
          refine L_g 1 kr (L_nil (W_block (W_unroll (W_sg 1 kr (L_nil (W_seq (W_cT kr (W_skip (W_seq ?_)))))))))
          refine W_block (W_sg 4 kr (L_nil (W_sg 1 kr (L_nwc [nv 0] .ptr rfl rfl kr fun h116 c116 t116 n116 => ?_))))
          have T116 := T115.ext t116
          have N116 := T116.nx
          obtain ⟨h117, e117, d117, t117, n117⟩ := c116.s1 71 0 (nv (inner x.op : Int))
          replace d117 : Cl h117 (h115.next) [nv (inner x.op : Int)] := d117
          replace c116 := d117
          have T117 := T116.tr t117
          have N117 := T117.nx
          refine L_st _ rfl rfl rfl kr kr (e117) (L_nil (W_seq (W_sg 2 kr (L_nil (W_cF kr (W_skip (W_seq (W_region (L_g 2 kr ?_)))))))))
          have hcf0 := cfn_ok (g := 45) (ca := [ptr h115.next]) (pr := fun y => !fm nok (inner x.op) y) (Ha.ext T117) (fun _ _ => by kernel_rfl) (fun y c hy hc hh tt => formed1_ok (NdC.ext tt y c hc) (c116.ext tt) (fun hh2 tt2 => by
            obtain ⟨va, vb, ve, rfl, g1, g2, g3⟩ := hc.is
            exact ih y (inner x.op) (by have := sz_mem hy; have := sz_is x; omega) (g1.ext (tt.ext tt2)) (g2.ext (tt.ext tt2)) (g3.ext (tt.ext tt2))))
          refine L_c rfl rfl kr (hcf0) ?_
          rintro v118 h118 ⟨e118, t118⟩
          try dsimp only at e118 t118
          subst e118
          have T118 := T117.ext t118
          have N118 := T118.nx
          have M118 := t118.nx
          refine L_nil ?_
          refine W_cond ((x.a.any fun y => !fm nok (inner x.op) y)) kr (fun hb => ?_) (fun hb => ?_)
          ·
           have hr : fm nok pl x = false := by rw [fm_some hf, fma_any, fma_any, fma_any, hb]; simp
           refine W_sg 1 kr (L_nil (W_ret ?_))
           refine rr ?_
           refine done_of (v := .bool false) (.inl rfl) kr ?_
           rw [hr]
           exact ⟨rfl, T118⟩
          ·
           have ga0 := hb
           refine W_skip (W_rg 2 kr (L_nil (W_unroll (W_sg 1 kr (L_nil (W_seq (W_cT kr (W_skip ?_))))))))
           refine W_seq (W_block (W_sg 4 kr (L_nil (W_sg 1 kr (L_nwc [nv 0] .ptr rfl rfl kr fun h119 c119 t119 n119 => ?_)))))
           have T119 := T118.ext t119
           have N119 := T119.nx
           obtain ⟨h120, e120, d120, t120, n120⟩ := c119.s1 71 0 (nv (inner x.op : Int))
           replace d120 : Cl h120 (h118.next) [nv (inner x.op : Int)] := d120
           replace c119 := d120
           have T120 := T119.tr t120
           have N120 := T120.nx
           refine L_st _ rfl rfl rfl kr kr (e120) (L_nil (W_seq (W_sg 2 kr (L_nil (W_cT kr (W_region ?_))))))
           obtain ⟨h121, e121, d121, t121, n121⟩ := c119.s1 71 0 (nv ((0 : Nat) : Int))
           replace d121 : Cl h121 (h118.next) [nv ((0 : Nat) : Int)] := d121
           replace c119 := d121
           have T121 := T120.tr t121
           have N121 := T121.nx
           refine L_st _ rfl rfl rfl kr kr (e121) (L_nil (W_seq (W_region (L_g 2 kr ?_))))
           have hcf1 := cfn_ok (g := 45) (ca := [ptr h118.next]) (pr := fun y => !fm nok (0) y) (Hb.ext T121) (fun _ _ => by kernel_rfl) (fun y c hy hc hh tt => formed1_ok (NdC.ext tt y c hc) (c119.ext tt) (fun hh2 tt2 => by
             obtain ⟨va, vb, ve, rfl, g1, g2, g3⟩ := hc.is
             exact ih y (0) (by have := sz_mem hy; have := sz_is x; omega) (g1.ext (tt.ext tt2)) (g2.ext (tt.ext tt2)) (g3.ext (tt.ext tt2))))
           refine L_c rfl rfl kr (hcf1) ?_
           rintro v122 h122 ⟨e122, t122⟩
           try dsimp only at e122 t122
           subst e122
           have T122 := T121.ext t122
           have N122 := T122.nx
           have M122 := t122.nx
           refine L_nil ?_
           refine W_cond ((x.b.any fun y => !fm nok (0) y)) kr (fun hb => ?_) (fun hb => ?_)
           ·
            have hr : fm nok pl x = false := by rw [fm_some hf, fma_any, fma_any, fma_any, hb]; simp
            refine W_sg 1 kr (L_nil (W_ret ?_))
            refine rr ?_
            refine done_of (v := .bool false) (.inl rfl) kr ?_
            rw [hr]
            exact ⟨rfl, T122⟩
           ·
            have ga1 := hb
            refine W_skip (W_rg 2 kr (L_nil (W_unroll (W_sg 1 kr (L_nil (W_seq (W_cT kr (W_skip ?_))))))))
            refine W_seq (W_block (W_sg 4 kr (L_nil (W_sg 1 kr (L_nwc [nv 0] .ptr rfl rfl kr fun h123 c123 t123 n123 => ?_)))))
            have T123 := T122.ext t123
            have N123 := T123.nx
            obtain ⟨h124, e124, d124, t124, n124⟩ := c123.s1 71 0 (nv (inner x.op : Int))
            replace d124 : Cl h124 (h122.next) [nv (inner x.op : Int)] := d124
            replace c123 := d124
            have T124 := T123.tr t124
            have N124 := T124.nx
            refine L_st _ rfl rfl rfl kr kr (e124) (L_nil (W_seq (W_sg 2 kr (L_nil (W_cT kr (W_region ?_))))))
            obtain ⟨h125, e125, d125, t125, n125⟩ := c123.s1 71 0 (nv ((0 : Nat) : Int))
            replace d125 : Cl h125 (h122.next) [nv ((0 : Nat) : Int)] := d125
            replace c123 := d125
            have T125 := T124.tr t125
            have N125 := T125.nx
            refine L_st _ rfl rfl rfl kr kr (e125) (L_nil (W_seq (W_region (L_g 2 kr ?_))))
            have hcf2 := cfn_ok (g := 45) (ca := [ptr h122.next]) (pr := fun y => !fm nok (0) y) (He.ext T125) (fun _ _ => by kernel_rfl) (fun y c hy hc hh tt => formed1_ok (NdC.ext tt y c hc) (c123.ext tt) (fun hh2 tt2 => by
              obtain ⟨va, vb, ve, rfl, g1, g2, g3⟩ := hc.is
              exact ih y (0) (by have := sz_mem hy; have := sz_is x; omega) (g1.ext (tt.ext tt2)) (g2.ext (tt.ext tt2)) (g3.ext (tt.ext tt2))))
            refine L_c rfl rfl kr (hcf2) ?_
            rintro v126 h126 ⟨e126, t126⟩
            try dsimp only at e126 t126
            subst e126
            have T126 := T125.ext t126
            have N126 := T126.nx
            have M126 := t126.nx
            refine L_nil ?_
            refine W_cond ((x.e.any fun y => !fm nok (0) y)) kr (fun hb => ?_) (fun hb => ?_)
            ·
             have hr : fm nok pl x = false := by rw [fm_some hf, fma_any, fma_any, fma_any, hb]; simp
             refine W_sg 1 kr (L_nil (W_ret ?_))
             refine rr ?_
             refine done_of (v := .bool false) (.inl rfl) kr ?_
             rw [hr]
             exact ⟨rfl, T126⟩
            ·
             have ga2 := hb
             refine W_skip (W_rg 2 kr (L_nil (W_unroll (W_sg 1 kr (L_nil (W_seq (W_cF kr (W_exit ?_))))))))
             refine rx ?_
             refine exit_here (W_sg 1 kr (L_nil (W_ret ?_)))
             refine rr ?_
             have hr : fm nok pl x = true := by rw [fm_some hf, fma_any, fma_any, fma_any, g2, g4, g6, ga0, ga1, ga2]; rfl
             refine done_of (v := .bool true) (.inl rfl) kr ?_
             rw [hr]
             exact ⟨rfl, T126⟩
end
end Go.Proofs.YtlgakeilplnfmaaGreatDoor
namespace Go.Proofs.YtlgakeilplnfmaaGreatDoor
noncomputable section
open Go Go.X Go.Arm Go.Mt Go.Lj
theorem deep1_ok {F : Nat → Prop} {h : AH} {x : Nd} {d b : Nat} {c : List Value} (hd8 : d ≤ 8) (hc : NdC F h x c) (hb : Cl h b [nv (d : Int)])
  (ih0 : ∀ d', d = d' + 1 → ∀ (l : List Nd), (l = x.a ∨ l = x.b ∨ l = x.e) → ∀ {h' v}, NdS F h' v l → Arm.Calls Tryz.prog 20 [v, nv (d' : Int)] h' (fun r => r.1 = .bool (dpl d' l) ∧ Go.Arm.Sm Nix h' r.2)) :
  Arm.Calls Tryz.prog 39 [.agg ⟨c⟩, ptr b] h (fun r => r.1 = .bool (dp1 d x) ∧ Go.Arm.Sm Nix h r.2) := by
 obtain ⟨va, vb, ve, rfl, Ha, Hb, He⟩ := hc.is
 cases d with
 | zero =>
  rw [dp1_z]
  refine Calls_W 27 Tryz.f39 ?_
  have T0 : Sm Nix h h := .refl
  refine W_seq (W_region (L_nwc [nv x.op, nv x.val, .string x.nm, .string x.ot, va, vb, ve] .ptr rfl rfl kr fun h127 c127 t127 n127 => ?_))
  have T127 := T0.ext t127
  have N127 := T127.nx
  refine L_g 1 kr (L_nil (W_seq (W_region (L_ld _ rfl rfl kr ((hb.ext T127).ld (o := 0) kr rfl) (L_i (((0 : Nat) : Int)) (0) (.bool true) rfl rfl kr kr rfl (by first | (simp; done) | (simp; omega)) (L_g 22 kr (L_nil (W_ret ?_))))))))
  refine rr ?_
  refine done_of (v := .bool true) (.inl rfl) kr ?_
  exact ⟨rfl, T127⟩
 | succ d =>
  have ih : ∀ (l : List Nd), (l = x.a ∨ l = x.b ∨ l = x.e) → ∀ {h' v}, NdS F h' v l → Arm.Calls Tryz.prog 20 [v, nv (d : Int)] h' (fun r => r.1 = .bool (dpl d l) ∧ Go.Arm.Sm Nix h' r.2) := ih0 d rfl
  have h4 : dpl d x.a = true ∨ (dpl d x.a = false ∧ dpl d x.b = true) ∨ (dpl d x.a = false ∧ dpl d x.b = false) := by cases dpl d x.a <;> cases dpl d x.b <;> simp
  refine Calls_W 27 Tryz.f39 ?_
  have T0 : Sm Nix h h := .refl
  refine W_seq (W_region (L_nwc [nv x.op, nv x.val, .string x.nm, .string x.ot, va, vb, ve] .ptr rfl rfl kr fun h128 c128 t128 n128 => ?_))
  have T128 := T0.ext t128
  have N128 := T128.nx
  refine L_g 1 kr (L_nil (W_seq ?_))
  rcases h4 with q1 | ⟨q1, q2⟩ | ⟨q1, q2⟩
  ·
   refine W_region (L_ld _ rfl rfl kr ((hb.ext T128).ld (o := 0) kr rfl) (L_i (((d + 1 : Nat) : Int)) (0) (.bool false) rfl rfl kr kr rfl (by simp; omega) (L_g 2 kr (L_want kr (L_ld _ rfl rfl kr (c128.ld (o := 4) kr rfl) (L_want kr (L_ld _ rfl rfl kr ((hb.ext T128).ld (o := 0) kr rfl) (L_want kr (L_i (((d + 1 : Nat) : Int)) (1) (nv (d : Int)) rfl rfl kr kr rfl ((by have := wrap_id (a := (d : Int)) (by omega) (by omega); rw [← this]; congr 2; omega)) ?_)))))))))
   have hda := ih x.a (.inl rfl) (Ha.ext T128)
   rw [q1] at hda
   refine L_want kr (L_c rfl rfl kr (hda) ?_)
   rintro v129 h129 ⟨e129, t129⟩
   try dsimp only at e129 t129
   subst e129
   have T129 := T128.ext t129
   have N129 := T129.nx
   have M129 := t129.nx
   refine L_g 16 kr (L_nil (W_ret ?_))
   refine rr ?_
   have hr : dp1 (d + 1) x = true := by rw [dp1_s]; rw [q1]; rfl
   rw [hr]
   refine done_of (v := .bool true) (.inl rfl) kr ?_
   exact ⟨rfl, T129⟩
  ·
   refine W_region (L_ld _ rfl rfl kr ((hb.ext T128).ld (o := 0) kr rfl) (L_i (((d + 1 : Nat) : Int)) (0) (.bool false) rfl rfl kr kr rfl (by simp; omega) (L_g 2 kr (L_want kr (L_ld _ rfl rfl kr (c128.ld (o := 4) kr rfl) (L_want kr (L_ld _ rfl rfl kr ((hb.ext T128).ld (o := 0) kr rfl) (L_want kr (L_i (((d + 1 : Nat) : Int)) (1) (nv (d : Int)) rfl rfl kr kr rfl ((by have := wrap_id (a := (d : Int)) (by omega) (by omega); rw [← this]; congr 2; omega)) ?_)))))))))
   have hda := ih x.a (.inl rfl) (Ha.ext T128)
   rw [q1] at hda
   refine L_want kr (L_c rfl rfl kr (hda) ?_)
   rintro v130 h130 ⟨e130, t130⟩
   try dsimp only at e130 t130
   subst e130
   replace c128 := c128.ext t130
   have T130 := T128.ext t130
   have N130 := T130.nx
   have M130 := t130.nx
   refine L_g 3 kr (L_want kr (L_ld _ rfl rfl kr (c128.ld (o := 5) kr rfl) (L_want kr (L_ld _ rfl rfl kr ((hb.ext T130).ld (o := 0) kr rfl) (L_want kr (L_i (((d + 1 : Nat) : Int)) (1) (nv (d : Int)) rfl rfl kr kr rfl ((by have := wrap_id (a := (d : Int)) (by omega) (by omega); rw [← this]; congr 2; omega)) ?_))))))
   have hdb := ih x.b (.inr (.inl rfl)) (Hb.ext T130)
   rw [q2] at hdb
   refine L_want kr (L_c rfl rfl kr (hdb) ?_)
   rintro v131 h131 ⟨e131, t131⟩
   try dsimp only at e131 t131
   subst e131
   have T131 := T130.ext t131
   have N131 := T131.nx
   have M131 := t131.nx
   refine L_g 9 kr (L_nil (W_ret ?_))
   refine rr ?_
   have hr : dp1 (d + 1) x = true := by rw [dp1_s]; rw [q1, q2]; rfl
   rw [hr]
   refine done_of (v := .bool true) (.inl rfl) kr ?_
   exact ⟨rfl, T131⟩
  ·
   refine W_region (L_ld _ rfl rfl kr ((hb.ext T128).ld (o := 0) kr rfl) (L_i (((d + 1 : Nat) : Int)) (0) (.bool false) rfl rfl kr kr rfl (by simp; omega) (L_g 2 kr (L_want kr (L_ld _ rfl rfl kr (c128.ld (o := 4) kr rfl) (L_want kr (L_ld _ rfl rfl kr ((hb.ext T128).ld (o := 0) kr rfl) (L_want kr (L_i (((d + 1 : Nat) : Int)) (1) (nv (d : Int)) rfl rfl kr kr rfl ((by have := wrap_id (a := (d : Int)) (by omega) (by omega); rw [← this]; congr 2; omega)) ?_)))))))))
   have hda := ih x.a (.inl rfl) (Ha.ext T128)
   rw [q1] at hda
   refine L_want kr (L_c rfl rfl kr (hda) ?_)
   rintro v132 h132 ⟨e132, t132⟩
   try dsimp only at e132 t132
   subst e132
   replace c128 := c128.ext t132
   have T132 := T128.ext t132
   have N132 := T132.nx
   have M132 := t132.nx
   refine L_g 3 kr (L_want kr (L_ld _ rfl rfl kr (c128.ld (o := 5) kr rfl) (L_want kr (L_ld _ rfl rfl kr ((hb.ext T132).ld (o := 0) kr rfl) (L_want kr (L_i (((d + 1 : Nat) : Int)) (1) (nv (d : Int)) rfl rfl kr kr rfl ((by have := wrap_id (a := (d : Int)) (by omega) (by omega); rw [← this]; congr 2; omega)) ?_))))))
   have hdb := ih x.b (.inr (.inl rfl)) (Hb.ext T132)
   rw [q2] at hdb
   refine L_want kr (L_c rfl rfl kr (hdb) ?_)
   rintro v133 h133 ⟨e133, t133⟩
   try dsimp only at e133 t133
   subst e133
   replace c128 := c128.ext t133
   have T133 := T132.ext t133
   have N133 := T133.nx
   have M133 := t133.nx
   refine L_g 3 kr (L_want kr (L_ld _ rfl rfl kr (c128.ld (o := 6) kr rfl) (L_want kr (L_ld _ rfl rfl kr ((hb.ext T133).ld (o := 0) kr rfl) (L_want kr (L_i (((d + 1 : Nat) : Int)) (1) (nv (d : Int)) rfl rfl kr kr rfl ((by have := wrap_id (a := (d : Int)) (by omega) (by omega); rw [← this]; congr 2; omega)) (L_want kr (L_c rfl rfl kr (ih x.e (.inr (.inr rfl)) (He.ext T133)) ?_))))))))
   rintro v134 h134 ⟨e134, t134⟩
   try dsimp only at e134 t134
   subst e134
   have T134 := T133.ext t134
   have N134 := T134.nx
   have M134 := t134.nx
   refine L_g 2 kr (L_nil (W_ret ?_))
   refine rr ?_
   have hr : dp1 (d + 1) x = dpl d x.e := by rw [dp1_s, q1, q2]; rfl
   rw [hr]
   refine done_of (v := .bool (dpl d x.e)) (.inl rfl) kr ?_
   exact ⟨rfl, T134⟩
theorem deep_ok : ∀ (N : Nat) (l : List Nd) (d : Nat) {F : Nat → Prop} {h : AH} {v : Value} (_ : szl l < N) (_ : d ≤ 8) (_ : NdS F h v l),
  Arm.Calls Tryz.prog 20 [v, nv (d : Int)] h (fun r => r.1 = .bool (dpl d l) ∧ Go.Arm.Sm Nix h r.2) := by
 intro N
 induction N with
 | zero => intro l d F h v hs _ _; omega
 | succ N ih =>
  intro l d F h v hs hd8 H
  rw [dpl_any]
  refine Calls_W 8 Tryz.f20 ?_
  have T0 : Sm Nix h h := .refl
  refine W_seq (W_region (L_nwc [nv (d : Int)] .ptr rfl rfl kr fun h135 c135 t135 n135 => ?_))
  have T135 := T0.ext t135
  have N135 := T135.nx
  refine L_g 1 kr (L_nil (W_seq (W_region (L_g 2 kr ?_))))
  have hcf := cfn_ok (g := 39) (ca := [ptr h.next]) (pr := dp1 d) (H.ext T135) (fun _ _ => by kernel_rfl) (fun y c hy hc hh tt => deep1_ok hd8 (NdC.ext tt y c hc) (c135.ext tt) (fun d' hd' m hm h' v' Hm => by
   refine ih m d' ?_ (by omega) Hm
   have := sz_mem hy; have := sz_is y
   rcases hm with rfl | rfl | rfl <;> omega))
  refine L_c rfl rfl kr (hcf) ?_
  rintro v136 h136 ⟨e136, t136⟩
  try dsimp only at e136 t136
  subst e136
  have T136 := T135.ext t136
  have N136 := T136.nx
  have M136 := t136.nx
  refine L_g 1 kr (L_nil (W_ret ?_))
  refine rr ?_
  refine done_of (v := .bool (l.any (dp1 d))) (.inl rfl) kr ?_
  exact ⟨rfl, T136⟩
theorem count_ok : ∀ (N : Nat) (l : List Nd) {F : Nat → Prop} {h : AH} {v : Value} (_ : szl l < N) (_ : NdS F h v l),
  Arm.Calls Tryz.prog 6 [v, nv 300] h (fun r => r.1 = nv (cnl cwr 300 0 l) ∧ Go.Arm.Sm Nix h r.2) := by
 intro N
 induction N with
 | zero => intro l F h v hs _; omega
 | succ N ih =>
  intro l F h v hs H
  obtain ⟨cs, H1, H2, _, H3⟩ := H
  refine Calls_W 37 Tryz.f6 ?_
  have T0 : Sm Nix h h := .refl
  refine W_sg 1 kr (L_nil (W_sg 1 kr (L_nil (W_seq (W_seq (W_region (L_g 1 kr ?_)))))))
  refine L_ln _ rfl rfl kr ((H1.ext T0).len (T := 22) (el := 44) kr) (L_g 1 kr (L_nil (W_block ?_)))
  refine W_loop (fun mm fr hh => ∃ (k : Nat) (n : Int), (k ≤ l.length) ∧ (cnl cwr 300 n (l.drop k) = cnl cwr 300 0 l) ∧ mm = l.length - k ∧ fr 1 = nv 300 ∧ fr 5 = nv n ∧ fr 8 = v ∧ fr 9 = nv (l.length : Int) ∧ fr 10 = nv (k : Int) ∧ Sm Nix h hh) (l.length) ?_ ?_
  ·
   exact ⟨0, 0, Nat.zero_le _, rfl, rfl, kr, kr, kr, kr, kr, T0⟩
  rintro mm137 fr137 h137 ⟨k, n, hk, hn, hm137, y137_1, y137_5, y137_8, y137_9, y137_10, T137⟩
  have N137 := T137.nx
  refine W_set (k := 1) y137_1 (W_set (k := 5) y137_5 (W_set (k := 8) y137_8 (W_set (k := 9) y137_9 (W_set (k := 10) y137_10 (W_sg 1 kr (L_nil (W_seq ?_)))))))
  refine W_cond (decide ((k : Int) < (l.length : Nat))) kr (fun hb => ?_) (fun hb => ?_)
  ·
   have hlt : k < l.length := by simp at hb; omega
   obtain ⟨x, hx⟩ : ∃ x, l[k]? = some x := ⟨_, List.getElem?_eq_getElem hlt⟩
   have hdr : l.drop k = x :: l.drop (k + 1) := by rw [List.drop_eq_getElem_cons hlt]; congr 1; exact (List.getElem?_eq_some_iff.1 hx).2
   obtain ⟨c, hcc, hnd⟩ := H3.at hx
   have hsz := sz_mem (List.mem_of_getElem? hx)
   have hsx := sz_is x
   obtain ⟨va, vb, ve, rfl, Ha, Hb, He⟩ := hnd.is
   obtain ⟨p1, c1, rfl⟩ := Ha.form
   obtain ⟨p2, c2, rfl⟩ := Hb.form
   obtain ⟨p3, c3, rfl⟩ := He.form
   obtain ⟨b9, o9, _, i9, l9⟩ := (H1.ext T137).at (P := Tryz.prog) (T := 22) (el := 44) kr kr hlt .i64
   refine W_skip (W_seq (W_block (W_seq (W_region (L_ix _ rfl rfl kr kr (i9) (L_ld _ rfl rfl kr (ld_l (l := [nv x.op, nv x.val, .string x.nm, .string x.ot, .slice p1 x.a.length c1, .slice p2 x.b.length c2, .slice p3 x.e.length c3]) kr (fun j hj => by rw [l9 j hj]; exact hcc j hj)) (L_nwc [nv 0, nv 0, .string ⟨#[]⟩, .string ⟨#[]⟩, .slice none 0 0, .slice none 0 0, .slice none 0 0] .ptr rfl rfl kr fun h138 c138 t138 n138 => ?_)))))))
   have T138 := T137.ext t138
   have N138 := T138.nx
   obtain ⟨h139, e139, d139, t139, n139⟩ := c138.sA 44 [nv x.op, nv x.val, .string x.nm, .string x.ot, .slice p1 x.a.length c1, .slice p2 x.b.length c2, .slice p3 x.e.length c3]
   replace c138 := d139
   have T139 := T138.tr t139
   have N139 := T139.nx
   refine L_st _ rfl rfl rfl kr kr (e139) (L_nil (W_seq (W_sg 2 kr (L_i (n) (300) (.bool (decide (n > 300))) rfl rfl kr kr rfl (rfl) (L_nil ?_)))))
   refine W_cond (decide (n > 300)) kr (fun hb => ?_) (fun hb => ?_)
   ·
    have hgt : n > 300 := of_decide_eq_true hb
    have hr : cnl cwr 300 0 l = n := by rw [← hn, hdr, cnl_cons, if_pos hgt]
    rw [hr]
    refine W_sg 2 kr (L_nil (W_ret ?_))
    refine rr ?_
    refine done_of (v := nv n) (.inl rfl) kr ?_
    exact ⟨rfl, T139⟩
   ·
    have hle : ¬ n > 300 := of_decide_eq_false hb
    refine W_skip (W_drawn kr (D_e (e := 4) (l := [0,1,2,3,6,7,8,11,12,13]) (s' := [0,6,7,8,11,12,13]) kr kr rfl kr Rk_nil (NS_b 2 kr (NS_ld _ rfl rfl kr kr kr (c138.ld (o := 4) kr rfl) (NS_b 2 kr (NS_ld _ rfl rfl kr kr kr (c138.ld (o := 5) kr rfl) (NS_b 2 kr (NS_ld _ rfl rfl kr kr kr (c138.ld (o := 6) kr rfl) (NS_b 1 kr (NS_nil (L_c rfl rfl kr (ih x.a (by omega) (Ha.ext T139)) ?_)))))))))))
    rintro v140 h140 ⟨e140, t140⟩
    try dsimp only at e140 t140
    subst e140
    replace c138 := c138.ext t140
    have T140 := T139.ext t140
    have N140 := T140.nx
    have M140 := t140.nx
    refine L_nil ⟨rfl, ?_⟩
    refine D_e (e := 9) (l := [5]) (s' := [0,11,12,13,5]) kr kr rfl kr (Rk_1 rfl rfl (Rk_1 rfl rfl (Rk_ld _ rfl rfl rfl kr (c138.ld (o := 5) kr rfl) kr (Rk_1 rfl rfl (Rk_1 rfl rfl (Rk_ld _ rfl rfl rfl kr (c138.ld (o := 6) kr rfl) kr (Rk_1 rfl rfl Rk_nil))))))) (NS_i (1) ((cnl cwr 300 0 x.a)) (nv (cwr (1 + (cnl cwr 300 0 x.a)))) rfl rfl kr kr kr kr rfl (rfl) (NS_nil (L_c rfl rfl kr (ih x.b (by omega) (Hb.ext T140)) ?_)))
    rintro v141 h141 ⟨e141, t141⟩
    try dsimp only at e141 t141
    subst e141
    replace c138 := c138.ext t141
    have T141 := T140.ext t141
    have N141 := T141.nx
    have M141 := t141.nx
    refine L_nil ⟨rfl, ?_⟩
    refine D_e (e := 14) (l := [10]) (s' := [0,5,10]) kr kr rfl kr (Rk_1 rfl rfl (Rk_1 rfl rfl (Rk_ld _ rfl rfl rfl kr (c138.ld (o := 6) kr rfl) kr (Rk_1 rfl rfl (Rk_i (1) ((cnl cwr 300 0 x.a)) (nv (cwr (1 + (cnl cwr 300 0 x.a)))) rfl rfl rfl kr kr rfl (rfl) kr Rk_nil))))) (NS_i ((cwr (1 + (cnl cwr 300 0 x.a)))) ((cnl cwr 300 0 x.b)) (nv (cwr (cwr (1 + (cnl cwr 300 0 x.a)) + (cnl cwr 300 0 x.b)))) rfl rfl kr kr kr kr rfl (rfl) (NS_nil (L_c rfl rfl kr (ih x.e (by omega) (He.ext T141)) ?_)))
    rintro v142 h142 ⟨e142, t142⟩
    try dsimp only at e142 t142
    subst e142
    have T142 := T141.ext t142
    have N142 := T142.nx
    have M142 := t142.nx
    refine L_nil ⟨rfl, ?_⟩
    refine D_l (l := [15,16,17]) kr kr (Rk_1 rfl rfl (Rk_i (1) ((cnl cwr 300 0 x.a)) (nv (cwr (1 + (cnl cwr 300 0 x.a)))) rfl rfl rfl kr kr rfl (rfl) kr (Rk_i ((cwr (1 + (cnl cwr 300 0 x.a)))) ((cnl cwr 300 0 x.b)) (nv (cwr (cwr (1 + (cnl cwr 300 0 x.a)) + (cnl cwr 300 0 x.b)))) rfl rfl rfl kr kr rfl (rfl) kr Rk_nil))) (NS_i ((cwr (cwr (1 + (cnl cwr 300 0 x.a)) + (cnl cwr 300 0 x.b)))) ((cnl cwr 300 0 x.e)) (nv (cn1 cwr 300 x)) rfl rfl kr kr kr kr rfl (by rw [cn1_eq]; rfl) (NS_i (n) ((cn1 cwr 300 x)) (nv (cwr (n + cn1 cwr 300 x))) rfl rfl kr kr kr kr rfl (rfl) (NS_b 1 kr (NS_nil (W_region (L_i ((k : Int)) (1) (nv ((k + 1 : Nat) : Int)) rfl rfl kr kr rfl (incT hlt H2) (L_g 1 kr (L_nil ?_))))))))
    exact ⟨l.length - (k + 1), by omega, k + 1, cwr (n + cn1 cwr 300 x), by omega, by rw [← hn, hdr, cnl_cons, if_neg hle], rfl, kr, kr, kr, kr, kr, T142⟩
  ·
   have hge : k = l.length := by simp at hb; omega
   have hr : cnl cwr 300 0 l = n := by rw [← hn, hge, List.drop_length, cnl]
   rw [hr]
   refine W_exit ?_
   refine rx ?_
   refine exit_here (W_sg 2 kr (L_nil (W_ret ?_)))
   refine rr ?_
   refine done_of (v := nv n) (.inl rfl) kr ?_
   exact ⟨rfl, T137⟩
end
end Go.Proofs.YtlgakeilplnfmaaGreatDoor
namespace Go.Lj
noncomputable section
open Go Go.X Go.Arm
theorem KeyK.str {P : Program} {kt : TypeId} (hu : P.underlying kt = some .string) (hc : ∀ e k, aCheckKey P e kt (.string k) = true) : KeyK P kt (fun k : ByteArray => Value.string k) := by
 have hb : ∀ x k : ByteArray, (k == x) = decide (x = k) := fun x k => by
   show (k.data == x.data) = decide (x = k)
   by_cases e : x = k
   · subst e; simp
   · have : k.data ≠ x.data := fun h => e (ByteArray.ext h.symm)
     rw [decide_eq_false e]; simpa using this
 refine ⟨fun k => rfl, hc, fun k ks => ?_, fun k => ?_⟩
 · have key : ∀ (ks : List ByteArray) (j : Nat), Instr.findNow .string (.string k) (ks.map fun x => (⟨.string x, .nilIface, 0⟩ : MapEntry)) j = some ((ks.findIdx? fun x => decide (x = k)).map fun i => (j + i, Value.nilIface)) := by
     intro ks
     induction ks with
     | nil => intro j; rfl
     | cons x ks ih =>
      intro j
      rw [findIdx_cons, List.map_cons, Instr.findNow]
      have h1 : Instr.sameNow .string (.string k) (.string x) = some (decide (x = k)) := by rw [← hb]; rfl
      by_cases e : x = k
      · subst e
        rw [decide_eq_true rfl] at h1
        simp [h1]
      · rw [decide_eq_false e] at h1
        simp only [h1]
        rw [ih (j + 1), if_neg e]
        cases (ks.findIdx? fun x => decide (x = k)) with
        | none => rfl
        | some i => simp; omega
   unfold Instr.findKey
   refine pureRun_and (a := .string) (by simp only [underlying]; exact pureRun_and (e := Sem.program .pure) (a := P) rfl (by simp only [hu]; rfl)) ?_
   rw [key ks 0]
   simp only [Nat.zero_add]
   rfl
 · unfold stays; rw [Instr.sameBits]; exact (hb k k).trans (decide_eq_true rfl)
structure Ce where
 n : Nat
 vs : List (ByteArray × Bool)
 rs : List (ByteArray × Bool)
def Ce.inc (c : Ce) : Ce := { c with n := c.n + 1 }
def Ce.putV (c : Ce) (s : ByteArray) : Ce := { c with vs := kset c.vs s true }
def Ce.putR (c : Ce) (s : ByteArray) : Ce := { c with rs := kset c.rs s true }
def Ce.name (c : Ce) (op : Int) (nm : ByteArray) : Ce := if op = 4 ∨ op = 5 ∨ op = 6 then c.putR nm else if nm = emp then c else c.putV nm
def Ce.other (c : Ce) (ot : ByteArray) : Ce := if ot = emp then c else c.putV ot
mutual
def cad1 (c : Ce) : Nd → Ce
 | .mk op _ nm ot a b e => cadl (cadl (cadl ((c.inc.name op nm).other ot) a) b) e
def cadl (c : Ce) : List Nd → Ce
 | [] => c
 | x :: l => cadl (cad1 c x) l
end
theorem cad1_is (c : Ce) (x : Nd) : cad1 c x = cadl (cadl (cadl ((c.inc.name x.op x.nm).other x.ot) x.a) x.b) x.e := by cases x; rw [cad1]; rfl
theorem cadl_cons (c : Ce) (x : Nd) (l : List Nd) : cadl c (x :: l) = cadl (cad1 c x) l := by rw [cadl]
theorem cadl_nil (c : Ce) : cadl c [] = c := by rw [cadl]
theorem Ce.name_n (c : Ce) (op : Int) (nm : ByteArray) : (c.name op nm).n = c.n := by unfold Ce.name; split; · rfl
                                                                                      · split <;> rfl
theorem Ce.other_n (c : Ce) (ot : ByteArray) : (c.other ot).n = c.n := by unfold Ce.other; split <;> rfl
mutual
theorem cad1_n (c : Ce) : ∀ x, (cad1 c x).n = c.n + sz1 x
 | .mk op _ nm ot a b e => by
  rw [cad1, cadl_n _ e, cadl_n _ b, cadl_n _ a, Ce.other_n, Ce.name_n, sz1]
  show c.n + 1 + _ + _ + _ = _
  omega
theorem cadl_n (c : Ce) : ∀ l, (cadl c l).n = c.n + szl l
 | [] => by rw [cadl, szl]; rfl
 | x :: l => by rw [cadl, cadl_n _ l, cad1_n c x, szl]; omega
end
abbrev kS (s : ByteArray) : Value := .string s
def rT (v : Value) (_ : Bool) : Prop := v = .bool true
structure Cen (h : AH) (cb mv mr : Nat) (c : Ce) : Prop where
 cl : Cl h cb [nv (c.n : Int), .map (some mv), .map (some mr)]
 vs : Mp h mv kS rT c.vs
 rs : Mp h mr kS rT c.rs
 ag : Mb h mr
 ne : cb ≠ mv ∧ cb ≠ mr ∧ mv ≠ mr
def CS (cb mv mr : Nat) (b : Nat) : Prop := b = cb ∨ b = mv ∨ b = mr
theorem CS.n {cb mv mr b : Nat} (h1 : b ≠ cb) (h2 : b ≠ mv) (h3 : b ≠ mr) : ¬ CS cb mv mr b := fun h => h.elim h1 (fun h => h.elim h2 h3)
variable {P : Program} {h h' : AH} {cb mv mr : Nat} {c : Ce} {T kt el : TypeId}
theorem Cen.ext (C : Cen h cb mv mr c) (s : Go.Arm.Sm Nix h h') : Cen h' cb mv mr c := ⟨C.cl.ext s, C.vs.sm s (fun x => x) (fun _ _ e => e), C.rs.sm s (fun x => x) (fun _ _ e => e), C.ag.sm s C.rs.1 (fun x => x), C.ne⟩
theorem Cen.lt (C : Cen h cb mv mr c) : cb < h.next ∧ mv < h.next ∧ mr < h.next := ⟨C.cl.lt, C.vs.1, C.rs.1⟩
theorem Cen.setN (C : Cen h cb mv mr c) (hz : szOf P T = some 1) : ∃ h', aStore P T ⟨cb, 0, none⟩ (nv ((c.n + 1 : Nat) : Int)) h = some h' ∧ Cen h' cb mv mr c.inc ∧ Go.Arm.Sm (CS cb mv mr) h h' ∧ h'.next = h.next := by
 obtain ⟨h', e, d, t, n⟩ := C.cl.store (P := P) (T := T) (o := 0) (v := nv ((c.n + 1 : Nat) : Int)) hz rfl rfl (by simp)
 exact ⟨h', e, ⟨d, C.vs.sm t (fun x => C.ne.1 x.symm) (fun _ _ e => e), C.rs.sm t (fun x => C.ne.2.1 x.symm) (fun _ _ e => e), C.ag.sm t C.rs.1 (fun x => C.ne.2.1 x.symm), C.ne⟩, t.mono (fun _ x => .inl x), n⟩
theorem Cen.setV (C : Cen h cb mv mr c) (hT : P.underlying T = some (.map kt el)) (hK : KeyK P kt kS) (s : ByteArray) : ∃ h', aUpdate P T (.map (some mv)) (.string s) (.bool true) h = some h' ∧ Cen h' cb mv mr (c.putV s) ∧ Go.Arm.Sm (CS cb mv mr) h h' ∧ h'.next = h.next := by
 obtain ⟨h', e, m, t, n⟩ := C.vs.update (y := true) hT hK s rfl
 exact ⟨h', e, ⟨C.cl.sm t C.ne.1, m, C.rs.sm t (fun x => C.ne.2.2 x.symm) (fun _ _ e => e), C.ag.sm t C.rs.1 (fun x => C.ne.2.2 x.symm), C.ne⟩, t.mono (fun _ x => .inr (.inl x)), n⟩
theorem Cen.setR (C : Cen h cb mv mr c) (hT : P.underlying T = some (.map kt el)) (hK : KeyK P kt kS) (s : ByteArray) : ∃ h', aUpdate P T (.map (some mr)) (.string s) (.bool true) h = some h' ∧ Cen h' cb mv mr (c.putR s) ∧ Go.Arm.Sm (CS cb mv mr) h h' ∧ h'.next = h.next := by
 obtain ⟨h', e, m, t, n⟩ := C.rs.update (y := true) hT hK s rfl
 exact ⟨h', e, ⟨C.cl.sm t C.ne.2.1, C.vs.sm t C.ne.2.2 (fun _ _ e => e), m, C.ag.update e, C.ne⟩, t.mono (fun _ x => .inr (.inr x)), n⟩
theorem Cen.sm {S : Nat → Prop} (C : Cen h cb mv mr c) (s : Go.Arm.Sm S h h') (h1 : ¬ S cb) (h2 : ¬ S mv) (h3 : ¬ S mr) : Cen h' cb mv mr c :=
 ⟨C.cl.sm s h1, C.vs.sm s h2 (fun _ _ e => e), C.rs.sm s h3 (fun _ _ e => e), C.ag.sm s C.rs.1 h3, C.ne⟩
def Ce.z : Ce := ⟨0, [], []⟩
def Ce.both (c : Ce) : Bool := c.rs.any fun e => (kget c.vs e.1).isSome
def chk (l : List Nd) : Int := if dpl 8 l = true then 10 else if fma nok 0 l = false then 2 else if (cadl Ce.z l).both = true then 2 else if (cadl Ce.z l).n > 1000 ∨ (cadl Ce.z l).vs.length + (cadl Ce.z l).rs.length > 32 then 9 else 0
theorem kset_len {κ β : Type} [DecidableEq κ] (k : κ) (y : β) : ∀ m : List (κ × β), (kset m k y).length ≤ m.length + 1
 | [] => by simp [kset]
 | e :: m => by
  unfold kset
  split
  · simp
  · have := kset_len k y m; simp; omega
mutual
theorem cad1_len (c : Ce) : ∀ x, (cad1 c x).vs.length + (cad1 c x).rs.length ≤ c.vs.length + c.rs.length + 2 * sz1 x
 | .mk op _ nm ot a b e => by
  have h1 : (c.inc.name op nm).vs.length + (c.inc.name op nm).rs.length ≤ c.vs.length + c.rs.length + 1 := by
   unfold Ce.name
   split
   · have := kset_len nm true c.rs
     show c.vs.length + (kset c.rs nm true).length ≤ _
     omega
   · split
     · show c.vs.length + c.rs.length ≤ _
       omega
     · have := kset_len nm true c.vs
       show (kset c.vs nm true).length + c.rs.length ≤ _
       omega
  have h2 : ((c.inc.name op nm).other ot).vs.length + ((c.inc.name op nm).other ot).rs.length ≤ c.vs.length + c.rs.length + 2 := by
   unfold Ce.other
   split
   · omega
   · have := kset_len ot true (c.inc.name op nm).vs
     show (kset (c.inc.name op nm).vs ot true).length + (c.inc.name op nm).rs.length ≤ _
     omega
  rw [cad1, sz1]
  have h3 := cadl_len ((c.inc.name op nm).other ot) a
  have h4 := cadl_len (cadl ((c.inc.name op nm).other ot) a) b
  have h5 := cadl_len (cadl (cadl ((c.inc.name op nm).other ot) a) b) e
  omega
theorem cadl_len (c : Ce) : ∀ l, (cadl c l).vs.length + (cadl c l).rs.length ≤ c.vs.length + c.rs.length + 2 * szl l
 | [] => by rw [cadl]; omega
 | x :: l => by
  rw [cadl, szl]
  have h1 := cad1_len c x
  have h2 := cadl_len (cad1 c x) l
  omega
end
theorem lookB {m : List (ByteArray × Bool)} {b : Nat} (H : Mp h b kS rT m) (hT : P.underlying T = some (.map kt el)) (hK : KeyK P kt kS) (hz : zeroOf P el = some (.bool false)) (k : ByteArray) : aLookup P T (.map (some b)) (.string k) false h = some (.bool (kget m k).isSome) := by
 rcases H.lookup hT hK hz k false with ⟨h1, h2⟩ | ⟨v, x, h1, h2, h3⟩
 · rw [h1]; exact h2
 · rw [h1, show v = _ from h2] at *; exact h3
end
end Go.Lj
