/- A part of the walks of profiles. -/
import Derived.Test.YtjhbbdfbngbjcaaGreatDoorYa
import Derived.Test.YtjhbbdfbngbjcaaGreatDoorYe
import Derived.Test.YtjhbbdfbngbjcaaGreatDoorYg
namespace Go.Proofs.YtjhbbdfbngbjcaaGreatDoor
noncomputable section
open Go Go.X Go.Arm
theorem rnext_not {h : AH} {F : Nat → Prop} {hi B tb N : Nat} {VL VS : Option Nat → Value} {L : Lf} {S : Sf} {C : TC} {p : Nat} (H : RT h F tb VL (VS none) N L C) (X : SpL h hi B VS N S) (g : Gd N L S) (A : Bn N L C) (hFB : ∀ b, Tch hi B b → ¬ F b) (hp : p < N) (hn : nxt N L C S p = none) : Arm.Calls Tryz.prog 50 [ptr tb, nv (p : Int)] h (fun r => r.1 = .bool false ∧ Sm Nix h r.2) := by
 unfold nxt at hn
 cases hx : (L p)[(S p).length]? with
 | none => exact rnext_end H X g A hFB hp hx
 | some x =>
  rw [hx] at hn
  dsimp only at hn
  cases hs : strt N L C S p x with
  | none => exact rnext_wait H X g A hFB hp hx hs
  | some a => rw [hs] at hn; cases hn
set_option maxHeartbeats 4000000 in
theorem rtimed_ok {h : AH} {VL : Option Nat → Value} {N : Nat} {L : Lf} {C : TC} (I : TIn h (fun b => b < h.next) VL N L) (hL0 : ∀ p, N ≤ p → L p = []) (hB : ∀ q, (L q).length < 1000000000) (hN : N < 1000000)
  (hcap : ∀ q, q < N → ∃ a c, VL (some q) = .slice a (L q).length c ∧ (L q).length ≤ c ∧ c < open_) :
  Arm.Calls Tryz.prog 24 [VL none, .agg ⟨[nv C.s, nv C.c, nv C.r, nv C.m]⟩] h (fun r => ((errT N L C ≠ 0 ∧ r.1 = .tuple ⟨[.pointer none, nv (errT N L C)]⟩ ∧ Sm Nix h r.2) ∨
   (errT N L C = 0 ∧ ∃ tb F hi B VS, r.1 = .tuple ⟨[ptr tb, nv 0]⟩ ∧ RT r.2 F tb VL (VS none) N L C ∧ SpL r.2 hi B VS N (timesS N L C) ∧ (∀ b, Tch hi B b → ¬ F b) ∧ h.next ≤ B ∧ Sm Nix h r.2))) := by
 obtain ⟨av, cv, eV⟩ := I.o.form
 refine Calls_W 120 Tryz.f24 ?_
 have T0 : Sm Nix h h := .refl
 refine W_seq (W_region (L_nwc [nv C.s, nv C.c, nv C.r, nv C.m] .ptr rfl rfl kr fun h229 c229 t229 n229 => ?_))
 have T229 := T0.ext t229
 have N229 := T229.nx
 refine L_g 2 kr (L_nil (W_seq (W_seq ?_)))
 by_cases hN1 : N < 1
 ·
  refine W_rg 1 kr (L_ln _ rfl rfl kr ((I.ext T229).len (T := 22) (el := 27) kr) (L_i ((N : Int)) (1) (.bool true) rfl rfl kr kr rfl (by first | (simp; done) | (simp; omega)) (L_g 5 kr (L_nil ?_))))
  refine W_cond true kr (fun _ => ?_) (fun e => by cases e)
  refine W_sg 2 kr (L_nil (W_ret ?_))
  repeat first | with_reducible refine then_ret ?_ | with_reducible refine blk_ret ?_
  have herr : errT N L C = 3 := by
   unfold errT
   rw [if_pos (.inl hN1)]
  refine done_of (v := .tuple ⟨[.pointer none, nv 3]⟩) (.inl rfl) kr ?_
  exact .inl ⟨by rw [herr]; decide, by rw [herr], T229⟩
 ·
  refine W_rg 1 kr (L_ln _ rfl rfl kr ((I.ext T229).len (T := 22) (el := 27) kr) (L_i ((N : Int)) (1) (.bool false) rfl rfl kr kr rfl (by simp; omega) (L_g 2 kr (L_want kr (L_ln _ rfl rfl kr ((I.ext T229).len (T := 22) (el := 27) kr) (L_want kr (L_i ((N : Int)) (64) (.bool (decide (64 < N))) rfl rfl kr kr rfl (by simp; omega) (L_g 1 kr (L_nil ?_)))))))))
  refine W_cond (decide (64 < N)) kr (fun hb => ?_) (fun hb => ?_)
  ·
   have h64 : 64 < N := of_decide_eq_true hb
   refine W_sg 2 kr (L_nil (W_ret ?_))
   repeat first | with_reducible refine then_ret ?_ | with_reducible refine blk_ret ?_
   have herr : errT N L C = 3 := by
    unfold errT
    rw [if_pos (.inr h64)]
   refine done_of (v := .tuple ⟨[.pointer none, nv 3]⟩) (.inl rfl) kr ?_
   exact .inl ⟨by rw [herr]; decide, by rw [herr], T229⟩
  ·
   have h64 : ¬ 64 < N := of_decide_eq_false hb
   have hno1 : ¬ (N < 1 ∨ 64 < N) := by omega
   refine W_skip (W_seq (W_sg 1 kr (L_nil (W_block ?_))))
   refine W_loop (fun mm fr hh => ∃ (k : Nat), (k ≤ N) ∧ (∀ q, q < k → (L q).length ≤ 10000) ∧ mm = N - k ∧ fr 0 = VL none ∧ fr 3 = ptr h.next ∧ fr 6 = nv (k : Int) ∧ Sm Nix h hh ∧ Cl hh (h.next) [nv C.s, nv C.c, nv C.r, nv C.m]) (N) ?_ ?_
   ·
    exact ⟨0, Nat.zero_le _, (fun q hq => by omega), rfl, kr, kr, kr, T229, c229⟩
   rintro mm230 fr230 h230 ⟨k, hk, hno, hm230, y230_0, y230_3, y230_6, T230, c229⟩
   have N230 := T230.nx
   have B230_t3 := c229.lt
   refine W_set (k := 0) y230_0 (W_set (k := 3) y230_3 (W_set (k := 6) y230_6 (W_seq (W_sg 2 kr (L_ln _ rfl rfl kr ((I.ext T230).len (T := 22) (el := 27) kr) (L_g 1 kr (L_nil ?_)))))))
   refine W_cond (decide ((k : Int) < (N : Nat))) kr (fun hb => ?_) (fun hb => ?_)
   ·
    have hlt : k < N := by simp at hb; omega
    refine W_skip (W_seq (W_block (W_seq (W_region (L_g 2 kr ?_)))))
    obtain ⟨b3, o3, i3, l3⟩ := (I.ext T230).row (T := 22) (el := 27) kr kr kr hlt
    refine L_ix _ rfl rfl kr kr (i3) (L_ld _ rfl rfl kr ((I.ext T230).rowLd (T := 22) (el := 27) kr kr kr hlt i3) (L_ln _ rfl rfl kr ((I.ext T230).lenR (T := 27) (el := 83) kr hlt) (L_i (((L k).length : Int)) (10000) (.bool (decide (10000 < (L k).length))) rfl rfl kr kr rfl (by simp; omega) (L_nil ?_))))
    refine W_cond (decide (10000 < (L k).length)) kr (fun hb => ?_) (fun hb => ?_)
    ·
     have hmany : manyB N L = true := List.any_eq_true.2 ⟨k, List.mem_range.2 hlt, hb⟩
     refine W_sg 2 kr (L_nil (W_ret ?_))
     repeat first | with_reducible refine then_ret ?_ | with_reducible refine blk_ret ?_
     have herr : errT N L C = 9 := by
      unfold errT
      rw [if_neg hno1, if_pos hmany]
     refine done_of (v := .tuple ⟨[.pointer none, nv 9]⟩) (.inl rfl) kr ?_
     exact .inl ⟨by rw [herr]; decide, by rw [herr], T230⟩
    ·
     refine W_skip (W_rg 1 kr (L_i ((k : Int)) (1) (nv ((k + 1 : Nat) : Int)) rfl rfl kr kr rfl (inc_ok (by omega)) (L_g 1 kr (L_nil ?_))))
     exact ⟨N - (k + 1), by omega, k + 1, by omega, (fun q hq => (Nat.lt_succ_iff_lt_or_eq.1 hq).elim (hno q) (fun e => by subst e; simp at hb; omega)), rfl, kr, kr, kr, T230, c229⟩
   ·
    have hge : N ≤ k := by simp at hb; omega
    have hmany : ¬ manyB N L = true := by
     unfold manyB
     rw [Bool.not_eq_true]
     refine List.any_eq_false.2 (fun q hq => ?_)
     have := hno q (by have := List.mem_range.1 hq; omega)
     simp; omega
    refine W_exit ?_
    repeat with_reducible refine then_exit ?_
    refine exit_here (W_sg 1 kr (L_ld _ rfl rfl kr (c229.ld (o := 0) kr rfl) (L_g 1 kr (L_ld _ rfl rfl kr (c229.ld (o := 1) kr rfl) (L_g 1 kr (L_ld _ rfl rfl kr (c229.ld (o := 2) kr rfl) (L_g 1 kr (L_ld _ rfl rfl kr (c229.ld (o := 3) kr rfl) (L_nwc [nv C.s, nv C.c, nv C.r, nv C.m] (.sl 4 4) rfl rfl kr fun h231 c231 t231 n231 => ?_)))))))))
    replace c229 := c229.ext t231
    have T231 := T230.ext t231
    have N231 := T231.nx
    refine L_g 1 kr (L_nil (W_seq (W_sg 1 kr (L_nil (W_block ?_)))))
    refine W_loop (fun mm fr hh => ∃ (k : Nat), (k ≤ 4) ∧ (∀ q, q < k → costBad (([C.s, C.c, C.r, C.m][q]?).getD 0) = false) ∧ mm = 4 - k ∧ fr 0 = VL none ∧ fr 3 = ptr h.next ∧ fr 7 = .slice (some ⟨h230.next, 0, none⟩) 4 4 ∧ fr 8 = nv (k : Int) ∧ Sm Nix h hh ∧ Cl hh (h.next) [nv C.s, nv C.c, nv C.r, nv C.m] ∧ Cl hh (h230.next) [nv C.s, nv C.c, nv C.r, nv C.m]) (4) ?_ ?_
    ·
     exact ⟨0, Nat.zero_le _, (fun q hq => by omega), rfl, kr, kr, kr, kr, T231, c229, c231⟩
    rintro mm232 fr232 h232 ⟨k, hk, hno2, hm232, y232_0, y232_3, y232_7, y232_8, T232, c229, c231⟩
    have N232 := T232.nx
    have B232_t3 := c229.lt
    have B232_t43 := c231.lt
    refine W_set (k := 0) y232_0 (W_set (k := 3) y232_3 (W_set (k := 7) y232_7 (W_set (k := 8) y232_8 (W_seq (W_sg 2 kr (L_ln _ rfl rfl kr ((Cl.sd (n := 4) c231 rfl).len (T := 45) (el := 3) kr) (L_g 1 kr (L_nil ?_))))))))
    refine W_cond (decide ((k : Int) < (4 : Int))) kr (fun hb => ?_) (fun hb => ?_)
    ·
     have hlt4 : k < 4 := by simp at hb; omega
     refine W_skip (W_seq (W_block (W_seq ?_)))
     by_cases hz : (([C.s, C.c, C.r, C.m][k]?).getD 0) < 0
     ·
      refine W_region (L_g 2 kr ?_)
      obtain ⟨b1, o1, _, i1, l1⟩ := (Cl.sd (n := 4) c231 rfl).at (P := Tryz.prog) (T := 45) (el := 3) (k := 1) (i := k) kr kr hlt4 .i64
      have l2 := l1 0 (by decide)
      rw [Nat.add_zero, Nat.mul_one, Nat.add_zero, show [nv C.s, nv C.c, nv C.r, nv C.m][k]? = some (nv (([C.s, C.c, C.r, C.m][k]?).getD 0)) by rcases k with _ | _ | _ | _ | k <;> first | rfl | omega] at l2
      refine L_ix _ rfl rfl kr kr (i1) (L_ld _ rfl rfl kr (ld_cell kr l2) (L_i ((([C.s, C.c, C.r, C.m][k]?).getD 0)) (0) (.bool true) rfl rfl kr kr rfl (by simp [hz]) (L_g 7 kr (L_nil ?_))))
      refine W_cond true kr (fun _ => ?_) (fun e => by cases e)
      refine W_sg 2 kr (L_nil (W_ret ?_))
      repeat first | with_reducible refine then_ret ?_ | with_reducible refine blk_ret ?_
      have hcost : cost4 C = true := by
       unfold cost4
       refine List.any_eq_true.2 ⟨(([C.s, C.c, C.r, C.m][k]?).getD 0), ?_, by unfold costBad; simp; omega⟩
       rcases k with _ | _ | _ | _ | k <;> first | (simp; done) | omega
      have herr : errT N L C = 3 := by
       unfold errT
       rw [if_neg hno1, if_neg hmany, if_pos hcost]
      refine done_of (v := .tuple ⟨[.pointer none, nv 3]⟩) (.inl rfl) kr ?_
      exact .inl ⟨by rw [herr]; decide, by rw [herr], T232⟩
     ·
      refine W_region (L_g 2 kr ?_)
      obtain ⟨b1, o1, _, i1, l1⟩ := (Cl.sd (n := 4) c231 rfl).at (P := Tryz.prog) (T := 45) (el := 3) (k := 1) (i := k) kr kr hlt4 .i64
      have l2 := l1 0 (by decide)
      rw [Nat.add_zero, Nat.mul_one, Nat.add_zero, show [nv C.s, nv C.c, nv C.r, nv C.m][k]? = some (nv (([C.s, C.c, C.r, C.m][k]?).getD 0)) by rcases k with _ | _ | _ | _ | k <;> first | rfl | omega] at l2
      refine L_ix _ rfl rfl kr kr (i1) (L_ld _ rfl rfl kr (ld_cell kr l2) (L_i ((([C.s, C.c, C.r, C.m][k]?).getD 0)) (0) (.bool false) rfl rfl kr kr rfl (by simp; omega) (L_g 3 kr ?_)))
      obtain ⟨b1, o1, _, i1, l1⟩ := (Cl.sd (n := 4) c231 rfl).at (P := Tryz.prog) (T := 45) (el := 3) (k := 1) (i := k) kr kr hlt4 .i64
      have l2 := l1 0 (by decide)
      rw [Nat.add_zero, Nat.mul_one, Nat.add_zero, show [nv C.s, nv C.c, nv C.r, nv C.m][k]? = some (nv (([C.s, C.c, C.r, C.m][k]?).getD 0)) by rcases k with _ | _ | _ | _ | k <;> first | rfl | omega] at l2
      refine L_want kr (L_ix _ rfl rfl kr kr (i1) (L_want kr (L_ld _ rfl rfl kr (ld_cell kr l2) (L_want kr (L_i ((([C.s, C.c, C.r, C.m][k]?).getD 0)) (1048576) (.bool (decide (1048576 < (([C.s, C.c, C.r, C.m][k]?).getD 0)))) rfl rfl kr kr rfl (rfl) (L_g 1 kr (L_nil ?_)))))))
      refine W_cond (decide (1048576 < (([C.s, C.c, C.r, C.m][k]?).getD 0))) kr (fun hb => ?_) (fun hb => ?_)
      ·
       refine W_sg 2 kr (L_nil (W_ret ?_))
       repeat first | with_reducible refine then_ret ?_ | with_reducible refine blk_ret ?_
       have hcost : cost4 C = true := by
        unfold cost4
        have h8 := of_decide_eq_true hb
        refine List.any_eq_true.2 ⟨(([C.s, C.c, C.r, C.m][k]?).getD 0), ?_, by unfold costBad; simp; omega⟩
        rcases k with _ | _ | _ | _ | k <;> first | (simp; done) | omega
       have herr : errT N L C = 3 := by
        unfold errT
        rw [if_neg hno1, if_neg hmany, if_pos hcost]
       refine done_of (v := .tuple ⟨[.pointer none, nv 3]⟩) (.inl rfl) kr ?_
       exact .inl ⟨by rw [herr]; decide, by rw [herr], T232⟩
      ·
       have hzb : costBad (([C.s, C.c, C.r, C.m][k]?).getD 0) = false := by unfold costBad; have h8 := of_decide_eq_false hb; simp; omega
       refine W_skip (W_rg 1 kr (L_i ((k : Int)) (1) (nv ((k + 1 : Nat) : Int)) rfl rfl kr kr rfl (inc_ok (by omega)) (L_g 1 kr (L_nil ?_))))
       exact ⟨4 - (k + 1), by omega, k + 1, by omega, (fun q hq => (Nat.lt_succ_iff_lt_or_eq.1 hq).elim (hno2 q) (fun e => by subst e; exact hzb)), rfl, kr, kr, kr, kr, T232, c229, c231⟩
    ·
     have hge4 : 4 ≤ k := by simp at hb; omega
     have hcost : ¬ cost4 C = true := by
      unfold cost4
      have c0 := hno2 0 (by omega)
      have c1 := hno2 1 (by omega)
      have c2 := hno2 2 (by omega)
      have c3 := hno2 3 (by omega)
      simp at c0 c1 c2 c3 ⊢
      simp [c0, c1, c2, c3]
     refine W_exit ?_
     repeat with_reducible refine then_exit ?_
     refine exit_here (W_seq (W_sg 1 kr (L_nil (W_block ?_))))
     refine W_loop (fun mm fr hh => ∃ (p : Nat), (p ≤ N) ∧ (∀ q i x, q < p → (L q)[i]? = some x → frm N L q i x = true) ∧ mm = N - p ∧ fr 0 = VL none ∧ fr 3 = ptr h.next ∧ fr 9 = nv (p : Int) ∧ Sm Nix h hh ∧ Cl hh (h.next) [nv C.s, nv C.c, nv C.r, nv C.m]) (N) ?_ ?_
     ·
      exact ⟨0, Nat.zero_le _, (fun q i x hq => by omega), rfl, kr, kr, kr, T232, c229⟩
     rintro mm233 fr233 h233 ⟨p, hp, hfr, hm233, y233_0, y233_3, y233_9, T233, c229⟩
     have N233 := T233.nx
     have B233_t3 := c229.lt
     refine W_set (k := 0) y233_0 (W_set (k := 3) y233_3 (W_set (k := 9) y233_9 (W_seq (W_sg 2 kr (L_ln _ rfl rfl kr ((I.ext T233).len (T := 22) (el := 27) kr) (L_g 1 kr (L_nil ?_)))))))
     refine W_cond (decide ((p : Int) < (N : Nat))) kr (fun hb => ?_) (fun hb => ?_)
     ·
      have hlt : p < N := by simp at hb; omega
      have hBp := hB p
      refine W_skip (W_seq (W_block (W_sg 1 kr (L_nil (W_block ?_)))))
      refine W_loop (fun mm fr hh => ∃ (i : Nat), (i ≤ (L p).length) ∧ (∀ j x, j < i → (L p)[j]? = some x → frm N L p j x = true) ∧ mm = (L p).length - i ∧ fr 0 = VL none ∧ fr 3 = ptr h.next ∧ fr 9 = nv (p : Int) ∧ fr 10 = nv (i : Int) ∧ Sm Nix h hh ∧ Cl hh (h.next) [nv C.s, nv C.c, nv C.r, nv C.m]) ((L p).length) ?_ ?_
      ·
       exact ⟨0, Nat.zero_le _, (fun j x hj => by omega), rfl, kr, kr, kr, kr, T233, c229⟩
      rintro mm234 fr234 h234 ⟨i, hil, hfi, hm234, y234_0, y234_3, y234_9, y234_10, T234, c229⟩
      have N234 := T234.nx
      have B234_t3 := c229.lt
      refine W_set (k := 0) y234_0 (W_set (k := 3) y234_3 (W_set (k := 9) y234_9 (W_set (k := 10) y234_10 (W_seq (W_seq (W_region (L_g 3 kr ?_)))))))
      obtain ⟨b5, o5, i5, l5⟩ := (I.ext T234).row (T := 22) (el := 27) kr kr kr hlt
      refine L_ix _ rfl rfl kr kr (i5) (L_ld _ rfl rfl kr ((I.ext T234).rowLd (T := 22) (el := 27) kr kr kr hlt i5) (L_ln _ rfl rfl kr ((I.ext T234).lenR (T := 27) (el := 83) kr hlt) (L_g 1 kr (L_nil ?_))))
      refine W_cond (decide ((i : Int) < ((L p).length : Nat))) kr (fun hb => ?_) (fun hb => ?_)
      ·
       have hlt2 : i < (L p).length := by simp at hb; omega
       obtain ⟨x, hx⟩ : ∃ x, (L p)[i]? = some x := ⟨_, List.getElem?_eq_getElem hlt2⟩
       refine W_skip (W_seq (W_block (W_sg 3 kr (L_c rfl rfl kr (formed_ok (I.ext T234) hlt hx hB hcap) ?_))))
       rintro v235 h235 ⟨e235, t235⟩
       try dsimp only at e235
       try dsimp only at t235
       subst e235
       replace c229 := c229.ext t235
       have T235 := T234.ext t235
       have N235 := T235.nx
       have M235 := t235.nx
       refine L_g 1 kr (L_nil ?_)
       refine W_cond (!frm N L p i x) kr (fun hb => ?_) (fun hb => ?_)
       ·
        have hidx : idxB N L = false := frm_bad hlt hx (by simpa using hb)
        refine W_sg 2 kr (L_nil (W_ret ?_))
        repeat first | with_reducible refine then_ret ?_ | with_reducible refine blk_ret ?_
        have herr : errT N L C = 2 := by
         unfold errT
         rw [if_neg hno1, if_neg hmany, if_neg hcost, if_pos hidx]
        refine done_of (v := .tuple ⟨[.pointer none, nv 2]⟩) (.inl rfl) kr ?_
        exact .inl ⟨by rw [herr]; decide, by rw [herr], T235⟩
       ·
        refine W_skip (W_rg 1 kr (L_i ((i : Int)) (1) (nv ((i + 1 : Nat) : Int)) rfl rfl kr kr rfl (inc_ok (by omega)) (L_g 1 kr (L_nil ?_))))
        exact ⟨(L p).length - (i + 1), by omega, i + 1, by omega, (fun j y hj hy => (Nat.lt_succ_iff_lt_or_eq.1 hj).elim (fun h => hfi j y h hy) (fun e => by subst e; rw [hx] at hy; cases hy; simpa using hb)), rfl, kr, kr, kr, kr, T235, c229⟩
      ·
       have hge2 : i = (L p).length := by simp at hb; omega
       refine W_exit ?_
       repeat with_reducible refine then_exit ?_
       refine exit_here (W_rg 1 kr (L_i ((p : Int)) (1) (nv ((p + 1 : Nat) : Int)) rfl rfl kr kr rfl (inc_ok (by omega)) (L_g 1 kr (L_nil ?_))))
       exact ⟨N - (p + 1), by omega, p + 1, by omega, (fun q i x hq hx => (Nat.lt_succ_iff_lt_or_eq.1 hq).elim (fun h => hfr q i x h hx) (fun e => by subst e; exact hfi i x (by have := (List.getElem?_eq_some_iff.1 hx).1; omega) hx)), rfl, kr, kr, kr, T234, c229⟩
     ·
      have hge : N ≤ p := by simp at hb; omega
      have hidx : idxB N L = true := frm_all (fun q i x hq hx => hfr q i x (by omega) hx)
      have A : Bn N L C := ⟨by omega, fun p hp => manyB_ok (by simpa using hmany) hp, cost4_ok (by simpa using hcost), idxB_okl hL0 hidx⟩
      refine W_exit ?_
      repeat with_reducible refine then_exit ?_
      refine exit_here (W_seq (W_drawn kr (D_l (l := [0,1,2,3,4,5,6,7]) kr kr Rk_nil (NS_b 1 kr (NS_ld _ rfl rfl kr kr kr (Cl.allN (n := 4) c229 rfl kr) (NS_b 1 kr (NS_ln _ rfl rfl kr kr kr ((I.ext T233).len (T := 22) (el := 27) kr) (NS_nwc (zrep N [.slice none 0 0]) (.sl N N) rfl kr rfl rfl (ev_mkK (P := Tryz.prog) (k := 1) (el := 52) (z := .slice none 0 0) (by_ := 24) kr kr kr kr rfl (by omega) kr kr) (Rk_1 rfl rfl (Rk_ld _ rfl rfl rfl kr (Cl.allN (n := 4) (c229.ext (.push h233 _)) rfl kr) kr (Rk_1 rfl rfl (Rk_ln _ rfl rfl rfl kr ((I.ext (T233.ext (.push h233 _))).len (T := 22) (el := 27) kr) kr (Rk_1 rfl rfl Rk_nil))))) fun h236 c236 t236 n236 => ?_))))))))
      replace c229 := c229.ext t236
      have T236 := T233.ext t236
      have N236 := T236.nx
      refine NS_v (.agg ⟨[VL none, nv C.s, nv C.c, nv C.r, nv C.m, .slice (some ⟨h233.next, 0, none⟩) N N]⟩) rfl kr rfl kr (by rw [eV]; kernel_rfl) (NS_nwc [VL none, nv C.s, nv C.c, nv C.r, nv C.m, .slice (some ⟨h233.next, 0, none⟩) N N] .ptr rfl kr rfl rfl kr (Rk_1 rfl rfl (Rk_ld _ rfl rfl rfl kr (Cl.allN (n := 4) (c229.ext (.push h236 _)) rfl kr) kr (Rk_1 rfl rfl (Rk_ln _ rfl rfl rfl kr ((I.ext (T236.ext (.push h236 _))).len (T := 22) (el := 27) kr) kr (Rk_1 rfl rfl (Rk_1 rfl rfl (Rk_1 rfl rfl Rk_nil))))))) fun h237 c237 t237 n237 => ?_)
      replace c236 := c236.ext t237
      have T237 := T236.ext t237
      have N237 := T237.nx
      refine NS_b 1 kr (NS_nil (W_seq (W_seq (W_region ?_))))
      have hIx := (I.ext T237)
      have PT0 : RT h237 (fun b => b < h237.next ∧ b ≠ h233.next) h236.next VL (VS0 h233.next N none) N L C := ⟨c237, hIx.mono (fun b hb _ => ⟨by omega, by omega⟩), ⟨c237.lt, by omega⟩⟩
      refine L_p (.bool true) rfl kr (L_nil (W_block ?_))
      refine W_loop (fun mm fr hh => ∃ (m : Nat) (St : Sf) (bm : Bool) (VS : Option Nat → Value), (More N L C m St bm) ∧ (Inv N L St) ∧ (RT hh (fun b => b < h237.next ∧ b ≠ h233.next) h236.next VL (VS none) N L C) ∧ (SpL hh h237.next h233.next VS N St) ∧ mm = m ∧ fr 0 = VL none ∧ fr 11 = ptr h236.next ∧ fr 12 = .bool bm ∧ Sm Nix h hh) ((totL N L + 1)) ?_ ?_
      ·
       exact ⟨(totL N L + 1), nil_, true, (VS0 h233.next N), more0 N L C, Inv.nil N L, PT0, SpL.start c236, rfl, kr, kr, kr, T237⟩
      rintro mm238 fr238 h238 ⟨m, St, bm, VS, hM, Iv, H, X, hm238, y238_0, y238_11, y238_12, T238⟩
      have N238 := T238.nx
      refine W_set (k := 0) y238_0 (W_set (k := 11) y238_11 (W_set (k := 12) y238_12 ?_))
      have V238 : Sm Nix h238 h238 := .refl
      refine W_seq (W_sg 1 kr (L_nil ?_))
      refine W_cond (bm) kr (fun hb => ?_) (fun hb => ?_)
      ·
       subst hb
       obtain ⟨k, rfl⟩ := hM.pos Iv
       refine W_skip (W_block (W_sg 1 kr (L_nil (W_sg 1 kr (L_nil (W_block ?_))))))
       refine W_loop (fun mm fr hh => ∃ (q : Nat) (VS : Option Nat → Value), (q ≤ N) ∧ (RT hh (fun b => b < h237.next ∧ b ≠ h233.next) h236.next VL (VS none) N L C) ∧ (SpL hh h237.next h233.next VS N (rnd N L C q (St, false)).1) ∧ mm = N - q ∧ fr 0 = VL none ∧ fr 11 = ptr h236.next ∧ fr 12 = .bool (rnd N L C q (St, false)).2 ∧ fr 13 = nv (q : Int) ∧ Sm Nix h hh) (N) ?_ ?_
       ·
        exact ⟨0, VS, Nat.zero_le _, H.ext V238, X.ext V238, rfl, kr, kr, kr, kr, T238⟩
       rintro mm239 fr239 h239 ⟨q, VS, hq, H, X, hm239, y239_0, y239_11, y239_12, y239_13, T239⟩
       have N239 := T239.nx
       refine W_set (k := 0) y239_0 (W_set (k := 11) y239_11 (W_set (k := 12) y239_12 (W_set (k := 13) y239_13 ?_)))
       have V239 : Sm Nix h239 h239 := .refl
       refine W_seq (W_sg 2 kr (L_ln _ rfl rfl kr ((I.ext T239).len (T := 22) (el := 27) kr) (L_g 1 kr (L_nil ?_))))
       refine W_cond (decide ((q : Int) < (N : Nat))) kr (fun hb => ?_) (fun hb => ?_)
       ·
        have hlt : q < N := by simp at hb; omega
        refine W_skip (W_seq (W_block (W_block ?_)))
        refine W_loop (fun mm fr hh => ∃ (S1 : Sf) (b1 : Bool) (VS : Option Nat → Value), (goP N L C (rnd N L C q (St, false)).1 q = goP N L C S1 q) ∧ ((S1 = (rnd N L C q (St, false)).1 ∧ b1 = (rnd N L C q (St, false)).2) ∨ (b1 = true ∧ (nxt N L C (rnd N L C q (St, false)).1 q).isSome = true)) ∧ (Inv N L S1) ∧ (RT hh (fun b => b < h237.next ∧ b ≠ h233.next) h236.next VL (VS none) N L C) ∧ (SpL hh h237.next h233.next VS N S1) ∧ mm = (L q).length - (S1 q).length ∧ fr 0 = VL none ∧ fr 11 = ptr h236.next ∧ fr 12 = .bool b1 ∧ fr 13 = nv (q : Int) ∧ Sm Nix h hh) (((L q).length - ((rnd N L C q (St, false)).1 q).length)) ?_ ?_
        ·
         exact ⟨(rnd N L C q (St, false)).1, (rnd N L C q (St, false)).2, VS, rfl, (.inl ⟨rfl, rfl⟩), (Iv.rnd A.c A.l q hq).1, H.ext V239, X.ext V239, rfl, kr, kr, kr, kr, T239⟩
        rintro mm240 fr240 h240 ⟨S1, b1, VS, hg, hf, I1, H, X, hm240, y240_0, y240_11, y240_12, y240_13, T240⟩
        have N240 := T240.nx
        refine W_set (k := 0) y240_0 (W_set (k := 11) y240_11 (W_set (k := 12) y240_12 (W_set (k := 13) y240_13 ?_)))
        have V240 : Sm Nix h240 h240 := .refl
        refine W_seq (W_seq ?_)
        rcases hn : nxt N L C S1 q with _ | s
        ·
         refine W_rg 2 kr (L_c rfl rfl kr (rnext_not (H.ext V240) (X.ext V240) I1.g A (fun b hb hx => by rcases hb with hb | hb <;> omega) hlt hn) ?_)
         rintro v241 h241 ⟨e241, t241⟩
         try dsimp only at e241
         try dsimp only at t241
         subst e241
         have T241 := T240.ext t241
         have V241 := V240.ext t241
         have N241 := T241.nx
         have NV241 := V241.nx
         have M241 := t241.nx
         refine L_nil ?_
         refine W_cond false kr (fun e => by cases e) (fun _ => ?_)
         refine W_exit ?_
         repeat with_reducible refine then_exit ?_
         refine exit_here (W_rg 1 kr (L_i ((q : Int)) (1) (nv ((q + 1 : Nat) : Int)) rfl rfl kr kr rfl (inc_ok (by omega)) (L_g 1 kr (L_nil ?_))))
         have e1 : (rnd N L C (q + 1) (St, false)).1 = S1 := by
          show goP N L C (rnd N L C q (St, false)).1 q = S1
          rw [hg, goP_none hn]
         have e2 : (rnd N L C (q + 1) (St, false)).2 = b1 := by
          show ((rnd N L C q (St, false)).2 || (nxt N L C (rnd N L C q (St, false)).1 q).isSome) = b1
          rcases hf with ⟨e3, e4⟩ | ⟨e3, e4⟩
          · rw [← e3, hn, e4]; simp
          · rw [e3, e4]; simp
         exact ⟨N - (q + 1), by omega, q + 1, VS, by omega, H.ext V241, by rw [e1]; exact X.ext V241, rfl, kr, kr, by rw [e2]; kernel_rfl, kr, T241⟩
        ·
         refine W_rg 2 kr (L_c rfl rfl kr (rnext_ok (H.ext V240) (X.ext V240) I1.g A (fun b hb hx => by rcases hb with hb | hb <;> omega) hlt hn) ?_)
         rintro v242 h242 ⟨e242, VS2, hv2, X2, t242⟩
         dsimp only at e242 X2 t242
         subst e242
         have H2 := (H.ext V240).sm t242 (fun b hb hx => by rcases hb with hb | hb <;> omega)
         rw [← hv2] at H2
         have T242 : Sm Nix h h242 := T240.trans t242 (fun b hb => .inr (by rcases hb with hb | hb <;> omega))
         have N242 := T242.nx
         refine L_nil ?_
         refine W_cond true kr (fun _ => ?_) (fun e => by cases e)
         refine W_skip (W_block (W_rg 1 kr (L_nil ?_)))
         have hnl := nxt_lt hn
         have hput : (put1 S1 q s q).length = (S1 q).length + 1 := by rw [put1_at]; simp
         exact ⟨(L q).length - (put1 S1 q s q).length, by omega, put1 S1 q s, true, VS2, by rw [hg]; exact goP_some hn, (.inr ⟨rfl, by
            rcases hf with ⟨e3, e4⟩ | ⟨e3, e4⟩
            · rw [← e3, hn]; rfl
            · exact e4⟩), I1.nxt A.c A.l hlt hn, H2, X2, rfl, kr, kr, kr, kr, T242⟩
       ·
        have hge : ¬ q < N := by simpa using hb
        refine W_exit ?_
        repeat with_reducible refine then_exit ?_
        refine exit_here ?_
        have hNq : N = q := by omega
        subst hNq
        exact ⟨k, by omega, k, (rnd N L C N (St, false)).1, (rnd N L C N (St, false)).2, VS, hM.step Iv A.c A.l, (Iv.rnd A.c A.l N (Nat.le_refl _)).1, H, X, rfl, kr, kr, kr, T239⟩
      ·
       subst hb
       have hts : timesS N L C = St := hM
       refine W_exit ?_
       repeat with_reducible refine then_exit ?_
       refine exit_here (W_seq (W_sg 1 kr (L_nil (W_block ?_))))
       refine W_loop (fun mm fr hh => ∃ (k : Nat), (k ≤ N) ∧ (∀ q, q < k → (L q).length ≤ (St q).length) ∧ (RT hh (fun b => b < h237.next ∧ b ≠ h233.next) h236.next VL (VS none) N L C) ∧ (SpL hh h237.next h233.next VS N St) ∧ mm = N - k ∧ fr 0 = VL none ∧ fr 11 = ptr h236.next ∧ fr 14 = nv (k : Int) ∧ Sm Nix h hh) (N) ?_ ?_
       ·
        exact ⟨0, Nat.zero_le _, (fun q hq => by omega), H.ext V238, X.ext V238, rfl, kr, kr, kr, T238⟩
       rintro mm243 fr243 h243 ⟨k, hk, hno, H, X, hm243, y243_0, y243_11, y243_14, T243⟩
       have N243 := T243.nx
       refine W_set (k := 0) y243_0 (W_set (k := 11) y243_11 (W_set (k := 14) y243_14 ?_))
       have V243 : Sm Nix h243 h243 := .refl
       refine W_seq (W_sg 2 kr (L_ln _ rfl rfl kr ((I.ext T243).len (T := 22) (el := 27) kr) (L_g 1 kr (L_nil ?_))))
       refine W_cond (decide ((k : Int) < (N : Nat))) kr (fun hb => ?_) (fun hb => ?_)
       ·
        have hlt : k < N := by simp at hb; omega
        refine W_skip (W_seq (W_block (W_seq (W_drawn kr (D_l (l := [0,1,2,3,4,5,6,7,8,9,10,11,12,13]) kr kr Rk_nil (NS_b 3 kr (NS_ld _ rfl rfl kr kr kr ((H.ext V243).cl.ld (o := 5) kr rfl) (NS_b 1 kr ?_))))))))
        obtain ⟨b1, o1, i1, l1⟩ := (X.ext V243).row (T := 39) (el := 52) kr kr kr hlt
        refine NS_ix _ rfl rfl kr kr kr kr (i1) (NS_ld _ rfl rfl kr kr kr ((X.ext V243).rowLd (T := 39) (el := 52) kr kr kr hlt i1) (NS_ln _ rfl rfl kr kr kr ((X.ext V243).lenR (T := 52) (el := 56) kr k) (NS_b 2 kr ?_)))
        obtain ⟨b6, o6, i6, l6⟩ := (I.ext T243).row (T := 22) (el := 27) kr kr kr hlt
        refine NS_ix _ rfl rfl kr kr kr kr (i6) (NS_ld _ rfl rfl kr kr kr ((I.ext T243).rowLd (T := 22) (el := 27) kr kr kr hlt i6) (NS_ln _ rfl rfl kr kr kr ((I.ext T243).lenR (T := 27) (el := 83) kr hlt) (NS_i (((St k).length : Int)) (((L k).length : Int)) (.bool (decide ((St k).length < (L k).length))) rfl rfl kr kr kr kr rfl (by simp) (NS_nil ?_))))
        refine W_cond (decide ((St k).length < (L k).length)) kr (fun hb => ?_) (fun hb => ?_)
        ·
         have hdn : doneT N L (timesS N L C) = false := by
          rw [hts]
          have hlt3 : (St k).length < (L k).length := of_decide_eq_true hb
          exact List.all_eq_false.2 ⟨k, List.mem_range.2 hlt, by simp; omega⟩
         refine W_sg 2 kr (L_nil (W_ret ?_))
         repeat first | with_reducible refine then_ret ?_ | with_reducible refine blk_ret ?_
         have herr : errT N L C = 2 := by
          unfold errT
          rw [if_neg hno1, if_neg hmany, if_neg hcost, if_neg (by rw [hidx]; simp), if_pos hdn]
         refine done_of (v := .tuple ⟨[.pointer none, nv 2]⟩) (.inl rfl) kr ?_
         exact .inl ⟨by rw [herr]; decide, by rw [herr], T243⟩
        ·
         refine W_skip (W_rg 1 kr (L_i ((k : Int)) (1) (nv ((k + 1 : Nat) : Int)) rfl rfl kr kr rfl (inc_ok (by omega)) (L_g 1 kr (L_nil ?_))))
         exact ⟨N - (k + 1), by omega, k + 1, by omega, (fun q hq => (Nat.lt_succ_iff_lt_or_eq.1 hq).elim (hno q) (fun e => by subst e; simp at hb; omega)), H.ext V243, X.ext V243, rfl, kr, kr, kr, T243⟩
       ·
        have hge : N ≤ k := by simp at hb; omega
        refine W_exit ?_
        repeat with_reducible refine then_exit ?_
        refine exit_here (W_sg 3 kr (L_nil (W_ret ?_)))
        repeat first | with_reducible refine then_ret ?_ | with_reducible refine blk_ret ?_
        refine done_of (v := .tuple ⟨[ptr h236.next, nv 0]⟩) (.inl rfl) kr ?_
        have hdn : doneT N L (timesS N L C) = true := by
         rw [hts]
         exact List.all_eq_true.2 (fun q hq => decide_eq_true (hno q (by have := List.mem_range.1 hq; omega)))
        have herr : errT N L C = 0 := by
         unfold errT
         rw [if_neg hno1, if_neg hmany, if_neg hcost, if_neg (by rw [hidx]; simp), if_neg (by rw [hdn]; simp)]
        refine .inr ⟨herr, h236.next, _, h237.next, h233.next, VS, rfl, H.ext V243, hts ▸ X.ext V243, (fun b hb hx => by rcases hb with hb | hb <;> omega), by omega, T243⟩
end
end Go.Proofs.YtjhbbdfbngbjcaaGreatDoor
