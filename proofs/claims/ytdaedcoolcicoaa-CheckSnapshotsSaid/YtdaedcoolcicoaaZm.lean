/- A part of the proof. -/
import Derived.Test.YtdaedcoolcicoaaZl
namespace Go.Proofs.Ytdaedcoolcicoaa
noncomputable section
open Go Go.X Go.Arm
theorem Gd.passes {n c s : Nat} {m : Fl} (H : Gd n c m) : ∀ {k : Nat}, Gd n (c + k) (Fl.passes s k m)
  | 0 => H
  | k + 1 => (Gd.passes H (k := k)).pass
theorem Gd.rep1 {n c : Nat} {m : Fl} (H : Gd n c m) : ∀ {k : Nat}, Gd n (c + k) (Fl.rep Fl.d01 k m)
  | 0 => H
  | k + 1 => (Gd.rep1 H (k := k)).dlv
theorem Gd.rep2 {n c : Nat} {m : Fl} (H : Gd n c m) : ∀ {k : Nat}, Gd n (c + 2 * k) (Fl.rep Fl.d2 k m)
  | 0 => H
  | k + 1 => (Gd.rep2 H (k := k)).dlv.dlv
theorem add_ok {a b : Nat} (h : a + b < 1000000000) : Value.int .i64 (IntKind.i64.wrap ((a : Int) + (b : Int))) = .int .i64 ((a + b : Nat) : Int) := by
  have : IntKind.i64.wrap ((a : Int) + (b : Int)) = ((a + b : Nat) : Int) := by rw [IntKind.wrap_i64]; omega
  rw [this]
theorem sub_ok {a b : Nat} (h : b ≤ a) (h2 : a < 1000000000) : Value.int .i64 (IntKind.i64.wrap ((a : Int) - (b : Int))) = .int .i64 ((a - b : Nat) : Int) := by
  have : IntKind.i64.wrap ((a : Int) - (b : Int)) = ((a - b : Nat) : Int) := by rw [IntKind.wrap_i64]; omega
  rw [this]
theorem works_ok {h : AH} : Arm.Calls Try.prog 9 [] h (fun r => r = (.bool true, h)) := ⟨_, eRun_known (P := Try.prog) rfl h, fun a ha => by cases List.mem_singleton.1 ha; rfl⟩
set_option maxHeartbeats 8000000 in
theorem cuts_true {h : AH} {x y z : Int} (hx : 0 ≤ x ∧ x < 256) (hy : 0 ≤ y ∧ y < 256) (hz : 0 ≤ z ∧ z < 256) : Arm.Calls Try.prog 6 [.int .u8 x, .int .u8 y, .int .u8 z, .bool true] h (fun r => r.1 = .bool true) := by
  have ea := u8mod hx 20 (by decide)
  have eb := u8mod hy 20 (by decide)
  have ec := u8mod hz 20 (by decide)
  have ha9 : x.toNat % (20 : Int).toNat < 20 := Nat.mod_lt _ (by decide)
  have hb9 : y.toNat % (20 : Int).toNat < 20 := Nat.mod_lt _ (by decide)
  have hc9 : z.toNat % (20 : Int).toNat < 20 := Nat.mod_lt _ (by decide)
  generalize x.toNat % (20 : Int).toNat = a at ea ha9
  generalize y.toNat % (20 : Int).toNat = b at eb hb9
  generalize z.toNat % (20 : Int).toNat = c at ec hc9
  have G0 : Gd 2 0 (Fl.new_ [0, 0]) := Gd.new rfl
  have G1 : Gd 2 a (Fl.passes 0 a (Fl.new_ [0, 0])) := (G0.passes (s := 0) (k := a)).up (by omega)
  have G2 : Gd 2 (a + b) (Fl.rep Fl.d01 b (Fl.passes 0 a (Fl.new_ [0, 0]))) := G1.rep1
  have G3 : Gd 2 (a + b + 1) ((Fl.rep Fl.d01 b (Fl.passes 0 a (Fl.new_ [0, 0]))).begin_ 0) := G2.begin_
  have G4 : Gd 2 (a + b + 1) ((Fl.rep Fl.d01 b (Fl.passes 0 a (Fl.new_ [0, 0]))).begin_ 0) := G3
  have G5 : Gd 2 (a + b + 1 + c) (Fl.passes (a + c) c ((Fl.rep Fl.d01 b (Fl.passes 0 a (Fl.new_ [0, 0]))).begin_ 0)) := G4.passes
  have hsh : (Fl.rep Fl.d01 b (Fl.passes 0 a (Fl.new_ [0, 0]))).sh = none := by
    have h1 : Fl.Is (Fl.passes 0 a (Fl.new_ [0, 0])) (-(Fl.two (0 + a) - 1)) 0 ([] ++ Fl.nums (Fl.pw 0 a)) [] none := Fl.Is.passes (s0 := 0) (m := Fl.new_ [0, 0]) Fl.Is.new a (by omega)
    rw [List.nil_append, Nat.zero_add] at h1
    exact (h1.first a b (by omega)).sh
  refine Calls_of_W (n := 188) (fn := Try.f6) (by kernel_rfl) rfl rfl (Nat.le_of_ble_eq_true rfl) trivial (.inr (by simp)) ?_
  refine W_seq ?_
  refine W_region ?_
  refine L_g 1 (by kernel_rfl) ?_
  refine L_nil ?_
  refine W_seq ?_
  refine W_region ?_
  refine L_nw (Al.cells [Value.int .i64 0, Value.int .i64 0]) (.sl 2 2) rfl rfl (by kernel_rfl) ?_
  have c1 : Cl (h.push (Al.cells [Value.int .i64 0, Value.int .i64 0]).obj) h.next [Value.int .i64 0, Value.int .i64 0] := Cl.new h _
  have t1 : Sm Nix h (h.push (Al.cells [Value.int .i64 0, Value.int .i64 0]).obj) := .push h _
  have n1 : (h.push (Al.cells [Value.int .i64 0, Value.int .i64 0]).obj).next = h.next + 1 := rfl
  generalize h.push (Al.cells [Value.int .i64 0, Value.int .i64 0]).obj = h1 at c1 t1 n1 ⊢
  refine L_c rfl rfl (by kernel_rfl) (new_ok (l := [0, 0]) (c1.sd rfl) (by decide) (by decide)) ?_
  rintro v2 h2 ⟨f, fp, ev, F2, t2, nb⟩
  dsimp only at ev F2 t2 nb
  subst ev
  refine L_g 5 (by kernel_rfl) ?_
  refine L_nil ?_
  refine W_seq ?_
  refine W_seq ?_
  refine W_region ?_
  refine L_g 2 (by kernel_rfl) ?_
  refine L_nil ?_
  refine W_cond false (by kernel_rfl) (fun e => by cases e) (fun _ => ?_)
  refine W_skip ?_
  refine W_seq ?_
  refine W_region ?_
  refine L_g 2 (by kernel_rfl) ?_
  refine L_p (.int .i64 (a : Nat)) rfl (Eq.trans (b := some (.int .i64 (Int.tmod (IntKind.i64.wrap x) 20))) (by kernel_rfl) (by rw [ea])) ?_
  refine L_g 2 (by kernel_rfl) ?_
  refine L_p (.int .i64 (b : Nat)) rfl (Eq.trans (b := some (.int .i64 (Int.tmod (IntKind.i64.wrap y) 20))) (by kernel_rfl) (by rw [eb])) ?_
  refine L_g 2 (by kernel_rfl) ?_
  refine L_p (.int .i64 (c : Nat)) rfl (Eq.trans (b := some (.int .i64 (Int.tmod (IntKind.i64.wrap z) 20))) (by kernel_rfl) (by rw [ec])) ?_
  refine L_g 3 (by kernel_rfl) ?_
  refine L_nil ?_
  refine W_seq ?_
  refine W_seq ?_
  refine W_region ?_
  refine L_g 2 (by kernel_rfl) ?_
  refine L_nil ?_
  refine W_block ?_
  refine W_loop (fun i fr hh => ∃ k, k ≤ a ∧ i = a - k ∧ fr 3 = .bool true ∧ fr 9 = ptr f ∧ fr 11 = .int .i64 a ∧ fr 12 = .int .i64 b ∧ fr 13 = .int .i64 c ∧ fr 40 = .int .i64 a ∧ fr 41 = .int .i64 k ∧ FR hh f fp (Fl.passes 0 k (Fl.new_ [0, 0]))) (a) ?_ ?_
  ·
    exact ⟨0, Nat.zero_le _, rfl, by kernel_rfl, by kernel_rfl, by kernel_rfl, by kernel_rfl, by kernel_rfl, by kernel_rfl, by kernel_rfl, F2⟩
  rintro i1 fr1 hl1 ⟨k1, hk1, hi1, y3, y9, y11, y12, y13, yi, yj, FL1⟩
  refine W_set (k := 3) y3 (W_set (k := 9) y9 (W_set (k := 11) y11 (W_set (k := 12) y12 (W_set (k := 13) y13 (W_set (k := 40) yi (W_set (k := 41) yj ?_))))))
  refine W_seq ?_
  refine W_region ?_
  refine L_g 1 (by kernel_rfl) ?_
  refine L_nil ?_
  refine W_seq ?_
  refine W_cond (decide ((k1 : Int) < (a : Nat))) (by kernel_rfl) (fun hb => ?_) (fun hb => ?_)
  ·
    have hlt : k1 < a := by simp at hb; omega
    refine W_skip ?_
    refine W_seq ?_
    refine W_block ?_
    refine W_seq ?_
    refine W_region ?_
    refine L_g 2 (by kernel_rfl) ?_
    refine L_nil ?_
    refine W_region ?_
    refine L_g 2 (by kernel_rfl) ?_
    refine L_p (.int .i64 (Fl.two k1)) rfl (ev_shl (by kernel_rfl) (by omega)) ?_
    refine L_c rfl rfl (by kernel_rfl) ((G0.passes (s := 0) (k := k1)).callPass (p := 0) (q := 1) (v := Fl.two k1) FL1 (by omega) (by decide) (by decide) (by decide)) ?_
    rintro v3 h3 ⟨e3, F3, t3⟩
    dsimp only at e3 F3 t3
    refine L_nil ?_
    refine W_region ?_
    refine L_i ((k1 : Int)) (1) (.int .i64 ((k1 + 1 : Nat) : Int)) rfl rfl (by kernel_rfl) (by kernel_rfl) rfl (inc_ok (by omega)) ?_
    refine L_g 1 (by kernel_rfl) ?_
    refine L_nil ?_
    refine ⟨a - (k1 + 1), by omega, k1 + 1, by omega, rfl, by kernel_rfl, by kernel_rfl, by kernel_rfl, by kernel_rfl, by kernel_rfl, by kernel_rfl, by kernel_rfl, ?_⟩
    have e : Fl.passes 0 (k1 + 1) (Fl.new_ [0, 0]) = (Fl.passes 0 k1 (Fl.new_ [0, 0])).pass 0 1 (Fl.two k1) := by show (Fl.passes 0 k1 (Fl.new_ [0, 0])).pass 0 1 (Fl.two (0 + k1)) = _; rw [Nat.zero_add]
    rw [e]; exact F3
  ·
    have hge1 : k1 = a := by simp at hb; omega
    rw [hge1] at FL1
    refine W_exit ?_
    repeat with_reducible refine then_exit ?_
    refine exit_here ?_
    refine W_seq ?_
    refine W_seq ?_
    refine W_region ?_
    refine L_g 2 (by kernel_rfl) ?_
    refine L_nil ?_
    refine W_block ?_
    refine W_loop (fun i fr hh => ∃ k, k ≤ b ∧ i = b - k ∧ fr 3 = .bool true ∧ fr 9 = ptr f ∧ fr 11 = .int .i64 a ∧ fr 12 = .int .i64 b ∧ fr 13 = .int .i64 c ∧ fr 49 = .int .i64 b ∧ fr 50 = .int .i64 k ∧ FR hh f fp (Fl.rep Fl.d01 k (Fl.passes 0 a (Fl.new_ [0, 0])))) (b) ?_ ?_
    ·
      exact ⟨0, Nat.zero_le _, rfl, by kernel_rfl, by kernel_rfl, by kernel_rfl, by kernel_rfl, by kernel_rfl, by kernel_rfl, by kernel_rfl, FL1⟩
    rintro i2 fr2 hl2 ⟨k2, hk2, hi2, y3, y9, y11, y12, y13, yi, yj, FL2⟩
    refine W_set (k := 3) y3 (W_set (k := 9) y9 (W_set (k := 11) y11 (W_set (k := 12) y12 (W_set (k := 13) y13 (W_set (k := 49) yi (W_set (k := 50) yj ?_))))))
    refine W_seq ?_
    refine W_region ?_
    refine L_g 1 (by kernel_rfl) ?_
    refine L_nil ?_
    refine W_seq ?_
    refine W_cond (decide ((k2 : Int) < (b : Nat))) (by kernel_rfl) (fun hb => ?_) (fun hb => ?_)
    ·
      have hlt : k2 < b := by simp at hb; omega
      refine W_skip ?_
      refine W_seq ?_
      refine W_block ?_
      refine W_region ?_
      refine L_g 1 (by kernel_rfl) ?_
      refine L_c rfl rfl (by kernel_rfl) ((G1.rep1 (k := k2)).callDlv (p := 0) (q := 1) FL2 (by omega) (by decide) (by decide) (by decide) (by decide)) ?_
      rintro v3 h3 ⟨⟨d3, e3⟩, F3, t3⟩
      dsimp only at e3 F3 t3
      refine L_nil ?_
      refine W_region ?_
      refine L_i ((k2 : Int)) (1) (.int .i64 ((k2 + 1 : Nat) : Int)) rfl rfl (by kernel_rfl) (by kernel_rfl) rfl (inc_ok (by omega)) ?_
      refine L_g 1 (by kernel_rfl) ?_
      refine L_nil ?_
      refine ⟨b - (k2 + 1), by omega, k2 + 1, by omega, rfl, by kernel_rfl, by kernel_rfl, by kernel_rfl, by kernel_rfl, by kernel_rfl, by kernel_rfl, by kernel_rfl, ?_⟩
      exact F3
    ·
      have hge2 : k2 = b := by simp at hb; omega
      rw [hge2] at FL2
      refine W_exit ?_
      repeat with_reducible refine then_exit ?_
      refine exit_here ?_
      refine W_seq ?_
      refine W_region ?_
      refine L_g 1 (by kernel_rfl) ?_
      refine L_nil ?_
      refine W_seq ?_
      refine W_seq ?_
      refine W_region ?_
      refine L_g 1 (by kernel_rfl) ?_
      refine L_nil ?_
      refine W_cond true (by kernel_rfl) (fun _ => ?_) (fun e => by cases e)
      refine W_region ?_
      refine L_g 1 (by kernel_rfl) ?_
      refine L_nil ?_
      refine W_seq ?_
      refine W_seq ?_
      refine W_region ?_
      refine L_g 2 (by kernel_rfl) ?_
      refine L_c rfl rfl (by kernel_rfl) (G2.callBegin (p := 0) FL2 hsh (by omega) (by decide) (by decide)) ?_
      rintro v4 h4 ⟨e4, fp4, F4, t4, nb4⟩
      dsimp only at e4 F4 t4 nb4
      subst e4
      refine L_g 1 (by kernel_rfl) ?_
      refine L_nil ?_
      refine W_cond false (by kernel_rfl) (fun e => by cases e) (fun _ => ?_)
      refine W_skip ?_
      refine W_seq ?_
      refine W_seq ?_
      refine W_region ?_
      refine L_g 2 (by kernel_rfl) ?_
      refine L_nil ?_
      refine W_cond false (by kernel_rfl) (fun e => by cases e) (fun _ => ?_)
      refine W_skip ?_
      refine W_seq ?_
      refine W_seq ?_
      refine W_region ?_
      refine L_g 2 (by kernel_rfl) ?_
      refine L_nil ?_
      refine W_block ?_
      refine W_loop (fun i fr hh => ∃ k, k ≤ c ∧ i = c - k ∧ fr 3 = .bool true ∧ fr 9 = ptr f ∧ fr 11 = .int .i64 a ∧ fr 12 = .int .i64 b ∧ fr 13 = .int .i64 c ∧ fr 75 = .int .i64 c ∧ fr 76 = .int .i64 k ∧ FR hh f fp4 (Fl.passes (a + c) k ((Fl.rep Fl.d01 b (Fl.passes 0 a (Fl.new_ [0, 0]))).begin_ 0))) (c) ?_ ?_
      ·
        exact ⟨0, Nat.zero_le _, rfl, by kernel_rfl, by kernel_rfl, by kernel_rfl, by kernel_rfl, by kernel_rfl, by kernel_rfl, by kernel_rfl, F4⟩
      rintro i4 fr4 hl4 ⟨k4, hk4, hi4, y3, y9, y11, y12, y13, yi, yj, FL4⟩
      refine W_set (k := 3) y3 (W_set (k := 9) y9 (W_set (k := 11) y11 (W_set (k := 12) y12 (W_set (k := 13) y13 (W_set (k := 75) yi (W_set (k := 76) yj ?_))))))
      refine W_seq ?_
      refine W_region ?_
      refine L_g 1 (by kernel_rfl) ?_
      refine L_nil ?_
      refine W_seq ?_
      refine W_cond (decide ((k4 : Int) < (c : Nat))) (by kernel_rfl) (fun hb => ?_) (fun hb => ?_)
      ·
        have hlt : k4 < c := by simp at hb; omega
        refine W_skip ?_
        refine W_seq ?_
        refine W_block ?_
        refine W_seq ?_
        refine W_region ?_
        refine L_g 2 (by kernel_rfl) ?_
        refine L_nil ?_
        refine W_region ?_
        refine L_g 3 (by kernel_rfl) ?_
        refine L_i ((a : Nat)) ((c : Nat)) (.int .i64 ((a + c : Nat) : Int)) rfl rfl (by kernel_rfl) (by kernel_rfl) rfl (add_ok (by omega)) ?_
        refine L_g 1 (by kernel_rfl) ?_
        refine L_i ((a + c : Nat)) ((k4 : Nat)) (.int .i64 ((a + c + k4 : Nat) : Int)) rfl rfl (by kernel_rfl) (by kernel_rfl) rfl (add_ok (by omega)) ?_
        refine L_p (.int .i64 (Fl.two (a + c + k4))) rfl (ev_shl (by kernel_rfl) (by omega)) ?_
        refine L_c rfl rfl (by kernel_rfl) ((G4.passes (s := a + c) (k := k4)).callPass (p := 0) (q := 1) (v := Fl.two (a + c + k4)) FL4 (by omega) (by decide) (by decide) (by decide)) ?_
        rintro v3 h3 ⟨e3, F3, t3⟩
        dsimp only at e3 F3 t3
        refine L_nil ?_
        refine W_region ?_
        refine L_i ((k4 : Int)) (1) (.int .i64 ((k4 + 1 : Nat) : Int)) rfl rfl (by kernel_rfl) (by kernel_rfl) rfl (inc_ok (by omega)) ?_
        refine L_g 1 (by kernel_rfl) ?_
        refine L_nil ?_
        refine ⟨c - (k4 + 1), by omega, k4 + 1, by omega, rfl, by kernel_rfl, by kernel_rfl, by kernel_rfl, by kernel_rfl, by kernel_rfl, by kernel_rfl, by kernel_rfl, ?_⟩
        exact F3
      ·
        have hge4 : k4 = c := by simp at hb; omega
        rw [hge4] at FL4
        refine W_exit ?_
        repeat with_reducible refine then_exit ?_
        refine exit_here ?_
        refine W_seq ?_
        refine W_seq ?_
        refine W_region ?_
        refine L_g 1 (by kernel_rfl) ?_
        refine L_nil ?_
        refine W_block ?_
        refine W_loop (fun i fr hh => ∃ k, k ≤ 100 ∧ i = 100 - k ∧ fr 3 = .bool true ∧ fr 9 = ptr f ∧ fr 11 = .int .i64 a ∧ fr 12 = .int .i64 b ∧ fr 13 = .int .i64 c ∧ fr 88 = .int .i64 k ∧ FR hh f fp4 (Fl.rep Fl.d2 k (Fl.passes (a + c) c ((Fl.rep Fl.d01 b (Fl.passes 0 a (Fl.new_ [0, 0]))).begin_ 0)))) (100) ?_ ?_
        ·
          exact ⟨0, Nat.zero_le _, rfl, by kernel_rfl, by kernel_rfl, by kernel_rfl, by kernel_rfl, by kernel_rfl, by kernel_rfl, FL4⟩
        rintro i5 fr5 hl5 ⟨k5, hk5, hi5, y3, y9, y11, y12, y13, yj, FL5⟩
        refine W_set (k := 3) y3 (W_set (k := 9) y9 (W_set (k := 11) y11 (W_set (k := 12) y12 (W_set (k := 13) y13 (W_set (k := 88) yj ?_)))))
        refine W_seq ?_
        refine W_region ?_
        refine L_g 1 (by kernel_rfl) ?_
        refine L_nil ?_
        refine W_seq ?_
        refine W_cond (decide ((k5 : Int) < 100)) (by kernel_rfl) (fun hb => ?_) (fun hb => ?_)
        ·
          have hlt : k5 < 100 := by simp at hb; omega
          refine W_skip ?_
          refine W_seq ?_
          refine W_block ?_
          refine W_seq ?_
          refine W_region ?_
          refine L_g 1 (by kernel_rfl) ?_
          refine L_c rfl rfl (by kernel_rfl) ((G5.rep2 (k := k5)).callDlv (p := 0) (q := 1) FL5 (by omega) (by decide) (by decide) (by decide) (by decide)) ?_
          rintro v6 h6 ⟨⟨d6, e6⟩, F6, t6⟩
          dsimp only at e6 F6 t6
          refine L_nil ?_
          refine W_region ?_
          refine L_g 1 (by kernel_rfl) ?_
          refine L_c rfl rfl (by kernel_rfl) ((G5.rep2 (k := k5)).dlv.callDlv (p := 1) (q := 0) F6 (by omega) (by decide) (by decide) (by decide) (by decide)) ?_
          rintro v7 h7 ⟨⟨d7, e7⟩, F7, t7⟩
          dsimp only at e7 F7 t7
          refine L_nil ?_
          refine W_region ?_
          refine L_i ((k5 : Int)) (1) (.int .i64 ((k5 + 1 : Nat) : Int)) rfl rfl (by kernel_rfl) (by kernel_rfl) rfl (inc_ok (by omega)) ?_
          refine L_g 1 (by kernel_rfl) ?_
          refine L_nil ?_
          refine ⟨100 - (k5 + 1), by omega, k5 + 1, by omega, rfl, by kernel_rfl, by kernel_rfl, by kernel_rfl, by kernel_rfl, by kernel_rfl, by kernel_rfl, ?_⟩
          exact F7
        ·
          have hge5 : k5 = 100 := by simp at hb; omega
          rw [hge5] at FL5
          refine W_exit ?_
          repeat with_reducible refine then_exit ?_
          refine exit_here ?_
          refine W_seq ?_
          refine W_region ?_
          refine L_g 1 (by kernel_rfl) ?_
          obtain ⟨s, hs, hop, es0, es1, esc⟩ := Fl.cuts_end (a := a) (b := b) (c := c) (sender := true) ha9 hb9 hc9 (got := a) (sent := a) rfl rfl
          refine L_c rfl rfl (by kernel_rfl) ((G5.rep2 (k := 100)).callTaken FL5 hs hop (by omega) (by decide)) ?_
          rintro v8 h8 ⟨A, B, fp8, e8, ⟨ca, cA, lca, rca⟩, ⟨cb, cB, lcb, rcb⟩, nA, nB, _, _, _, _⟩
          dsimp only at e8 cA lca rca cB lcb rcb nA nB
          subst e8
          obtain ⟨R, hR, nR, cr, cR, lcr, rcr⟩ := rcb 0 (by decide)
          obtain ⟨u, hu, gu, _⟩ := rcr 1 (by decide)
          have hA0 : ca[0]? = some (.int .i64 (-(Fl.two a - 1))) := by rw [rca 0 (by decide)]; show some (iv ((kget s.st 0).getD 0)) = _; rw [es0]; rfl
          have hA1 : ca[1]? = some (.int .i64 (Fl.two a - 1)) := by rw [rca 1 (by decide)]; show some (iv ((kget s.st 1).getD 0)) = _; rw [es1]; rfl
          have hL : Fl.ctOf s (((0 : Nat) : Int), ((1 : Nat) : Int)) = Fl.pw a (a - a) := esc
          have hlen : (Fl.ctOf s (((0 : Nat) : Int), ((1 : Nat) : Int))).length = a - a := by rw [hL, Fl.pw_len]
          dsimp only at gu
          generalize Fl.ctOf s (((0 : Nat) : Int), ((1 : Nat) : Int)) = L at gu hL hlen
          have g1 : a ≤ a := by omega
          have b1 := Fl.two_mono (k := a) (l := 60) (by omega)
          have b2 := Fl.two_mono (k := a) (l := 60) (by omega)
          have b3 := Fl.two_pos a
          have b4 := Fl.two_pos a
          rw [Fl.two_60] at b1 b2
          refine L_g 4 (by kernel_rfl) ?_
          refine L_nw (Al.cells [Value.slice none 0 0, Value.slice none 0 0]) (.ptr) rfl rfl (by kernel_rfl) ?_
          have c9 : Cl (h8.push (Al.cells [Value.slice none 0 0, Value.slice none 0 0]).obj) h8.next [Value.slice none 0 0, Value.slice none 0 0] := Cl.new h8 _
          have t9 : Sm Nix h8 (h8.push (Al.cells [Value.slice none 0 0, Value.slice none 0 0]).obj) := .push h8 _
          have n9 : (h8.push (Al.cells [Value.slice none 0 0, Value.slice none 0 0]).obj).next = h8.next + 1 := rfl
          generalize h8.push (Al.cells [Value.slice none 0 0, Value.slice none 0 0]).obj = h9 at c9 t9 n9 ⊢
          obtain ⟨h10, e10, c10, t10, n10⟩ := c9.storeS (P := Try.prog) (T := 71) (v := .agg ⟨[Value.slice (some ⟨A, 0, none⟩) 2 2, Value.slice (some ⟨B, 0, none⟩) 2 2]⟩) (cs := [Value.slice (some ⟨A, 0, none⟩) 2 2, Value.slice (some ⟨B, 0, none⟩) 2 2]) (by kernel_rfl) rfl rfl (fun x hx => by simp only [List.mem_cons, List.not_mem_nil, or_false] at hx; rcases hx with rfl | rfl <;> rfl)
          have lA := cA.lt
          have lB := cB.lt
          have lR := cR.lt
          have cA := (cA.ext t9).sm t10 (by omega)
          have cB := (cB.ext t9).sm t10 (by omega)
          have cR := (cR.ext t9).sm t10 (by omega)
          have gu := (gu.ext t9).sm t10 (fun b hb e => by have := gu.lt hb; omega)
          refine L_st _ rfl rfl rfl (by kernel_rfl) (by kernel_rfl) (e10) ?_
          refine L_g 2 (by kernel_rfl) ?_
          refine L_nil ?_
          refine W_seq ?_
          refine W_seq ?_
          refine W_region ?_
          refine L_g 8 (by kernel_rfl) ?_
          refine L_want (by kernel_rfl) ?_
          refine L_ld _ rfl rfl (by kernel_rfl) (c10.ld (o := 0) (by kernel_rfl) rfl) ?_
          refine L_g 5 (by kernel_rfl) ?_
          refine L_want (by kernel_rfl) ?_
          refine L_ld _ rfl rfl (by kernel_rfl) (c10.ld (o := 1) (by kernel_rfl) rfl) ?_
          refine L_g 5 (by kernel_rfl) ?_
          refine L_want (by kernel_rfl) ?_
          refine L_ld _ rfl rfl (by kernel_rfl) (c10.ld (o := 1) (by kernel_rfl) rfl) ?_
          refine L_g 1 (by kernel_rfl) ?_
          refine L_want (by kernel_rfl) ?_
          refine L_ld _ rfl rfl (by kernel_rfl) (cB.ld (o := 0) (by kernel_rfl) hR) ?_
          refine L_g 3 (by kernel_rfl) ?_
          refine L_nil ?_
          refine W_cond false (by kernel_rfl) (fun e => by cases e) (fun _ => ?_)
          refine W_skip ?_
          refine W_seq ?_
          refine W_region ?_
          refine L_g 3 (by kernel_rfl) ?_
          refine L_bi (.int .i64 ((min a b : Nat) : Int)) _ rfl rfl (by kernel_rfl) (vs := [.int .i64 (a : Nat), .int .i64 (b : Nat)]) (by kernel_rfl) (Eq.trans (b := some [(.val (.int .i64 (if ((b : Nat) : Int) < ((a : Nat) : Int) then ((b : Nat) : Int) else ((a : Nat) : Int))), h10)]) (by kernel_rfl) (by rw [minv])) ?_
          refine L_g 2 (by kernel_rfl) ?_
          refine L_nil ?_
          refine W_seq ?_
          refine W_seq ?_
          refine W_region ?_
          refine L_g 1 (by kernel_rfl) ?_
          refine L_nil ?_
          refine W_cond true (by kernel_rfl) (fun _ => ?_) (fun e => by cases e)
          refine W_region ?_
          refine L_g 2 (by kernel_rfl) ?_
          refine L_nil ?_
          refine W_seq ?_
          refine W_seq ?_
          refine W_drawn (by kernel_rfl) ?_
          refine D_l (l := [0, 1, 2, 3, 4, 5, 6, 7, 8, 9, 10, 11, 12, 13, 14, 15, 16, 17, 18, 19, 20, 21, 22, 23, 24, 25, 26, 27, 28, 29, 30, 31]) (by kernel_rfl) (by kernel_rfl) Rk_nil ?_
          refine NS_b 1 (by kernel_rfl) ?_
          refine NS_ld _ rfl rfl (by kernel_rfl) (by kernel_rfl) (by kernel_rfl) (c10.ld (o := 0) (by kernel_rfl) rfl) ?_
          refine NS_b 1 (by kernel_rfl) ?_
          refine NS_ld _ rfl rfl (by kernel_rfl) (by kernel_rfl) (by kernel_rfl) (cA.ld (o := 0) (by kernel_rfl) hA0) ?_
          refine NS_b 1 (by kernel_rfl) ?_
          refine NS_v (.int .i64 (Fl.two a)) rfl (by kernel_rfl) rfl (by kernel_rfl) (ev_shl (by kernel_rfl) (by omega)) ?_
          refine NS_i ((Fl.two a)) (1) (.int .i64 (Fl.two a - 1)) rfl rfl (by kernel_rfl) (by kernel_rfl) (by kernel_rfl) (by kernel_rfl) rfl (by rw [wr_ok (by omega)]) ?_
          refine NS_v (.int .i64 (-(Fl.two a - 1))) rfl (by kernel_rfl) rfl (by kernel_rfl) (Eq.trans (b := some (.int .i64 (IntKind.i64.wrap (0 - (Fl.two a - 1))))) (by kernel_rfl) (by rw [wr_ok (by omega), Int.zero_sub])) ?_
          refine NS_i ((-(Fl.two a - 1))) ((-(Fl.two a - 1))) (.bool false) rfl rfl (by kernel_rfl) (by kernel_rfl) (by kernel_rfl) (by kernel_rfl) rfl (by simp) ?_
          refine NS_b 2 (by kernel_rfl) ?_
          refine NS_ld _ rfl rfl (by kernel_rfl) (by kernel_rfl) (by kernel_rfl) (c10.ld (o := 0) (by kernel_rfl) rfl) ?_
          refine NS_b 1 (by kernel_rfl) ?_
          refine NS_ld _ rfl rfl (by kernel_rfl) (by kernel_rfl) (by kernel_rfl) (cA.ld (o := 1) (by kernel_rfl) hA1) ?_
          refine NS_b 1 (by kernel_rfl) ?_
          refine NS_v (.int .i64 (Fl.two a)) rfl (by kernel_rfl) rfl (by kernel_rfl) (ev_shl (by kernel_rfl) (by omega)) ?_
          refine NS_i ((Fl.two a)) (1) (.int .i64 (Fl.two a - 1)) rfl rfl (by kernel_rfl) (by kernel_rfl) (by kernel_rfl) (by kernel_rfl) rfl (by rw [wr_ok (by omega)]) ?_
          refine NS_i ((Fl.two a - 1)) ((Fl.two a - 1)) (.bool false) rfl rfl (by kernel_rfl) (by kernel_rfl) (by kernel_rfl) (by kernel_rfl) rfl (by simp) ?_
          refine NS_b 3 (by kernel_rfl) ?_
          refine NS_ld _ rfl rfl (by kernel_rfl) (by kernel_rfl) (by kernel_rfl) (c10.ld (o := 1) (by kernel_rfl) rfl) ?_
          refine NS_b 1 (by kernel_rfl) ?_
          refine NS_ld _ rfl rfl (by kernel_rfl) (by kernel_rfl) (by kernel_rfl) (cB.ld (o := 0) (by kernel_rfl) hR) ?_
          refine NS_b 1 (by kernel_rfl) ?_
          refine NS_ld _ rfl rfl (by kernel_rfl) (by kernel_rfl) (by kernel_rfl) (cR.ld (o := 1) (by kernel_rfl) hu) ?_
          refine NS_ln _ rfl rfl (by kernel_rfl) (by kernel_rfl) (by kernel_rfl) (gu.lenV u64) ?_
          refine NS_b 2 (by kernel_rfl) ?_
          refine NS_i (((a : Nat) : Int)) (((a : Nat) : Int)) (.int .i64 ((a - a : Nat) : Int)) rfl rfl (by kernel_rfl) (by kernel_rfl) (by kernel_rfl) (by kernel_rfl) rfl (sub_ok g1 (by omega)) ?_
          refine NS_i (((L.length : Nat) : Int)) (((a - a : Nat) : Int)) (.bool false) rfl rfl (by kernel_rfl) (by kernel_rfl) (by kernel_rfl) (by kernel_rfl) rfl (by rw [hlen]; simp) ?_
          refine NS_b 1 (by kernel_rfl) ?_
          refine NS_nil ?_
          refine W_cond false (by kernel_rfl) (fun e => by cases e) (fun _ => ?_)
          refine W_skip ?_
          refine W_seq ?_
          refine W_seq ?_
          refine W_region ?_
          refine L_g 1 (by kernel_rfl) ?_
          refine L_ld _ rfl rfl (by kernel_rfl) (c10.ld (o := 1) (by kernel_rfl) rfl) ?_
          refine L_g 1 (by kernel_rfl) ?_
          refine L_ld _ rfl rfl (by kernel_rfl) (cB.ld (o := 0) (by kernel_rfl) hR) ?_
          refine L_g 1 (by kernel_rfl) ?_
          refine L_ld _ rfl rfl (by kernel_rfl) (cR.ld (o := 1) (by kernel_rfl) hu) ?_
          refine L_ln _ rfl rfl (by kernel_rfl) (gu.lenV u64) ?_
          refine L_g 1 (by kernel_rfl) ?_
          refine L_nil ?_
          refine W_block ?_
          refine W_loop (fun i fr hh => ∃ k, k ≤ L.length ∧ i = L.length - k ∧ fr 21 = .int .i64 ((a : Nat) : Int) ∧ fr 173 = u ∧ fr 174 = .int .i64 L.length ∧ fr 175 = .int .i64 k ∧ hh = h10) (L.length) ?_ ?_
          ·
            exact ⟨0, Nat.zero_le _, rfl, by kernel_rfl, by kernel_rfl, by kernel_rfl, by kernel_rfl, rfl⟩
          rintro i6 fr6 h11 ⟨k6, hk6, hi6, y21, y173, y174, y175, rfl⟩
          refine W_set (k := 21) y21 (W_set (k := 173) y173 (W_set (k := 174) y174 (W_set (k := 175) y175 ?_)))
          refine W_seq ?_
          refine W_region ?_
          refine L_g 1 (by kernel_rfl) ?_
          refine L_nil ?_
          refine W_seq ?_
          refine W_cond (decide ((k6 : Int) < (L.length : Nat))) (by kernel_rfl) (fun hb => ?_) (fun hb => ?_)
          ·
            have hlt : k6 < L.length := by simp at hb; omega
            refine W_skip ?_
            refine W_seq ?_
            refine W_block ?_
            refine W_seq ?_
            refine W_region ?_
            refine L_g 1 (by kernel_rfl) ?_
            obtain ⟨pa, ei, el, _, _⟩ := stAt gu hlt
            have hLk : (L[k6]?).getD 0 = Fl.two (a + k6) := by rw [hL, Fl.pw_get _ _ _ (by omega)]; rfl
            refine L_ix _ rfl rfl (by kernel_rfl) (by kernel_rfl) (ei) ?_
            refine L_ld _ rfl rfl (by kernel_rfl) (el) ?_
            refine L_g 2 (by kernel_rfl) ?_
            refine L_nil ?_
            refine W_seq ?_
            refine W_region ?_
            refine L_g 3 (by kernel_rfl) ?_
            refine L_i ((a : Nat)) ((k6 : Nat)) (.int .i64 ((a + k6 : Nat) : Int)) rfl rfl (by kernel_rfl) (by kernel_rfl) rfl (add_ok (by omega)) ?_
            refine L_p (.int .i64 (Fl.two (a + k6))) rfl (ev_shl (by kernel_rfl) (by omega)) ?_
            refine L_i ((L[k6]?).getD 0) (Fl.two (a + k6)) (.bool false) rfl rfl (by kernel_rfl) (by kernel_rfl) rfl (by rw [hLk]; simp) ?_
            refine L_nil ?_
            refine W_cond false (by kernel_rfl) (fun e => by cases e) (fun _ => ?_)
            refine W_skip ?_
            refine W_region ?_
            refine L_i ((k6 : Int)) (1) (.int .i64 ((k6 + 1 : Nat) : Int)) rfl rfl (by kernel_rfl) (by kernel_rfl) rfl (inc_ok (by omega)) ?_
            refine L_g 1 (by kernel_rfl) ?_
            refine L_nil ?_
            exact ⟨L.length - (k6 + 1), by omega, k6 + 1, by omega, rfl, by kernel_rfl, by kernel_rfl, by kernel_rfl, by kernel_rfl, rfl⟩
          ·
            refine W_exit ?_
            repeat with_reducible refine then_exit ?_
            refine exit_here ?_
            refine W_seq ?_
            refine W_region ?_
            refine L_c rfl rfl (by kernel_rfl) (works_ok) ?_
            rintro v12 h12 e12
            cases e12
            refine L_g 1 (by kernel_rfl) ?_
            refine L_nil ?_
            refine W_ret ?_
            repeat first | with_reducible refine then_ret ?_ | with_reducible refine blk_ret ?_
            refine done_of (v := .bool true) (.inl rfl) (by kernel_rfl) ?_
            rfl
end
end Go.Proofs.Ytdaedcoolcicoaa
