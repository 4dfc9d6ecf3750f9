/- What the functions on the document's flows do. -/
import Derived.Test.YtdaedcoolcicoaaGreatZn
namespace Go.Proofs.YtdaedcoolcicoaaGreat
noncomputable section
open Go Go.X Go.Arm
theorem rtaken_off {h : AH} {f : Nat} {V : RL → Value} {m : Rm} (H : RR h f V m) (hbg : m.bg = false) :
    Arm.Calls Tryz.prog 41 [ptr f] h (fun r => r.1 = .tuple ⟨[.agg ⟨[Value.slice none 0 0, Value.slice none 0 0]⟩, .bool false, .int .i64 6]⟩ ∧ Sm Nix h r.2) := by
  refine Calls_of_W (n := 64) (fn := Tryz.f41) (by kernel_rfl) rfl rfl (Nat.le_of_ble_eq_true rfl) trivial ⟨.inr (by simp), rfl⟩ ?_
  refine W_seq ?_
  refine W_region ?_
  refine L_nw (Al.cells [Value.slice none 0 0, Value.slice none 0 0]) (.ptr) rfl rfl (by kernel_rfl) ?_
  have c1 : Cl (h.push (Al.cells [Value.slice none 0 0, Value.slice none 0 0]).obj) h.next [Value.slice none 0 0, Value.slice none 0 0] := Cl.new h _
  have t1 : Sm Nix h (h.push (Al.cells [Value.slice none 0 0, Value.slice none 0 0]).obj) := .push h _
  have n1 : (h.push (Al.cells [Value.slice none 0 0, Value.slice none 0 0]).obj).next = h.next + 1 := rfl
  generalize h.push (Al.cells [Value.slice none 0 0, Value.slice none 0 0]).obj = h1 at c1 t1 n1 ⊢
  have H1 := H.ext t1
  refine L_g 2 (by kernel_rfl) ?_
  refine L_nil ?_
  refine W_seq ?_
  refine W_seq ?_
  refine W_region ?_
  refine L_g 3 (by kernel_rfl) ?_
  refine L_ld _ rfl rfl (by kernel_rfl) ((show aLoad Tryz.prog 4 ⟨f, 2, none⟩ h1 = some (.bool false) from by have := H1.cl.ld (P := Tryz.prog) (T := 4) (o := 2) (by kernel_rfl) rfl; rw [hbg] at this; exact this)) ?_
  refine L_g 1 (by kernel_rfl) ?_
  refine L_nil ?_
  refine W_cond true (by kernel_rfl) (fun _ => ?_) (fun e => by cases e)
  refine W_seq ?_
  refine W_region ?_
  refine L_g 1 (by kernel_rfl) ?_
  obtain ⟨h2, e2, c2, t2, n2⟩ := c1.storeS (P := Tryz.prog) (T := 83) (v := .agg ⟨[Value.slice none 0 0, Value.slice none 0 0]⟩) (cs := [Value.slice none 0 0, Value.slice none 0 0]) (by kernel_rfl) rfl rfl (fun x hx => by simp only [List.mem_cons, List.not_mem_nil, or_false] at hx; rcases hx with rfl | rfl <;> rfl)
  refine L_st _ rfl rfl rfl (by kernel_rfl) (by kernel_rfl) (e2) ?_
  refine L_g 2 (by kernel_rfl) ?_
  refine L_nil ?_
  refine W_ret ?_
  repeat first | with_reducible refine then_ret ?_ | with_reducible refine blk_ret ?_
  refine done_of (.inl rfl) (evR_c3 (by kernel_rfl) (by kernel_rfl) (by kernel_rfl) (a := ⟨h.next, 0, none⟩) (by kernel_rfl) (c2.ldS (k := 2) (by kernel_rfl) (Nat.le_refl _)) (u := .bool false) (by kernel_rfl) (w := .int .i64 6) (by kernel_rfl)) ?_
  exact ⟨rfl, t1.trans t2 (fun x hx => .inr (by omega))⟩
set_option maxHeartbeats 1000000 in
theorem rtaken_ok {h : AH} {f : Nat} {V : RL → Value} {m : Rm} (H : RR h f V m) (hO : Rm.Ok m.st.length m) (hS : Rm.Sn m.st.length m) (hbg : m.bg = true) (hn : m.st.length < 1000000) :
    Arm.Calls Tryz.prog 41 [ptr f] h (fun r => (r.1 = .tuple ⟨[.agg ⟨[Value.slice none 0 0, Value.slice none 0 0]⟩, .bool false, .int .i64 0]⟩ ∧ Sm Nix h r.2 ∧ ∃ a b, a < m.st.length ∧ b < m.st.length ∧ (m.rcAt a = false ∨ m.o a b = true)) ∨
      (r.1 = .tuple ⟨[.agg ⟨[V .sh, V .ct]⟩, .bool true, .int .i64 0]⟩ ∧ (∀ x y, x < m.st.length → y < m.st.length → m.rcAt x = true ∧ m.o x y = false) ∧ RR r.2 f V { m with bg := false } ∧ Sm (fun b => b = f) h r.2)) := by
  refine Calls_of_W (n := 64) (fn := Tryz.f41) (by kernel_rfl) rfl rfl (Nat.le_of_ble_eq_true rfl) trivial ⟨.inr (by simp), rfl⟩ ?_
  refine W_seq ?_
  refine W_region ?_
  refine L_nw (Al.cells [Value.slice none 0 0, Value.slice none 0 0]) (.ptr) rfl rfl (by kernel_rfl) ?_
  have c1 : Cl (h.push (Al.cells [Value.slice none 0 0, Value.slice none 0 0]).obj) h.next [Value.slice none 0 0, Value.slice none 0 0] := Cl.new h _
  have t1 : Sm Nix h (h.push (Al.cells [Value.slice none 0 0, Value.slice none 0 0]).obj) := .push h _
  have n1 : (h.push (Al.cells [Value.slice none 0 0, Value.slice none 0 0]).obj).next = h.next + 1 := rfl
  generalize h.push (Al.cells [Value.slice none 0 0, Value.slice none 0 0]).obj = h1 at c1 t1 n1 ⊢
  have H1 := H.ext t1
  refine L_g 2 (by kernel_rfl) ?_
  refine L_nil ?_
  refine W_seq ?_
  refine W_seq ?_
  refine W_region ?_
  refine L_g 3 (by kernel_rfl) ?_
  refine L_ld _ rfl rfl (by kernel_rfl) ((show aLoad Tryz.prog 4 ⟨f, 2, none⟩ h1 = some (.bool true) from by have := H1.cl.ld (P := Tryz.prog) (T := 4) (o := 2) (by kernel_rfl) rfl; rw [hbg] at this; exact this)) ?_
  refine L_g 1 (by kernel_rfl) ?_
  refine L_nil ?_
  refine W_cond false (by kernel_rfl) (fun e => by cases e) (fun _ => ?_)
  refine W_skip ?_
  refine W_seq ?_
  refine W_seq ?_
  refine W_region ?_
  refine L_g 1 (by kernel_rfl) ?_
  refine L_nil ?_
  refine W_block ?_
  refine W_loop (fun i fr hh => ∃ a, a ≤ m.st.length ∧ i = m.st.length - a ∧ fr 0 = ptr f ∧ fr 2 = ptr h.next ∧ fr 5 = .int .i64 a ∧ h1 = hh ∧ (∀ x y, x < a → y < m.st.length → m.rcAt x = true ∧ m.o x y = false)) (m.st.length) ?_ ?_
  ·
    exact ⟨0, Nat.zero_le _, rfl, by kernel_rfl, by kernel_rfl, by kernel_rfl, rfl, fun x y hx => by omega⟩
  rintro i1 fr1 hh ⟨a, ha, hi1, y0, y2, y5, rfl, ga⟩
  refine W_set (k := 0) y0 ?_
  refine W_set (k := 2) y2 ?_
  refine W_set (k := 5) y5 ?_
  refine W_seq ?_
  refine W_seq ?_
  refine W_region ?_
  refine L_g 4 (by kernel_rfl) ?_
  refine L_ld _ rfl rfl (by kernel_rfl) (H1.cl.ld (o := 0) (by kernel_rfl) rfl) ?_
  refine L_ln _ rfl rfl (by kernel_rfl) (H1.stWs.lenV u64r) ?_
  refine L_g 1 (by kernel_rfl) ?_
  refine L_nil ?_
  refine W_cond (decide ((a : Int) < (m.st.length : Nat))) (by kernel_rfl) (fun hb => ?_) (fun hb => ?_)
  ·
    have hlt : a < m.st.length := by simp at hb; omega
    refine W_skip ?_
    refine W_seq ?_
    refine W_block ?_
    refine W_seq ?_
    refine W_region ?_
    refine L_g 1 (by kernel_rfl) ?_
    refine L_nil ?_
    refine W_block ?_
    refine W_loop (fun i fr hh => ∃ b, b ≤ m.st.length ∧ i = m.st.length - b ∧ fr 0 = ptr f ∧ fr 2 = ptr h.next ∧ fr 5 = .int .i64 a ∧ fr 6 = .int .i64 b ∧ h1 = hh ∧ (∀ y, y < b → m.rcAt a = true ∧ m.o a y = false)) (m.st.length) ?_ ?_
    ·
      exact ⟨0, Nat.zero_le _, rfl, by kernel_rfl, by kernel_rfl, by kernel_rfl, by kernel_rfl, rfl, fun y hy => by omega⟩
    rintro i2 fr2 hh ⟨b, hb, hi2, y0, y2, y5, y6, rfl, gb⟩
    refine W_set (k := 0) y0 ?_
    refine W_set (k := 2) y2 ?_
    refine W_set (k := 5) y5 ?_
    refine W_set (k := 6) y6 ?_
    refine W_seq ?_
    refine W_seq ?_
    refine W_region ?_
    refine L_g 4 (by kernel_rfl) ?_
    refine L_ld _ rfl rfl (by kernel_rfl) (H1.cl.ld (o := 0) (by kernel_rfl) rfl) ?_
    refine L_ln _ rfl rfl (by kernel_rfl) (H1.stWs.lenV u64r) ?_
    refine L_g 1 (by kernel_rfl) ?_
    refine L_nil ?_
    refine W_cond (decide ((b : Int) < (m.st.length : Nat))) (by kernel_rfl) (fun hb => ?_) (fun hb => ?_)
    ·
      have hlt2 : b < m.st.length := by simp at hb; omega
      refine W_skip ?_
      refine W_seq ?_
      refine W_block ?_
      refine W_seq ?_
      obtain ⟨pr, ri, rl, _⟩ := H1.rcAt (p := a) (by rw [hS.rc]; exact hlt)
      obtain ⟨po, pp, oi, ol, oj, oe, _⟩ := H1.oAt (i := a) (j := b) (by rw [hS.so]; exact hlt) (by rw [hS.co a hlt]; exact hlt2)
      rcases (show m.rcAt a = false ∨ m.rcAt a = true by cases m.rcAt a <;> simp) with hrc | hrc
      ·
        refine W_region ?_
        refine L_g 3 (by kernel_rfl) ?_
        refine L_ld _ rfl rfl (by kernel_rfl) (H1.cl.ld (o := 3) (by kernel_rfl) rfl) ?_
        refine L_g 1 (by kernel_rfl) ?_
        refine L_ix _ rfl rfl (by kernel_rfl) (by kernel_rfl) (ri) ?_
        refine L_ld _ rfl rfl (by kernel_rfl) ((show aLoad Tryz.prog 4 pr h1 = some (.bool false) from by have := rl; rw [show (m.rc[a]?).getD false = false from hrc] at this; exact this)) ?_
        refine L_g 13 (by kernel_rfl) ?_
        refine L_nil ?_
        refine W_cond true (by kernel_rfl) (fun _ => ?_) (fun e => by cases e)
        refine W_seq ?_
        refine W_region ?_
        refine L_g 1 (by kernel_rfl) ?_
        obtain ⟨h2, e2, c2, t2, n2⟩ := c1.storeS (P := Tryz.prog) (T := 83) (v := .agg ⟨[Value.slice none 0 0, Value.slice none 0 0]⟩) (cs := [Value.slice none 0 0, Value.slice none 0 0]) (by kernel_rfl) rfl rfl (fun x hx => by simp only [List.mem_cons, List.not_mem_nil, or_false] at hx; rcases hx with rfl | rfl <;> rfl)
        refine L_st _ rfl rfl rfl (by kernel_rfl) (by kernel_rfl) (e2) ?_
        refine L_g 2 (by kernel_rfl) ?_
        refine L_nil ?_
        refine W_ret ?_
        repeat first | with_reducible refine then_ret ?_ | with_reducible refine blk_ret ?_
        refine done_of (.inl rfl) (evR_c3 (by kernel_rfl) (by kernel_rfl) (by kernel_rfl) (a := ⟨h.next, 0, none⟩) (by kernel_rfl) (c2.ldS (k := 2) (by kernel_rfl) (Nat.le_refl _)) (u := .bool false) (by kernel_rfl) (w := .int .i64 0) (by kernel_rfl)) ?_
        exact .inl ⟨rfl, t1.trans t2 (fun x hx => .inr (by omega)), a, b, hlt, hlt2, .inl hrc⟩
      ·
        refine W_region ?_
        refine L_g 3 (by kernel_rfl) ?_
        refine L_ld _ rfl rfl (by kernel_rfl) (H1.cl.ld (o := 3) (by kernel_rfl) rfl) ?_
        refine L_g 1 (by kernel_rfl) ?_
        refine L_ix _ rfl rfl (by kernel_rfl) (by kernel_rfl) (ri) ?_
        refine L_ld _ rfl rfl (by kernel_rfl) ((show aLoad Tryz.prog 4 pr h1 = some (.bool true) from by have := rl; rw [show (m.rc[a]?).getD false = true from hrc] at this; exact this)) ?_
        refine L_g 5 (by kernel_rfl) ?_
        refine L_want (by kernel_rfl) ?_
        refine L_ld _ rfl rfl (by kernel_rfl) (H1.cl.ld (o := 5) (by kernel_rfl) rfl) ?_
        refine L_g 1 (by kernel_rfl) ?_
        refine L_want (by kernel_rfl) ?_
        refine L_ix _ rfl rfl (by kernel_rfl) (by kernel_rfl) (oi) ?_
        refine L_want (by kernel_rfl) ?_
        refine L_ld _ rfl rfl (by kernel_rfl) (ol) ?_
        refine L_g 1 (by kernel_rfl) ?_
        refine L_want (by kernel_rfl) ?_
        refine L_ix _ rfl rfl (by kernel_rfl) (by kernel_rfl) (oj) ?_
        refine L_want (by kernel_rfl) ?_
        refine L_ld _ rfl rfl (by kernel_rfl) (oe) ?_
        refine L_g 1 (by kernel_rfl) ?_
        refine L_nil ?_
        refine W_cond (m.o a b) (by kernel_rfl) (fun hb => ?_) (fun hb => ?_)
        ·
          refine W_seq ?_
          refine W_region ?_
          refine L_g 1 (by kernel_rfl) ?_
          obtain ⟨h2, e2, c2, t2, n2⟩ := c1.storeS (P := Tryz.prog) (T := 83) (v := .agg ⟨[Value.slice none 0 0, Value.slice none 0 0]⟩) (cs := [Value.slice none 0 0, Value.slice none 0 0]) (by kernel_rfl) rfl rfl (fun x hx => by simp only [List.mem_cons, List.not_mem_nil, or_false] at hx; rcases hx with rfl | rfl <;> rfl)
          refine L_st _ rfl rfl rfl (by kernel_rfl) (by kernel_rfl) (e2) ?_
          refine L_g 2 (by kernel_rfl) ?_
          refine L_nil ?_
          refine W_ret ?_
          repeat first | with_reducible refine then_ret ?_ | with_reducible refine blk_ret ?_
          refine done_of (.inl rfl) (evR_c3 (by kernel_rfl) (by kernel_rfl) (by kernel_rfl) (a := ⟨h.next, 0, none⟩) (by kernel_rfl) (c2.ldS (k := 2) (by kernel_rfl) (Nat.le_refl _)) (u := .bool false) (by kernel_rfl) (w := .int .i64 0) (by kernel_rfl)) ?_
          exact .inl ⟨rfl, t1.trans t2 (fun x hx => .inr (by omega)), a, b, hlt, hlt2, .inr hb⟩
        ·
          refine W_skip ?_
          refine W_region ?_
          refine L_g 1 (by kernel_rfl) ?_
          refine L_i ((b : Int)) (1) (.int .i64 ((b + 1 : Nat) : Int)) rfl rfl (by kernel_rfl) (by kernel_rfl) rfl (inc_ok (by omega)) ?_
          refine L_g 1 (by kernel_rfl) ?_
          refine L_nil ?_
          exact ⟨m.st.length - (b + 1), by omega, b + 1, by omega, rfl, by kernel_rfl, by kernel_rfl, by kernel_rfl, by kernel_rfl, rfl, fun y hy => by
            by_cases e : y = b
            · subst e; exact ⟨hrc, by simpa using hb⟩
            · exact gb y (by omega)⟩
    ·
      have hge2 : ¬ b < m.st.length := by simp at hb; omega
      refine W_exit ?_
      repeat with_reducible refine then_exit ?_
      refine exit_here ?_
      refine W_region ?_
      refine L_g 1 (by kernel_rfl) ?_
      refine L_i ((a : Int)) (1) (.int .i64 ((a + 1 : Nat) : Int)) rfl rfl (by kernel_rfl) (by kernel_rfl) rfl (inc_ok (by omega)) ?_
      refine L_g 1 (by kernel_rfl) ?_
      refine L_nil ?_
      have hk : b = m.st.length := by omega
      subst hk
      exact ⟨m.st.length - (a + 1), by omega, a + 1, by omega, rfl, by kernel_rfl, by kernel_rfl, by kernel_rfl, rfl, fun x y hx hy => by
        by_cases e : x = a
        · subst e; exact gb y hy
        · exact ga x y (by omega) hy⟩
  ·
    have hge : a = m.st.length := by simp at hb; omega
    refine W_exit ?_
    repeat with_reducible refine then_exit ?_
    refine exit_here ?_
    refine W_seq ?_
    refine W_region ?_
    refine L_g 3 (by kernel_rfl) ?_
    subst hge
    obtain ⟨g2, e2, c2, t2, n2⟩ := H1.cl.store (P := Tryz.prog) (T := 4) (o := 2) (v := .bool false) (by kernel_rfl) rfl rfl (by simp)
    have H2 : RR g2 f V { m with bg := false } := ⟨c2, H1.lay.sm t2 (fun r b hb e => by subst e; exact H1.me _ hb), H1.me⟩
    have d2 := c1.sm t2 (fun e => by have := H.cl.lt; omega)
    obtain ⟨asv, cs, es⟩ := (H.lay.gr .sh).ws.sd.form
    obtain ⟨ac, cc, ec⟩ := (H.lay.gr .ct).ws.sd.form
    obtain ⟨g3, e3, c3, t3, n3⟩ := d2.storeS (P := Tryz.prog) (T := 83) (v := .agg ⟨[V .sh, V .ct]⟩) (cs := [V .sh, V .ct]) (by kernel_rfl) (by rw [es, ec]; rfl) rfl (fun x hx => by simp only [List.mem_cons, List.not_mem_nil, or_false] at hx; rcases hx with rfl | rfl; rw [es]; rfl; rw [ec]; rfl)
    refine L_st _ rfl rfl rfl (by kernel_rfl) (by kernel_rfl) (e2) ?_
    refine L_nil ?_
    refine W_seq ?_
    refine W_drawn (by kernel_rfl) ?_
    refine D_e (e := 9) (l := [0, 1, 2, 3, 4, 5, 6, 7, 8]) (s' := []) (by kernel_rfl) (by kernel_rfl) rfl (by kernel_rfl) Rk_nil ?_
    refine NS_b 3 (by kernel_rfl) ?_
    refine NS_ld _ rfl rfl (by kernel_rfl) (by kernel_rfl) (by kernel_rfl) (H2.cl.ld (o := 4) (by kernel_rfl) rfl) ?_
    refine NS_b 3 (by kernel_rfl) ?_
    refine NS_ld _ rfl rfl (by kernel_rfl) (by kernel_rfl) (by kernel_rfl) (H2.cl.ld (o := 6) (by kernel_rfl) rfl) ?_
    refine NS_v (.agg ⟨[V .sh, V .ct]⟩) rfl (by kernel_rfl) rfl (by kernel_rfl) (by rw [es, ec]; kernel_rfl) ?_
    refine NS_nil ?_
    refine L_st _ rfl rfl rfl (by kernel_rfl) (by kernel_rfl) (e3) ?_
    refine L_nil ⟨rfl, ?_⟩
    refine D_l (l := [10, 11]) (by kernel_rfl) (by kernel_rfl) Rk_nil ?_
    refine NS_b 2 (by kernel_rfl) ?_
    refine NS_nil ?_
    refine W_ret ?_
    repeat first | with_reducible refine then_ret ?_ | with_reducible refine blk_ret ?_
    refine done_of (.inl rfl) (evR_c3 (by kernel_rfl) (by kernel_rfl) (by kernel_rfl) (a := ⟨h.next, 0, none⟩) (by kernel_rfl) (c3.ldS (k := 2) (by kernel_rfl) (Nat.le_refl _)) (u := .bool true) (by kernel_rfl) (w := .int .i64 0) (by kernel_rfl)) ?_
    have s3 : Sm (fun b => b = h.next) g2 g3 := t3
    refine .inr ⟨rfl, ga, H2.sm s3 (fun b hb e => ?_), (t1.of.then t2).trans s3 (fun b hb => .inr (by omega))⟩
    have := H.lt hb
    omega
end
end Go.Proofs.YtdaedcoolcicoaaGreat
namespace Go.Proofs.YtdaedcoolcicoaaGreat
noncomputable section
open Go Go.X Go.Arm
set_option maxHeartbeats 4000000 in
theorem rcopy_ok {h : AH} {f : Nat} {V : RL → Value} {m : Rm} {K : Nat} (H : RR h f V m) (hO : Rm.Ok m.st.length m) (hS : ∀ i, i < m.so → m.co i = m.st.length ∧ i < m.sc ∧ m.cc i = m.st.length) (h0n : 0 < m.st.length) (hr : m.rc.length < 1000000) (hh : m.sh.length < 1000000) (hso : m.so < 1000000) (hn : m.st.length < 1000000) (hleW : m.le K) (hleC : m.leC K) (hK : K < 400000000) :
    Arm.Calls Tryz.prog 35 [ptr f] h (fun r => ∃ g W, r.1 = ptr g ∧ RR r.2 g W (cpG m m.st.length m.st.length 0 m.so m.so 0) ∧ Sm Nix h r.2 ∧ ∀ b, RF g W b → h.next ≤ b) := by
  refine Calls_of_W (n := 154) (fn := Tryz.f35) (by kernel_rfl) rfl rfl (Nat.le_of_ble_eq_true rfl) trivial ⟨.inr (by simp), rfl⟩ ?_
  refine W_seq ?_
  refine W_region ?_
  refine L_g 1 (by kernel_rfl) ?_
  refine L_nil ?_
  refine W_seq ?_
  refine W_region ?_
  refine L_g 3 (by kernel_rfl) ?_
  refine L_ld _ rfl rfl (by kernel_rfl) (H.cl.ld (o := 2) (by kernel_rfl) rfl) ?_
  refine L_g 1 (by kernel_rfl) ?_
  refine L_nw (Al.cells [Value.slice none 0 0, Value.slice none 0 0, .bool m.bg, Value.slice none 0 0, Value.slice none 0 0, Value.slice none 0 0, Value.slice none 0 0]) .ptr rfl rfl (by kernel_rfl) ?_
  have c1 : Cl (h.push (Al.cells [Value.slice none 0 0, Value.slice none 0 0, .bool m.bg, Value.slice none 0 0, Value.slice none 0 0, Value.slice none 0 0, Value.slice none 0 0]).obj) h.next [Value.slice none 0 0, Value.slice none 0 0, .bool m.bg, Value.slice none 0 0, Value.slice none 0 0, Value.slice none 0 0, Value.slice none 0 0] := Cl.new h _
  have t1 : Sm Nix h (h.push (Al.cells [Value.slice none 0 0, Value.slice none 0 0, .bool m.bg, Value.slice none 0 0, Value.slice none 0 0, Value.slice none 0 0, Value.slice none 0 0]).obj) := .push h _
  have n1 : (h.push (Al.cells [Value.slice none 0 0, Value.slice none 0 0, .bool m.bg, Value.slice none 0 0, Value.slice none 0 0, Value.slice none 0 0, Value.slice none 0 0]).obj).next = h.next + 1 := rfl
  obtain ⟨g, eg⟩ : ∃ g, g = h.next := ⟨_, rfl⟩
  rw [← eg] at c1
  show L _ _ _ _ _ (upd _ _ (Value.pointer (some ⟨h.next, 0, none⟩))) _
  rw [← eg]
  generalize h.push (Al.cells [Value.slice none 0 0, Value.slice none 0 0, .bool m.bg, Value.slice none 0 0, Value.slice none 0 0, Value.slice none 0 0, Value.slice none 0 0]).obj = h1 at c1 t1 n1 ⊢
  have HW : RR h1 g V0_ (rm0 m.bg) := RR.init c1
  have TH : Sm Nix h h1 := t1
  have TN : Sm Nix h h1 := t1
  have BW : ∀ b, RF g V0_ b → h.next ≤ b := fun b hb => by
    rcases hb with e | ⟨r, e⟩
    · omega
    · exact (nil_vb e).elim
  refine L_g 1 (by kernel_rfl) ?_
  refine L_nil ?_
  refine W_seq ?_
  refine W_region ?_
  refine L_g 1 (by kernel_rfl) ?_
  refine L_nw (Al.cells []) (.sl 0 0) rfl rfl (by kernel_rfl) ?_
  obtain ⟨eb2, eeb2⟩ : ∃ eb2, eb2 = h1.next := ⟨_, rfl⟩
  have ta2 : Sm Nix h1 (h1.push (Al.cells []).obj) := .push h1 _
  have na2 : (h1.push (Al.cells []).obj).next = h1.next + 1 := rfl
  show L _ _ _ _ _ (upd _ _ (Value.slice (some ⟨h1.next, 0, none⟩) 0 0)) _
  rw [← eeb2]
  generalize h1.push (Al.cells []).obj = ha2 at ta2 na2 ⊢
  obtain ⟨v2, hb2, eA2, gA2, tb2, bA2⟩ := copyL (P := Tryz.prog) (T := 64) (el := 2) (by_ := 8) (z := .int .i64 0) (k := 1) (cs := m.st.map nv) ta2 eeb2 (by omega) (by kernel_rfl) (by kernel_rfl) (by kernel_rfl) (by kernel_rfl) (by kernel_rfl) (by kernel_rfl) (by decide) (((H.lay.gr .st).ws.sd).ext (TH.ext ta2)) nv_one (by show m.st.length * _ < _; omega)
  have Hf := H.ext (TH.ext ta2)
  obtain ⟨hc2, eS2, HW2, tc2, nc2⟩ := (HW.ext tb2).newSt (l := m.st) gA2.ws (fun b hb e => by have h1 := bA2 b hb; have h2 := HW.lt e; omega)
  have TH : Sm Nix h hc2 := (TH.ext tb2).trans tc2 (fun b hb => .inr (by omega))
  have BW : ∀ b, RF g (ups V0_ .st v2) b → h.next ≤ b := fun b hb => by
    rcases hb with e | ⟨r, e⟩
    · omega
    · by_cases hr : r = .st
      · subst hr; rw [ups_at] at e; have h1 := bA2 b e; have h2 := TN.nx; omega
      · rw [ups_ne _ _ hr] at e; exact BW b (.inr ⟨_, e⟩)
  have TN : Sm Nix h hc2 := TH

  refine L_g 3 (by kernel_rfl) ?_
  refine L_ld _ rfl rfl (by kernel_rfl) (Hf.cl.ld (o := 0) (by kernel_rfl) rfl) ?_
  refine L_bi v2 hb2 rfl rfl (by kernel_rfl) (vs := [Value.slice (some ⟨eb2, 0, none⟩) 0 0, V .st]) (by kernel_rfl) (bi_append eA2) ?_
  refine L_g 2 (by kernel_rfl) ?_
  refine L_st _ rfl rfl rfl (by kernel_rfl) (by kernel_rfl) (eS2) ?_
  refine L_nil ?_
  refine W_seq ?_
  refine W_region ?_
  refine L_g 1 (by kernel_rfl) ?_
  refine L_nw (Al.cells []) (.sl 0 0) rfl rfl (by kernel_rfl) ?_
  obtain ⟨eb3, eeb3⟩ : ∃ eb3, eb3 = hc2.next := ⟨_, rfl⟩
  have ta3 : Sm Nix hc2 (hc2.push (Al.cells []).obj) := .push hc2 _
  have na3 : (hc2.push (Al.cells []).obj).next = hc2.next + 1 := rfl
  show L _ _ _ _ _ (upd _ _ (Value.slice (some ⟨hc2.next, 0, none⟩) 0 0)) _
  rw [← eeb3]
  generalize hc2.push (Al.cells []).obj = ha3 at ta3 na3 ⊢
  obtain ⟨v3, hb3, eA3, gA3, tb3, bA3⟩ := copyL (P := Tryz.prog) (T := 32) (el := 4) (by_ := 1) (z := .bool false) (k := 1) (cs := m.rc.map bw) ta3 eeb3 (by omega) (by kernel_rfl) (by kernel_rfl) (by kernel_rfl) (by kernel_rfl) (by kernel_rfl) (by kernel_rfl) (by decide) (((H.lay.gr .rc).ws.sd).ext (TH.ext ta3)) (fun y hy => by obtain ⟨x, _, rfl⟩ := List.mem_map.1 hy; rfl) (by show m.rc.length * _ < _; omega)
  have Hf := H.ext (TH.ext ta3)
  obtain ⟨hc3, eS3, HW3, tc3, nc3⟩ := (HW2.ext tb3).newRc (l := m.rc) gA3.ws (fun b hb e => by have h1 := bA3 b hb; have h2 := HW2.lt e; omega)
  have TH : Sm Nix h hc3 := (TH.ext tb3).trans tc3 (fun b hb => .inr (by omega))
  have BW : ∀ b, RF g (ups (ups V0_ .st v2) .rc v3) b → h.next ≤ b := fun b hb => by
    rcases hb with e | ⟨r, e⟩
    · omega
    · by_cases hr : r = .rc
      · subst hr; rw [ups_at] at e; have h1 := bA3 b e; have h2 := TN.nx; omega
      · rw [ups_ne _ _ hr] at e; exact BW b (.inr ⟨_, e⟩)
  have TN : Sm Nix h hc3 := TH

  refine L_g 3 (by kernel_rfl) ?_
  refine L_ld _ rfl rfl (by kernel_rfl) (Hf.cl.ld (o := 3) (by kernel_rfl) rfl) ?_
  refine L_bi v3 hb3 rfl rfl (by kernel_rfl) (vs := [Value.slice (some ⟨eb3, 0, none⟩) 0 0, V .rc]) (by kernel_rfl) (bi_append eA3) ?_
  refine L_g 2 (by kernel_rfl) ?_
  refine L_st _ rfl rfl rfl (by kernel_rfl) (by kernel_rfl) (eS3) ?_
  refine L_nil ?_
  refine W_seq ?_
  refine W_region ?_
  refine L_g 1 (by kernel_rfl) ?_
  refine L_nw (Al.cells []) (.sl 0 0) rfl rfl (by kernel_rfl) ?_
  obtain ⟨eb4, eeb4⟩ : ∃ eb4, eb4 = hc3.next := ⟨_, rfl⟩
  have ta4 : Sm Nix hc3 (hc3.push (Al.cells []).obj) := .push hc3 _
  have na4 : (hc3.push (Al.cells []).obj).next = hc3.next + 1 := rfl
  show L _ _ _ _ _ (upd _ _ (Value.slice (some ⟨hc3.next, 0, none⟩) 0 0)) _
  rw [← eeb4]
  generalize hc3.push (Al.cells []).obj = ha4 at ta4 na4 ⊢
  obtain ⟨v4, hb4, eA4, gA4, tb4, bA4⟩ := copyL (P := Tryz.prog) (T := 64) (el := 2) (by_ := 8) (z := .int .i64 0) (k := 1) (cs := m.sh.map nv) ta4 eeb4 (by omega) (by kernel_rfl) (by kernel_rfl) (by kernel_rfl) (by kernel_rfl) (by kernel_rfl) (by kernel_rfl) (by decide) (((H.lay.gr .sh).ws.sd).ext (TH.ext ta4)) nv_one (by show m.sh.length * _ < _; omega)
  have Hf := H.ext (TH.ext ta4)
  obtain ⟨hc4, eS4, HW4, tc4, nc4⟩ := (HW3.ext tb4).newSh (l := m.sh) gA4.ws (fun b hb e => by have h1 := bA4 b hb; have h2 := HW3.lt e; omega)
  have TH : Sm Nix h hc4 := (TH.ext tb4).trans tc4 (fun b hb => .inr (by omega))
  have BW : ∀ b, RF g (ups (ups (ups V0_ .st v2) .rc v3) .sh v4) b → h.next ≤ b := fun b hb => by
    rcases hb with e | ⟨r, e⟩
    · omega
    · by_cases hr : r = .sh
      · subst hr; rw [ups_at] at e; have h1 := bA4 b e; have h2 := TN.nx; omega
      · rw [ups_ne _ _ hr] at e; exact BW b (.inr ⟨_, e⟩)
  have TN : Sm Nix h hc4 := TH

  refine L_g 3 (by kernel_rfl) ?_
  refine L_ld _ rfl rfl (by kernel_rfl) (Hf.cl.ld (o := 4) (by kernel_rfl) rfl) ?_
  refine L_bi v4 hb4 rfl rfl (by kernel_rfl) (vs := [Value.slice (some ⟨eb4, 0, none⟩) 0 0, V .sh]) (by kernel_rfl) (bi_append eA4) ?_
  refine L_g 2 (by kernel_rfl) ?_
  refine L_st _ rfl rfl rfl (by kernel_rfl) (by kernel_rfl) (eS4) ?_
  refine L_nil ?_
  refine W_seq ?_
  refine W_seq ?_
  skip
  ·
    have H4 : RR hc4 g (ups (ups (ups V0_ .st v2) .rc v3) .sh v4) (cpG m m.st.length 0 0 0 0 0) := by rw [cpG_0]; exact HW4
    clear HW HW2 HW3 HW4
    generalize ups (ups (ups V0_ .st v2) .rc v3) .sh v4 = W4 at H4 BW
    refine W_region ?_
    refine L_g 1 (by kernel_rfl) ?_
    refine L_nil ?_
    refine W_block ?_
    refine W_loop (fun i1 fr hh => ∃ i W9, i ≤ m.st.length ∧ i1 = m.st.length - i ∧ fr 0 = ptr f ∧ fr 3 = ptr g ∧ fr 4 = .int .i64 i ∧ RR hh g W9 (cpG m m.st.length i 0 0 0 0) ∧ Sm Nix h hh ∧ (∀ b, RF g W9 b → h.next ≤ b)) (m.st.length) ?_ ?_
    ·
      exact ⟨0, W4, Nat.zero_le _, rfl, by kernel_rfl, by kernel_rfl, by kernel_rfl, H4, TH, BW⟩
    rintro i1 fr1 h8 ⟨i, W8, hi, hi1, y0, y3, y4, H8, T8, B8⟩
    have Hf := H.ext T8
    refine W_set (k := 0) y0 ?_
    refine W_set (k := 3) y3 ?_
    refine W_set (k := 4) y4 ?_
    refine W_seq ?_
    refine W_seq ?_
    refine W_region ?_
    refine L_g 4 (by kernel_rfl) ?_
    refine L_ld _ rfl rfl (by kernel_rfl) (Hf.cl.ld (o := 1) (by kernel_rfl) rfl) ?_
    refine L_ln _ rfl rfl (by kernel_rfl) ((Ws.lenV (n := m.st.length) (by have := (Hf.lay.gr .wt).ws; rw [show m.nn .wt = m.st.length from hO.sw] at this; exact this) u156)) ?_
    refine L_g 1 (by kernel_rfl) ?_
    refine L_nil ?_
    refine W_cond (decide ((i : Int) < (m.st.length : Nat))) (by kernel_rfl) (fun hb => ?_) (fun hb => ?_)
    ·
      have hlt : i < m.st.length := by simp at hb; omega
      refine W_skip ?_
      refine W_seq ?_
      refine W_block ?_
      refine W_seq ?_
      refine W_region ?_
      refine L_g 1 (by kernel_rfl) ?_
      refine L_nil ?_
      refine W_seq ?_
      refine W_seq ?_
      refine W_region ?_
      refine L_g 1 (by kernel_rfl) ?_
      refine L_nil ?_
      refine W_block ?_
      refine W_loop (fun i2 fr hh => ∃ j W9 lv, j ≤ m.st.length ∧ i2 = m.st.length - j ∧ fr 0 = ptr f ∧ fr 3 = ptr g ∧ fr 4 = .int .i64 i ∧ fr 5 = lv ∧ fr 6 = .int .i64 j ∧ RR hh g W9 (cpG m m.st.length i j 0 0 0) ∧ Sm Nix h hh ∧ (∀ b, RF g W9 b → h.next ≤ b) ∧ Gr hh 1 lv j ((List.range j).map fun b => W9 (.wc i b)) ∧ (∀ b, vb lv = some b → h.next ≤ b ∧ ¬ RF g W9 b)) (m.st.length) ?_ ?_
      ·
        exact ⟨0, W8, _, Nat.zero_le _, rfl, by kernel_rfl, by kernel_rfl, by kernel_rfl, by kernel_rfl, by kernel_rfl, H8, T8, B8, Gr.nil, fun b hb => (nil_vb hb).elim⟩
      rintro i2 fr2 h9 ⟨j, W9, lv, hj, hi2, y0, y3, y4, y5, y6, H9, T9, B9, gl9, nl9⟩
      have Hf := H.ext T9
      obtain ⟨pa, _, ea, la, _, _⟩ := Hf.wAtB (i := i) (j := 0) (by rw [hO.sw]; exact hlt) (by rw [hO.cw i hlt]; omega)
      refine W_set (k := 0) y0 ?_
      refine W_set (k := 3) y3 ?_
      refine W_set (k := 4) y4 ?_
      refine W_set (k := 5) y5 ?_
      refine W_set (k := 6) y6 ?_
      refine W_seq ?_
      refine W_seq ?_
      refine W_region ?_
      refine L_g 4 (by kernel_rfl) ?_
      refine L_ld _ rfl rfl (by kernel_rfl) (Hf.cl.ld (o := 1) (by kernel_rfl) rfl) ?_
      refine L_g 1 (by kernel_rfl) ?_
      refine L_ix _ rfl rfl (by kernel_rfl) (by kernel_rfl) (ea) ?_
      refine L_ld _ rfl rfl (by kernel_rfl) (la) ?_
      refine L_ln _ rfl rfl (by kernel_rfl) ((Ws.lenV (n := m.st.length) (by have := (Hf.lay.gr (.wr i)).ws; rw [show m.nn (.wr i) = m.st.length from hO.cw i hlt] at this; exact this) u160)) ?_
      refine L_g 1 (by kernel_rfl) ?_
      refine L_nil ?_
      refine W_cond (decide ((j : Int) < (m.st.length : Nat))) (by kernel_rfl) (fun hb => ?_) (fun hb => ?_)
      ·
        have hlt2 : j < m.st.length := by simp at hb; omega
        refine W_skip ?_
        refine W_seq ?_
        refine W_block ?_
        refine W_region ?_
        refine L_g 1 (by kernel_rfl) ?_
        refine L_nw (Al.cells []) (.sl 0 0) rfl rfl (by kernel_rfl) ?_
        obtain ⟨e0, ee0⟩ : ∃ e0, e0 = h9.next := ⟨_, rfl⟩
        have ta : Sm Nix h9 (h9.push (Al.cells []).obj) := .push h9 _
        have na : (h9.push (Al.cells []).obj).next = h9.next + 1 := rfl
        show L _ _ _ _ _ (upd _ _ (Value.slice (some ⟨h9.next, 0, none⟩) 0 0)) _
        rw [← ee0]
        generalize h9.push (Al.cells []).obj = ha at ta na ⊢
        have Ha := Hf.ext ta
        obtain ⟨v2, hb, eA, gA, tb, bA⟩ := copyL (P := Tryz.prog) (T := 177) (el := 183) (by_ := 16) (z := .agg ⟨[.bool false, .int .i64 0]⟩) (k := 2) (cs := (m.w i j).flatMap thw) (n := (m.w i j).length) ta ee0 (by omega) (by kernel_rfl) (by kernel_rfl) (by kernel_rfl) (by kernel_rfl) (by kernel_rfl) (by kernel_rfl) (by decide) (Ha.wGr i j).sd thw_one (by have := hleW i j; omega)
        obtain ⟨av, cv, ev⟩ := gA.sd.form
        subst ev
        have nb2 : ∀ b, vb (Value.slice av (m.w i j).length cv) = some b → ¬ RF g W9 b := fun b hb e => by have h1 := bA b hb; have h2 := H9.lt e; omega
        have Hb := (H9.ext tb).cellW (i := i) (j := j) (l := m.w i j) (by show ¬ j < if i < i then m.st.length else 0; rw [if_neg (by omega)]; omega) gA nb2
        refine L_g 3 (by kernel_rfl) ?_
        refine L_ld _ rfl rfl (by kernel_rfl) (Ha.cl.ld (o := 1) (by kernel_rfl) rfl) ?_
        refine L_g 1 (by kernel_rfl) ?_
        obtain ⟨pa, pb, ea, la, eb, lb⟩ := Ha.wAt (i := i) (j := j) (by rw [hO.sw]; exact hlt) (by rw [hO.cw i hlt]; exact hlt2)
        refine L_ix _ rfl rfl (by kernel_rfl) (by kernel_rfl) (ea) ?_
        refine L_ld _ rfl rfl (by kernel_rfl) (la) ?_
        refine L_g 1 (by kernel_rfl) ?_
        refine L_ix _ rfl rfl (by kernel_rfl) (by kernel_rfl) (eb) ?_
        refine L_ld _ rfl rfl (by kernel_rfl) (lb) ?_
        refine L_bi (.slice av (m.w i j).length cv) hb rfl rfl (by kernel_rfl) (vs := [Value.slice (some ⟨e0, 0, none⟩) 0 0, V (.wc i j)]) (by kernel_rfl) (bi_append eA) ?_
        refine L_nw (Al.cells [Value.slice av (m.w i j).length cv]) (.sl 1 1) rfl rfl (by kernel_rfl) ?_
        have td : Sm Nix hb (hb.push (Al.cells [Value.slice av (m.w i j).length cv]).obj) := .push hb _
        have cd : Cl (hb.push (Al.cells [Value.slice av (m.w i j).length cv]).obj) hb.next [Value.slice av (m.w i j).length cv] := Cl.new hb _
        have nd : (hb.push (Al.cells [Value.slice av (m.w i j).length cv]).obj).next = hb.next + 1 := rfl
        generalize hb.push (Al.cells [Value.slice av (m.w i j).length cv]).obj = hd at td cd nd ⊢
        obtain ⟨l2, he, eL, gL, tL, bL⟩ := ((gl9.ext tb).ext td).append (P := Tryz.prog) (sT := 160) (xT := 160) (el := 177) (by_ := 24) (z := Value.slice none 0 0) (m := 1) (ds := [Value.slice av (m.w i j).length cv]) (by kernel_rfl) (by kernel_rfl) (by kernel_rfl) (by kernel_rfl) (by kernel_rfl) (by kernel_rfl) (by decide) (cd.sd rfl) (fun y hy => by cases List.mem_singleton.1 hy; rfl) (by omega)
        have He : RR he g (ups W9 (.wc i j) (Value.slice av (m.w i j).length cv)) (cpG m m.st.length i (j + 1) 0 0 0) := by
          rw [← cpG_w m hlt2]
          refine (Hb.ext td).sm tL (fun b hb e => ?_)
          have h1 := (nl9 b e).2
          rcases RF.ups (h := h9) (fun b hb => .inr (bA b hb)) hb with x | x
          · exact h1 x
          · have := gl9.lt e; omega
        have TE : Sm Nix h he := ((T9.ext tb).ext td).trans tL (fun b hb => .inr (nl9 b hb).1)
        have BE : ∀ b, RF g (ups W9 (.wc i j) (Value.slice av (m.w i j).length cv)) b → h.next ≤ b := fun b hb => (RF.ups (h := h9) (fun b hb => .inr (bA b hb)) hb).elim (B9 b) (fun e => Nat.le_trans T9.nx e)
        have nE : ∀ b, vb l2 = some b → h.next ≤ b ∧ ¬ RF g (ups W9 (.wc i j) (Value.slice av (m.w i j).length cv)) b := fun b hb => by
          have h9n := T9.nx
          have h10 := tb.nx
          rcases bL b hb with x | x
          · have hx := nl9 b x
            refine ⟨hx.1, fun e => ?_⟩
            rcases RF.ups (h := h9) (fun b hb => .inr (bA b hb)) e with y | y
            · exact hx.2 y
            · have := gl9.lt x; omega
          · refine ⟨by omega, fun e => ?_⟩
            have := Hb.lt e
            omega
        have gE : Gr he 1 l2 (j + 1) ((List.range (j + 1)).map fun b => ups W9 (.wc i j) (Value.slice av (m.w i j).length cv) (.wc i b)) := by
          rw [List.range_succ, List.map_append, show (List.range j).map (fun b => ups W9 (.wc i j) (Value.slice av (m.w i j).length cv) (.wc i b)) = (List.range j).map (fun b => W9 (.wc i b)) from List.map_congr_left fun b hb => ups_ne _ _ (fun e => by have := List.mem_range.1 hb; cases e; omega), List.map_singleton, ups_at]
          exact gL
        refine L_bi l2 he rfl rfl (by kernel_rfl) (vs := [lv, .slice (some ⟨hb.next, 0, none⟩) 1 1]) (by kernel_rfl) (bi_append eL) ?_
        refine L_g 1 (by kernel_rfl) ?_
        refine L_nil ?_
        refine W_region ?_
        refine L_g 1 (by kernel_rfl) ?_
        refine L_i ((j : Int)) (1) (.int .i64 ((j + 1 : Nat) : Int)) rfl rfl (by kernel_rfl) (by kernel_rfl) rfl (inc_ok (by omega)) ?_
        refine L_g 1 (by kernel_rfl) ?_
        refine L_nil ?_
        exact ⟨m.st.length - (j + 1), by omega, j + 1, _, l2, by omega, rfl, by kernel_rfl, by kernel_rfl, by kernel_rfl, by kernel_rfl, by kernel_rfl, He, TE, BE, gE, nE⟩
      ·
        have hjn : j = m.st.length := by simp at hb; omega
        refine W_exit ?_
        repeat with_reducible refine then_exit ?_
        refine exit_here ?_
        refine W_region ?_
        refine L_g 4 (by kernel_rfl) ?_
        refine L_ld _ rfl rfl (by kernel_rfl) (H9.cl.ld (o := 1) (by kernel_rfl) rfl) ?_
        refine L_g 1 (by kernel_rfl) ?_
        refine L_nw (Al.cells [lv]) (.sl 1 1) rfl rfl (by obtain ⟨a8, c8, e8⟩ := gl9.sd.form; subst e8; kernel_rfl) ?_
        have tB : Sm Nix h9 (h9.push (Al.cells [lv]).obj) := .push h9 _
        obtain ⟨v', h1, h2, eA, cl0, cl1, sA, eS, H2, t2, b2⟩ := H9.rowW (n := m.st.length) (row := lv) (by subst hjn; exact gl9.ws) (fun b hb => (nl9 b hb).2) tB (u := .slice (some ⟨h9.next, 0, none⟩) 1 1) ((Cl.new h9 _).sd rfl) (by show i < _; omega)
        have H2 : RR h2 g (ups (ups W9 (.wr i) lv) .wt v') (cpG m m.st.length (i + 1) 0 0 0 0) := by rw [← cpG_W]; subst hjn; exact H2
        have T2 : Sm Nix h h2 := T9.trans t2 (fun b hb => by
          rcases hb with e | e
          · exact .inr (B9 b (.inl e))
          · exact .inr (B9 b (.inr ⟨_, e⟩)))
        have B2 : ∀ b, RF g (ups (ups W9 (.wr i) lv) .wt v') b → h.next ≤ b := fun b hb => by
          have := T9.nx
          have := tB.nx
          rcases b2 b hb with e | e | e
          · exact B9 b e
          · omega
          · exact (nl9 b e).1
        generalize h9.push (Al.cells [lv]).obj = hB at tB eA cl0 sA b2 ⊢
        refine L_bi v' h1 rfl rfl (by kernel_rfl) (vs := [W9 .wt, .slice (some ⟨h9.next, 0, none⟩) 1 1]) (by kernel_rfl) (bi_append eA) ?_
        refine L_g 2 (by kernel_rfl) ?_
        refine L_st _ rfl rfl rfl (by kernel_rfl) (by kernel_rfl) (eS) ?_
        refine L_nil ?_
        refine W_region ?_
        refine L_g 1 (by kernel_rfl) ?_
        refine L_i ((i : Int)) (1) (.int .i64 ((i + 1 : Nat) : Int)) rfl rfl (by kernel_rfl) (by kernel_rfl) rfl (inc_ok (by omega)) ?_
        refine L_g 1 (by kernel_rfl) ?_
        refine L_nil ?_
        exact ⟨m.st.length - (i + 1), by omega, i + 1, _, by omega, rfl, by kernel_rfl, by kernel_rfl, by kernel_rfl, H2, T2, B2⟩
    ·
      have hge : i = m.st.length := by simp at hb; omega
      refine W_exit ?_
      repeat with_reducible refine then_exit ?_
      refine exit_here ?_
      refine W_seq ?_
      refine W_seq ?_
      skip
      ·
        subst hge
        refine W_region ?_
        refine L_g 1 (by kernel_rfl) ?_
        refine L_nil ?_
        refine W_block ?_
        refine W_loop (fun i1 fr hh => ∃ i W9, i ≤ m.so ∧ i1 = m.so - i ∧ fr 0 = ptr f ∧ fr 3 = ptr g ∧ fr 7 = .int .i64 i ∧ RR hh g W9 (cpG m m.st.length m.st.length 0 i i 0) ∧ Sm Nix h hh ∧ (∀ b, RF g W9 b → h.next ≤ b)) (m.so) ?_ ?_
        ·
          exact ⟨0, W8, Nat.zero_le _, rfl, by kernel_rfl, by kernel_rfl, by kernel_rfl, H8, T8, B8⟩
        rintro i1 fr1 h18 ⟨i, W18, hi, hi1, y0, y3, y7, H18, T18, B18⟩
        have Hf := H.ext T18
        refine W_set (k := 0) y0 ?_
        refine W_set (k := 3) y3 ?_
        refine W_set (k := 7) y7 ?_
        refine W_seq ?_
        refine W_seq ?_
        refine W_region ?_
        refine L_g 4 (by kernel_rfl) ?_
        refine L_ld _ rfl rfl (by kernel_rfl) (Hf.cl.ld (o := 5) (by kernel_rfl) rfl) ?_
        refine L_ln _ rfl rfl (by kernel_rfl) ((Ws.lenV (n := m.so) (Hf.lay.gr .ot).ws u157)) ?_
        refine L_g 1 (by kernel_rfl) ?_
        refine L_nil ?_
        refine W_cond (decide ((i : Int) < (m.so : Nat))) (by kernel_rfl) (fun hb => ?_) (fun hb => ?_)
        ·
          have hlt : i < m.so := by simp at hb; omega
          obtain ⟨hco, hsc, hcc⟩ := hS i hlt
          refine W_skip ?_
          refine W_seq ?_
          refine W_block ?_
          refine W_seq ?_
          skip
          ·
            have Hx : ∀ (hx : AH) (s : Sm Nix h hx), ∃ po, aIndex Tryz.prog 157 (V .ot) (.int .i64 i) = some (.pointer (some po)) ∧ aLoad Tryz.prog 32 po hx = some (V (.or i)) := fun hx s => by
              have G : Ws hx 1 (V .ot) m.so ((List.range m.so).map fun i => V (.or i)) := ((H.ext s).lay.gr .ot).ws
              obtain ⟨pa, x, e1, e2, e3, _, _⟩ := G.elem u157 s32 (by kernel_rfl) hlt .i64
              rw [range_at hlt e2] at e3
              exact ⟨pa, e1, e3⟩
            refine W_drawn (by kernel_rfl) ?_
            refine D_e (e := 13) (l := [0, 1, 2, 3, 4, 5, 6, 7, 8, 9, 10, 11, 12]) (s' := [0, 1, 2, 3, 4]) (by kernel_rfl) (by kernel_rfl) rfl (by kernel_rfl) Rk_nil ?_
            refine NS_b 4 (by kernel_rfl) ?_
            refine NS_ld _ rfl rfl (by kernel_rfl) (by kernel_rfl) (by kernel_rfl) (H18.cl.ld (o := 5) (by kernel_rfl) rfl) ?_
            refine NS_newR (Al.cells []) (.sl 0 0) rfl (by kernel_rfl) rfl rfl (by kernel_rfl) (Rk_1 rfl rfl (Rk_1 rfl rfl (Rk_1 rfl rfl (Rk_1 rfl rfl (Rk_ld _ rfl rfl rfl (by kernel_rfl) ((H18.ext (.push h18 _)).cl.ld (o := 5) (by kernel_rfl) rfl) (by kernel_rfl) (Rk_1 rfl rfl Rk_nil)))))) ?_
            obtain ⟨e0, ee0⟩ : ∃ e0, e0 = h18.next := ⟨_, rfl⟩
            have ta : Sm Nix h18 (h18.push (Al.cells []).obj) := .push h18 _
            have na : (h18.push (Al.cells []).obj).next = h18.next + 1 := rfl
            show NS _ _ _ _ _ _ (upd _ _ (Value.slice (some ⟨h18.next, 0, none⟩) 0 0)) _
            rw [← ee0]
            generalize h18.push (Al.cells []).obj = ha at ta na ⊢
            have Ha := Hf.ext ta
            obtain ⟨po, oi, ol⟩ := Hx ha (T18.ext ta)
            have Go : Ws ha 1 (V (.or i)) m.st.length ((List.range m.st.length).map fun j => bw (m.o i j)) := by
              have := (Ha.lay.gr (.or i)).ws
              rw [show m.nn (.or i) = m.st.length from hco] at this
              have e : Rm.cont V m (.or i) = (List.range m.st.length).map fun j => bw (m.o i j) := by show (List.range (m.co i)).map _ = _; rw [hco]
              rw [e] at this; exact this
            obtain ⟨v2, hb, eA, gA, tb, bA⟩ := copyL (P := Tryz.prog) (T := 32) (el := 4) (by_ := 1) (z := .bool false) (k := 1) (n := m.st.length) (cs := (List.range m.st.length).map fun j => bw (m.o i j)) ta ee0 (by omega) (by kernel_rfl) (by kernel_rfl) (by kernel_rfl) (by kernel_rfl) (by kernel_rfl) (by kernel_rfl) (by decide) Go.sd (fun y hy => by obtain ⟨x, _, rfl⟩ := List.mem_map.1 hy; rfl) (by omega)
            obtain ⟨av, cv, ev⟩ := gA.sd.form
            subst ev
            have Hb := H18.ext tb
            refine NS_b 3 (by kernel_rfl) ?_
            refine NS_ld _ rfl rfl (by kernel_rfl) (by kernel_rfl) (by kernel_rfl) (Ha.cl.ld (o := 5) (by kernel_rfl) rfl) ?_
            refine NS_b 1 (by kernel_rfl) ?_
            refine NS_ix _ rfl rfl (by kernel_rfl) (by kernel_rfl) (by kernel_rfl) (by kernel_rfl) (oi) ?_
            refine NS_ld _ rfl rfl (by kernel_rfl) (by kernel_rfl) (by kernel_rfl) (ol) ?_
            refine NS_nil ?_
            refine L_bi (.slice av m.st.length cv) hb rfl rfl (by kernel_rfl) (vs := [Value.slice (some ⟨e0, 0, none⟩) 0 0, V (.or i)]) (by kernel_rfl) (bi_append eA) ?_
            refine L_nil ⟨rfl, ?_⟩
            refine D_e (e := 15) (l := [14]) (s' := [0]) (by kernel_rfl) (by kernel_rfl) rfl (by kernel_rfl) (Rk_1 rfl rfl (Rk_1 rfl rfl (Rk_1 rfl rfl (Rk_1 rfl rfl (Rk_ld _ rfl rfl rfl (by kernel_rfl) (Hb.cl.ld (o := 5) (by kernel_rfl) rfl) (by kernel_rfl) Rk_nil))))) ?_
            have tB : Sm Nix hb (hb.push (Al.cells [Value.slice av m.st.length cv]).obj) := .push hb _
            obtain ⟨v', h1, h2, eA2, cl0, cl1, sA, eS, H2, t2, b2⟩ := Hb.rowO (n := m.st.length) (o2 := m.o i) (row := .slice av m.st.length cv) gA.ws (fun b hb e => by have x1 := bA b hb; have x2 := H18.lt e; omega) tB (u := .slice (some ⟨hb.next, 0, none⟩) 1 1) ((Cl.new hb _).sd rfl) (by show i < _; omega)
            have H20 : RR h2 g (ups (ups W18 (.or i) (.slice av m.st.length cv)) .ot v') (cpG m m.st.length m.st.length 0 (i + 1) i 0) := by rw [← cpG_O]; exact H2
            have T20 : Sm Nix h h2 := (T18.ext tb).trans t2 (fun b hb => by
              rcases hb with e | e
              · exact .inr (B18 b (.inl e))
              · exact .inr (B18 b (.inr ⟨_, e⟩)))
            have B20 : ∀ b, RF g (ups (ups W18 (.or i) (.slice av m.st.length cv)) .ot v') b → h.next ≤ b := fun b hb => by
              have := T18.nx
              have := tB.nx
              have := tb.nx
              rcases b2 b hb with e | e | e
              · exact B18 b e
              · omega
              · have := bA b e; omega
            refine NS_newR (Al.cells [Value.slice av m.st.length cv]) (.sl 1 1) rfl (by kernel_rfl) rfl rfl (by kernel_rfl) (Rk_1 rfl rfl (Rk_1 rfl rfl (Rk_1 rfl rfl (Rk_1 rfl rfl (Rk_ld _ rfl rfl rfl (by kernel_rfl) ((Hb.ext tB).cl.ld (o := 5) (by kernel_rfl) rfl) (by kernel_rfl) (Rk_1 rfl rfl Rk_nil)))))) ?_
            generalize hb.push (Al.cells [Value.slice av m.st.length cv]).obj = hB at tB eA2 cl0 sA b2
            refine NS_nil ?_
            refine L_bi v' h1 rfl rfl (by kernel_rfl) (vs := [W18 .ot, .slice (some ⟨hb.next, 0, none⟩) 1 1]) (by kernel_rfl) (bi_append eA2) ?_
            refine L_nil ⟨rfl, ?_⟩
            refine D_e (e := 18) (l := [16, 17]) (s' := []) (by kernel_rfl) (by kernel_rfl) rfl (by kernel_rfl) (Rk_noRead (by kernel_rfl)) ?_
            refine NS_b 2 (by kernel_rfl) ?_
            refine NS_nil ?_
            refine L_st _ rfl rfl rfl (by kernel_rfl) (by kernel_rfl) (eS) ?_
            refine L_nil ⟨rfl, ?_⟩
            refine D_l (l := []) (by kernel_rfl) (by kernel_rfl) Rk_nil ?_
            refine NS_nil ?_
            refine W_seq ?_
            refine W_region ?_
            refine L_g 1 (by kernel_rfl) ?_
            refine L_nil ?_
            refine W_seq ?_
            refine W_seq ?_
            refine W_region ?_
            refine L_g 1 (by kernel_rfl) ?_
            refine L_nil ?_
            refine W_block ?_
            refine W_loop (fun i2 fr hh => ∃ j W9 lv, j ≤ m.st.length ∧ i2 = m.st.length - j ∧ fr 0 = ptr f ∧ fr 3 = ptr g ∧ fr 7 = .int .i64 i ∧ fr 8 = lv ∧ fr 9 = .int .i64 j ∧ RR hh g W9 (cpG m m.st.length m.st.length 0 (i + 1) i j) ∧ Sm Nix h hh ∧ (∀ b, RF g W9 b → h.next ≤ b) ∧ Gr hh 1 lv j ((List.range j).map fun b => W9 (.cc i b)) ∧ (∀ b, vb lv = some b → h.next ≤ b ∧ ¬ RF g W9 b)) (m.st.length) ?_ ?_
            ·
              exact ⟨0, _, _, Nat.zero_le _, rfl, by kernel_rfl, by kernel_rfl, by kernel_rfl, by kernel_rfl, by kernel_rfl, H20, T20, B20, Gr.nil, fun b hb => (nil_vb hb).elim⟩
            rintro i2 fr2 h9 ⟨j, W9, lv, hj, hi2, y0, y3, y7, y8, y9, H9, T9, B9, gl9, nl9⟩
            have Hf := H.ext T9
            obtain ⟨pa, _, ea, la, _, _⟩ := Hf.cAtB (i := i) (j := 0) hsc (by rw [hcc]; exact h0n)
            refine W_set (k := 0) y0 ?_
            refine W_set (k := 3) y3 ?_
            refine W_set (k := 7) y7 ?_
            refine W_set (k := 8) y8 ?_
            refine W_set (k := 9) y9 ?_
            refine W_seq ?_
            refine W_seq ?_
            refine W_region ?_
            refine L_g 4 (by kernel_rfl) ?_
            refine L_ld _ rfl rfl (by kernel_rfl) (Hf.cl.ld (o := 6) (by kernel_rfl) rfl) ?_
            refine L_g 1 (by kernel_rfl) ?_
            refine L_ix _ rfl rfl (by kernel_rfl) (by kernel_rfl) (ea) ?_
            refine L_ld _ rfl rfl (by kernel_rfl) (la) ?_
            refine L_ln _ rfl rfl (by kernel_rfl) ((Ws.lenV (n := m.st.length) (by have := (Hf.lay.gr (.cr i)).ws; rw [show m.nn (.cr i) = m.st.length from hcc] at this; exact this) u107r)) ?_
            refine L_g 1 (by kernel_rfl) ?_
            refine L_nil ?_
            refine W_cond (decide ((j : Int) < (m.st.length : Nat))) (by kernel_rfl) (fun hb => ?_) (fun hb => ?_)
            ·
              have hlt2 : j < m.st.length := by simp at hb; omega
              refine W_skip ?_
              refine W_seq ?_
              refine W_block ?_
              refine W_region ?_
              refine L_g 1 (by kernel_rfl) ?_
              refine L_nw (Al.cells []) (.sl 0 0) rfl rfl (by kernel_rfl) ?_
              obtain ⟨e0, ee0⟩ : ∃ e0, e0 = h9.next := ⟨_, rfl⟩
              have ta : Sm Nix h9 (h9.push (Al.cells []).obj) := .push h9 _
              have na : (h9.push (Al.cells []).obj).next = h9.next + 1 := rfl
              show L _ _ _ _ _ (upd _ _ (Value.slice (some ⟨h9.next, 0, none⟩) 0 0)) _
              rw [← ee0]
              generalize h9.push (Al.cells []).obj = ha at ta na ⊢
              have Ha := Hf.ext ta
              obtain ⟨v2, hb, eA, gA, tb, bA⟩ := copyL (P := Tryz.prog) (T := 64) (el := 2) (by_ := 8) (z := .int .i64 0) (k := 1) (cs := (m.c i j).map nv) (n := (m.c i j).length) ta ee0 (by omega) (by kernel_rfl) (by kernel_rfl) (by kernel_rfl) (by kernel_rfl) (by kernel_rfl) (by kernel_rfl) (by decide) (Ha.cGr i j).sd nv_one (by have := hleC i j; omega)
              obtain ⟨av, cv, ev⟩ := gA.sd.form
              subst ev
              have nb2 : ∀ b, vb (Value.slice av (m.c i j).length cv) = some b → ¬ RF g W9 b := fun b hb e => by have h1 := bA b hb; have h2 := H9.lt e; omega
              have Hb := (H9.ext tb).cellC (i := i) (j := j) (l := m.c i j) (by show ¬ j < if i < i then m.st.length else 0; rw [if_neg (by omega)]; omega) gA nb2
              refine L_g 3 (by kernel_rfl) ?_
              refine L_ld _ rfl rfl (by kernel_rfl) (Ha.cl.ld (o := 6) (by kernel_rfl) rfl) ?_
              refine L_g 1 (by kernel_rfl) ?_
              obtain ⟨pa, pb, ea, la, eb, lb⟩ := Ha.cAt (i := i) (j := j) hsc (by rw [hcc]; exact hlt2)
              refine L_ix _ rfl rfl (by kernel_rfl) (by kernel_rfl) (ea) ?_
              refine L_ld _ rfl rfl (by kernel_rfl) (la) ?_
              refine L_g 1 (by kernel_rfl) ?_
              refine L_ix _ rfl rfl (by kernel_rfl) (by kernel_rfl) (eb) ?_
              refine L_ld _ rfl rfl (by kernel_rfl) (lb) ?_
              refine L_bi (.slice av (m.c i j).length cv) hb rfl rfl (by kernel_rfl) (vs := [Value.slice (some ⟨e0, 0, none⟩) 0 0, V (.cc i j)]) (by kernel_rfl) (bi_append eA) ?_
              refine L_nw (Al.cells [Value.slice av (m.c i j).length cv]) (.sl 1 1) rfl rfl (by kernel_rfl) ?_
              have td : Sm Nix hb (hb.push (Al.cells [Value.slice av (m.c i j).length cv]).obj) := .push hb _
              have cd : Cl (hb.push (Al.cells [Value.slice av (m.c i j).length cv]).obj) hb.next [Value.slice av (m.c i j).length cv] := Cl.new hb _
              have nd : (hb.push (Al.cells [Value.slice av (m.c i j).length cv]).obj).next = hb.next + 1 := rfl
              generalize hb.push (Al.cells [Value.slice av (m.c i j).length cv]).obj = hd at td cd nd ⊢
              obtain ⟨l2, he, eL, gL, tL, bL⟩ := ((gl9.ext tb).ext td).append (P := Tryz.prog) (sT := 107) (xT := 107) (el := 64) (by_ := 24) (z := Value.slice none 0 0) (m := 1) (ds := [Value.slice av (m.c i j).length cv]) (by kernel_rfl) (by kernel_rfl) (by kernel_rfl) (by kernel_rfl) (by kernel_rfl) (by kernel_rfl) (by decide) (cd.sd rfl) (fun y hy => by cases List.mem_singleton.1 hy; rfl) (by omega)
              have He : RR he g (ups W9 (.cc i j) (Value.slice av (m.c i j).length cv)) (cpG m m.st.length m.st.length 0 (i + 1) i (j + 1)) := by
                rw [← cpG_c m hlt2]
                refine (Hb.ext td).sm tL (fun b hb e => ?_)
                have h1 := (nl9 b e).2
                rcases RF.ups (h := h9) (fun b hb => .inr (bA b hb)) hb with x | x
                · exact h1 x
                · have := gl9.lt e; omega
              have TE : Sm Nix h he := ((T9.ext tb).ext td).trans tL (fun b hb => .inr (nl9 b hb).1)
              have BE : ∀ b, RF g (ups W9 (.cc i j) (Value.slice av (m.c i j).length cv)) b → h.next ≤ b := fun b hb => (RF.ups (h := h9) (fun b hb => .inr (bA b hb)) hb).elim (B9 b) (fun e => Nat.le_trans T9.nx e)
              have nE : ∀ b, vb l2 = some b → h.next ≤ b ∧ ¬ RF g (ups W9 (.cc i j) (Value.slice av (m.c i j).length cv)) b := fun b hb => by
                have h9n := T9.nx
                have h10 := tb.nx
                rcases bL b hb with x | x
                · have hx := nl9 b x
                  refine ⟨hx.1, fun e => ?_⟩
                  rcases RF.ups (h := h9) (fun b hb => .inr (bA b hb)) e with y | y
                  · exact hx.2 y
                  · have := gl9.lt x; omega
                · refine ⟨by omega, fun e => ?_⟩
                  have := Hb.lt e
                  omega
              have gE : Gr he 1 l2 (j + 1) ((List.range (j + 1)).map fun b => ups W9 (.cc i j) (Value.slice av (m.c i j).length cv) (.cc i b)) := by
                rw [List.range_succ, List.map_append, show (List.range j).map (fun b => ups W9 (.cc i j) (Value.slice av (m.c i j).length cv) (.cc i b)) = (List.range j).map (fun b => W9 (.cc i b)) from List.map_congr_left fun b hb => ups_ne _ _ (fun e => by have := List.mem_range.1 hb; cases e; omega), List.map_singleton, ups_at]
                exact gL
              refine L_bi l2 he rfl rfl (by kernel_rfl) (vs := [lv, .slice (some ⟨hb.next, 0, none⟩) 1 1]) (by kernel_rfl) (bi_append eL) ?_
              refine L_g 1 (by kernel_rfl) ?_
              refine L_nil ?_
              refine W_region ?_
              refine L_g 1 (by kernel_rfl) ?_
              refine L_i ((j : Int)) (1) (.int .i64 ((j + 1 : Nat) : Int)) rfl rfl (by kernel_rfl) (by kernel_rfl) rfl (inc_ok (by omega)) ?_
              refine L_g 1 (by kernel_rfl) ?_
              refine L_nil ?_
              exact ⟨m.st.length - (j + 1), by omega, j + 1, _, l2, by omega, rfl, by kernel_rfl, by kernel_rfl, by kernel_rfl, by kernel_rfl, by kernel_rfl, He, TE, BE, gE, nE⟩
            ·
              have hjn : j = m.st.length := by simp at hb; omega
              refine W_exit ?_
              repeat with_reducible refine then_exit ?_
              refine exit_here ?_
              refine W_region ?_
              refine L_g 4 (by kernel_rfl) ?_
              refine L_ld _ rfl rfl (by kernel_rfl) (H9.cl.ld (o := 6) (by kernel_rfl) rfl) ?_
              refine L_g 1 (by kernel_rfl) ?_
              refine L_nw (Al.cells [lv]) (.sl 1 1) rfl rfl (by obtain ⟨a8, c8, e8⟩ := gl9.sd.form; subst e8; kernel_rfl) ?_
              have tB : Sm Nix h9 (h9.push (Al.cells [lv]).obj) := .push h9 _
              obtain ⟨v', h1, h2, eA, cl0, cl1, sA, eS, H2, t2, b2⟩ := H9.rowC (n := m.st.length) (row := lv) (by subst hjn; exact gl9.ws) (fun b hb => (nl9 b hb).2) tB (u := .slice (some ⟨h9.next, 0, none⟩) 1 1) ((Cl.new h9 _).sd rfl) (by show i < _; omega)
              have H2 : RR h2 g (ups (ups W9 (.cr i) lv) .ct v') (cpG m m.st.length m.st.length 0 (i + 1) (i + 1) 0) := by rw [← cpG_C]; subst hjn; exact H2
              have T2 : Sm Nix h h2 := T9.trans t2 (fun b hb => by
                rcases hb with e | e
                · exact .inr (B9 b (.inl e))
                · exact .inr (B9 b (.inr ⟨_, e⟩)))
              have B2 : ∀ b, RF g (ups (ups W9 (.cr i) lv) .ct v') b → h.next ≤ b := fun b hb => by
                have := T9.nx
                have := tB.nx
                rcases b2 b hb with e | e | e
                · exact B9 b e
                · omega
                · exact (nl9 b e).1
              generalize h9.push (Al.cells [lv]).obj = hB at tB eA cl0 sA b2 ⊢
              refine L_bi v' h1 rfl rfl (by kernel_rfl) (vs := [W9 .ct, .slice (some ⟨h9.next, 0, none⟩) 1 1]) (by kernel_rfl) (bi_append eA) ?_
              refine L_g 2 (by kernel_rfl) ?_
              refine L_st _ rfl rfl rfl (by kernel_rfl) (by kernel_rfl) (eS) ?_
              refine L_nil ?_
              refine W_region ?_
              refine L_g 1 (by kernel_rfl) ?_
              refine L_i ((i : Int)) (1) (.int .i64 ((i + 1 : Nat) : Int)) rfl rfl (by kernel_rfl) (by kernel_rfl) rfl (inc_ok (by omega)) ?_
              refine L_g 1 (by kernel_rfl) ?_
              refine L_nil ?_
              exact ⟨m.so - (i + 1), by omega, i + 1, _, by omega, rfl, by kernel_rfl, by kernel_rfl, by kernel_rfl, H2, T2, B2⟩
        ·
          have hge : i = m.so := by simp at hb; omega
          refine W_exit ?_
          repeat with_reducible refine then_exit ?_
          refine exit_here ?_
          refine W_seq ?_
          refine W_region ?_
          refine L_g 2 (by kernel_rfl) ?_
          refine L_nil ?_
          refine W_ret ?_
          repeat first | with_reducible refine then_ret ?_ | with_reducible refine blk_ret ?_
          refine done_of (v := ptr g) (.inl rfl) (by kernel_rfl) ?_
          subst hge
          exact ⟨g, W18, rfl, H18, T18, fun b hb => by rw [eg]; exact B18 b hb⟩
end
end Go.Proofs.YtdaedcoolcicoaaGreat
