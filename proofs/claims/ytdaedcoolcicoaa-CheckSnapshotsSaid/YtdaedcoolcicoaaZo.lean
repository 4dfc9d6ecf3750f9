/- A part of the proof. -/
import Derived.Test.YtdaedcoolcicoaaZn
namespace Go.Proofs.Ytdaedcoolcicoaa
noncomputable section
open Go Go.X Go.Arm
set_option maxHeartbeats 16000000 in
theorem snap_ok {h : AH} {s0v s2v : Value} {l mv : List Int} {x : Int} (H0 : Sd h 1 s0v l.length (l.map iv)) (H2 : Sd h 1 s2v mv.length (mv.map uv)) (hx : 0 ≤ x ∧ x < 256) (hmv : ∀ z, z ∈ mv → 0 ≤ z ∧ z < 65536) :
    Arm.Calls Try.prog 7 [s0v, .int .u8 x, s2v] h (fun r => r.1 = .bool true) := by
  have eB := u8mod hx 60 (by decide)
  have hB : x.toNat % (60 : Int).toNat < 60 := Nat.mod_lt _ (by decide)
  generalize x.toNat % (60 : Int).toNat = B at eB hB
  have hcase : l.length < 1 ∨ (1 ≤ l.length ∧ 5 < l.length) ∨ (1 ≤ l.length ∧ l.length ≤ 5 ∧ 60 < mv.length) ∨ (1 ≤ l.length ∧ l.length ≤ 5 ∧ mv.length ≤ 60) := by omega
  refine Calls_of_W (n := 255) (fn := Try.f7) (by kernel_rfl) rfl rfl (Nat.le_of_ble_eq_true rfl) trivial (.inr (by simp)) ?_
  refine W_seq ?_
  refine W_region ?_
  refine L_g 1 (by kernel_rfl) ?_
  refine L_nil ?_
  refine W_seq ?_
  refine W_region ?_
  refine L_g 1 (by kernel_rfl) ?_
  refine L_ln _ rfl rfl (by kernel_rfl) (H0.len u64) ?_
  refine L_g 1 (by kernel_rfl) ?_
  refine L_nil ?_
  refine W_seq ?_
  refine W_seq ?_
  rcases hcase with hc | hc | hc | hc
  ·
    refine W_region ?_
    refine L_g 1 (by kernel_rfl) ?_
    refine L_i ((l.length : Int)) (1) (.bool true) rfl rfl (by kernel_rfl) (by kernel_rfl) rfl (by simp; omega) ?_
    refine L_g 9 (by kernel_rfl) ?_
    refine L_nil ?_
    refine W_cond true (by kernel_rfl) (fun _ => ?_) (fun e => by cases e)
    refine W_seq ?_
    refine W_region ?_
    refine L_c rfl rfl (by kernel_rfl) (works_ok) ?_
    rintro v12 h12 e12
    cases e12
    refine L_g 1 (by kernel_rfl) ?_
    refine L_nil ?_
    refine W_ret ?_
    repeat first | with_reducible refine then_ret ?_ | with_reducible refine blk_ret ?_
    refine done_of (v := .bool true) (.inl rfl) (by kernel_rfl) ?_
    rfl
  ·
    refine W_region ?_
    refine L_g 1 (by kernel_rfl) ?_
    refine L_i ((l.length : Int)) (1) (.bool false) rfl rfl (by kernel_rfl) (by kernel_rfl) rfl (by simp; omega) ?_
    refine L_g 2 (by kernel_rfl) ?_
    refine L_want (by kernel_rfl) ?_
    refine L_want (by kernel_rfl) ?_
    refine L_i ((l.length : Int)) (5) (.bool true) rfl rfl (by kernel_rfl) (by kernel_rfl) rfl (by simp; omega) ?_
    refine L_g 6 (by kernel_rfl) ?_
    refine L_nil ?_
    refine W_cond true (by kernel_rfl) (fun _ => ?_) (fun e => by cases e)
    refine W_seq ?_
    refine W_region ?_
    refine L_c rfl rfl (by kernel_rfl) (works_ok) ?_
    rintro v12 h12 e12
    cases e12
    refine L_g 1 (by kernel_rfl) ?_
    refine L_nil ?_
    refine W_ret ?_
    repeat first | with_reducible refine then_ret ?_ | with_reducible refine blk_ret ?_
    refine done_of (v := .bool true) (.inl rfl) (by kernel_rfl) ?_
    rfl
  ·
    refine W_region ?_
    refine L_g 1 (by kernel_rfl) ?_
    refine L_i ((l.length : Int)) (1) (.bool false) rfl rfl (by kernel_rfl) (by kernel_rfl) rfl (by simp; omega) ?_
    refine L_g 2 (by kernel_rfl) ?_
    refine L_want (by kernel_rfl) ?_
    refine L_want (by kernel_rfl) ?_
    refine L_i ((l.length : Int)) (5) (.bool false) rfl rfl (by kernel_rfl) (by kernel_rfl) rfl (by simp; omega) ?_
    refine L_g 3 (by kernel_rfl) ?_
    refine L_want (by kernel_rfl) ?_
    refine L_ln _ rfl rfl (by kernel_rfl) (H2.len u76) ?_
    refine L_want (by kernel_rfl) ?_
    refine L_want (by kernel_rfl) ?_
    refine L_i ((mv.length : Int)) (60) (.bool true) rfl rfl (by kernel_rfl) (by kernel_rfl) rfl (by simp; omega) ?_
    refine L_g 1 (by kernel_rfl) ?_
    refine L_nil ?_
    refine W_cond true (by kernel_rfl) (fun _ => ?_) (fun e => by cases e)
    refine W_seq ?_
    refine W_region ?_
    refine L_c rfl rfl (by kernel_rfl) (works_ok) ?_
    rintro v12 h12 e12
    cases e12
    refine L_g 1 (by kernel_rfl) ?_
    refine L_nil ?_
    refine W_ret ?_
    repeat first | with_reducible refine then_ret ?_ | with_reducible refine blk_ret ?_
    refine done_of (v := .bool true) (.inl rfl) (by kernel_rfl) ?_
    rfl
  ·
    refine W_region ?_
    refine L_g 1 (by kernel_rfl) ?_
    refine L_i ((l.length : Int)) (1) (.bool false) rfl rfl (by kernel_rfl) (by kernel_rfl) rfl (by simp; omega) ?_
    refine L_g 2 (by kernel_rfl) ?_
    refine L_want (by kernel_rfl) ?_
    refine L_want (by kernel_rfl) ?_
    refine L_i ((l.length : Int)) (5) (.bool false) rfl rfl (by kernel_rfl) (by kernel_rfl) rfl (by simp; omega) ?_
    refine L_g 3 (by kernel_rfl) ?_
    refine L_want (by kernel_rfl) ?_
    refine L_ln _ rfl rfl (by kernel_rfl) (H2.len u76) ?_
    refine L_want (by kernel_rfl) ?_
    refine L_want (by kernel_rfl) ?_
    refine L_i ((mv.length : Int)) (60) (.bool false) rfl rfl (by kernel_rfl) (by kernel_rfl) rfl (by simp; omega) ?_
    refine L_g 1 (by kernel_rfl) ?_
    refine L_nil ?_
    refine W_cond false (by kernel_rfl) (fun e => by cases e) (fun _ => ?_)
    refine W_skip ?_
    refine W_seq ?_
    refine W_region ?_
    refine L_g 1 (by kernel_rfl) ?_
    refine L_c rfl rfl (by kernel_rfl) (new_ok H0 (by omega) (by omega)) ?_
    rintro v1 h1 ⟨f, fp, ev, F1, t1, nb1⟩
    dsimp only at ev F1 t1 nb1
    subst ev
    have H01 := H0.ext t1
    have H21 := H2.ext t1
    have T1 : Sm (fun x => h.next ≤ x) h h1 := t1.of
    refine L_g 5 (by kernel_rfl) ?_
    refine L_nil ?_
    refine W_seq ?_
    refine W_seq ?_
    refine W_region ?_
    refine L_g 2 (by kernel_rfl) ?_
    refine L_nil ?_
    refine W_cond false (by kernel_rfl) (fun e => by cases e) (fun _ => ?_)
    refine W_skip ?_
    refine W_seq ?_
    refine W_region ?_
    refine L_g 1 (by kernel_rfl) ?_
    refine L_nil ?_
    refine W_seq ?_
    refine W_seq ?_
    refine W_region ?_
    refine L_g 1 (by kernel_rfl) ?_
    refine L_ln _ rfl rfl (by kernel_rfl) (H01.len u64) ?_
    refine L_g 1 (by kernel_rfl) ?_
    refine L_nil ?_
    refine W_block ?_
    refine W_loop (fun i fr hh => ∃ k, k ≤ l.length ∧ i = l.length - k ∧ fr 1 = .int .u8 x ∧ fr 7 = .int .i64 l.length ∧ fr 8 = ptr f ∧ fr 2 = s2v ∧ fr 10 = .int .i64 (Fl.wr (l.take k).sum) ∧ fr 53 = s0v ∧ fr 54 = .int .i64 l.length ∧ fr 55 = .int .i64 k ∧ hh = h1) (l.length) ?_ ?_
    ·
      exact ⟨0, Nat.zero_le _, rfl, by kernel_rfl, by kernel_rfl, by kernel_rfl, by kernel_rfl, by kernel_rfl, by kernel_rfl, by kernel_rfl, by kernel_rfl, rfl⟩
    rintro i1 fr1 hl1 ⟨k, hk, hi1, y1, y7, y8, y2, y10, y53, y54, y55, rfl⟩
    refine W_set (k := 1) y1 ?_
    refine W_set (k := 7) y7 ?_
    refine W_set (k := 8) y8 ?_
    refine W_set (k := 10) y10 ?_
    refine W_set (k := 2) y2 ?_
    refine W_set (k := 53) y53 ?_
    refine W_set (k := 54) y54 ?_
    refine W_set (k := 55) y55 ?_
    refine W_seq ?_
    refine W_region ?_
    refine L_g 1 (by kernel_rfl) ?_
    refine L_nil ?_
    refine W_seq ?_
    refine W_cond (decide ((k : Int) < (l.length : Nat))) (by kernel_rfl) (fun hb => ?_) (fun hb => ?_)
    ·
      have hlt : k < l.length := by simp at hb; omega
      refine W_skip ?_
      refine W_seq ?_
      refine W_block ?_
      refine W_seq ?_
      refine W_region ?_
      obtain ⟨pa, ei, el⟩ := sElem H01 hlt
      refine L_ix _ rfl rfl (by kernel_rfl) (by kernel_rfl) (ei) ?_
      refine L_ld _ rfl rfl (by kernel_rfl) (el) ?_
      refine L_g 1 (by kernel_rfl) ?_
      refine L_nil ?_
      refine W_region ?_
      refine L_g 2 (by kernel_rfl) ?_
      refine L_i ((Fl.wr (l.take k).sum)) (((l[k]?).getD 0)) (.int .i64 (Fl.wr (l.take (k + 1)).sum)) rfl rfl (by kernel_rfl) (by kernel_rfl) rfl (by rw [take_sum hlt]; exact wr_val _ _) ?_
      refine L_g 1 (by kernel_rfl) ?_
      refine L_nil ?_
      refine W_region ?_
      refine L_i ((k : Int)) (1) (.int .i64 ((k + 1 : Nat) : Int)) rfl rfl (by kernel_rfl) (by kernel_rfl) rfl (inc_ok (by omega)) ?_
      refine L_g 1 (by kernel_rfl) ?_
      refine L_nil ?_
      exact ⟨l.length - (k + 1), by omega, k + 1, by omega, rfl, by kernel_rfl, by kernel_rfl, by kernel_rfl, by kernel_rfl, by kernel_rfl, by kernel_rfl, by kernel_rfl, by kernel_rfl, rfl⟩
    ·
      have hge : k = l.length := by simp at hb; omega
      rw [hge, List.take_length]
      refine W_exit ?_
      repeat with_reducible refine then_exit ?_
      refine exit_here ?_
      refine W_seq ?_
      refine W_region ?_
      refine L_g 1 (by kernel_rfl) ?_
      refine L_nil ?_
      refine W_seq ?_
      refine W_seq ?_
      refine W_region ?_
      refine L_g 1 (by kernel_rfl) ?_
      refine L_ln _ rfl rfl (by kernel_rfl) (H21.len u76) ?_
      refine L_g 1 (by kernel_rfl) ?_
      refine L_nil ?_
      refine W_block ?_
      refine W_loop (fun i fr hh => ∃ k bg, k ≤ mv.length ∧ i = mv.length - k ∧ fr 1 = .int .u8 x ∧ fr 7 = .int .i64 l.length ∧ fr 8 = ptr f ∧ fr 10 = .int .i64 (Fl.wr l.sum) ∧ fr 13 = .bool bg ∧ fr 63 = s2v ∧ fr 64 = .int .i64 mv.length ∧ fr 65 = .int .i64 k ∧ bg = decide (B < k) ∧ ∃ fp m c, FR hh f fp m ∧ Sm (fun x => h.next ≤ x) h hh ∧ (∀ x, x ∈ fp → h.next ≤ x) ∧ c ≤ 2 * k ∧ Gd l.length c m ∧ Fl.Ph l.length l.sum k bg m) (mv.length) ?_ ?_
      ·
        exact ⟨0, false, Nat.zero_le _, rfl, by kernel_rfl, by kernel_rfl, by kernel_rfl, by kernel_rfl, by kernel_rfl, by kernel_rfl, by kernel_rfl, by kernel_rfl, rfl, fp, _, 0, F1, T1, nb1, Nat.le_refl _, Gd.new rfl, Fl.Ph.new rfl⟩
      rintro i2 fr2 h2 ⟨k, bg, hk, hi2, y1, y7, y8, y10, y13, y63, y64, y65, hbg, fp2, m, c, F2, T2, nb2, hc2, G2, P2⟩
      have H22 := H2.sm T2 (fun b hb hx => by have := H2.lt hb; omega)
      refine W_set (k := 1) y1 ?_
      refine W_set (k := 7) y7 ?_
      refine W_set (k := 8) y8 ?_
      refine W_set (k := 10) y10 ?_
      refine W_set (k := 13) y13 ?_
      refine W_set (k := 63) y63 ?_
      refine W_set (k := 64) y64 ?_
      refine W_set (k := 65) y65 ?_
      refine W_seq ?_
      refine W_region ?_
      refine L_g 1 (by kernel_rfl) ?_
      refine L_nil ?_
      refine W_seq ?_
      refine W_cond (decide ((k : Int) < (mv.length : Nat))) (by kernel_rfl) (fun hb => ?_) (fun hb => ?_)
      ·
        have hlt : k < mv.length := by simp at hb; omega
        refine W_skip ?_
        refine W_seq ?_
        refine W_block ?_
        refine W_seq ?_
        refine W_region ?_
        refine L_g 1 (by kernel_rfl) ?_
        obtain ⟨pa, z, hz, ei, el⟩ := mElem H22 hlt
        have hz := hmv z hz
        refine L_ix _ rfl rfl (by kernel_rfl) (by kernel_rfl) (ei) ?_
        refine L_ld _ rfl rfl (by kernel_rfl) (el) ?_
        refine L_g 2 (by kernel_rfl) ?_
        refine L_nil ?_
        refine W_seq_cut (fun fr hh => ∃ bg3, fr 1 = .int .u8 x ∧ fr 7 = .int .i64 l.length ∧ fr 8 = ptr f ∧ fr 10 = .int .i64 (Fl.wr l.sum) ∧ fr 13 = .bool bg3 ∧ fr 63 = s2v ∧ fr 64 = .int .i64 mv.length ∧ fr 65 = .int .i64 k ∧ fr 15 = .int .u16 z ∧ bg3 = decide (B < k + 1) ∧ ∃ fp3 m3 c3, FR hh f fp3 m3 ∧ Sm (fun x => h.next ≤ x) h hh ∧ (∀ x, x ∈ fp3 → h.next ≤ x) ∧ c3 ≤ 2 * k + 1 ∧ Gd l.length c3 m3 ∧ Fl.Ph l.length l.sum k bg3 m3) ?_ ?_
        ·
          refine W_seq ?_
          refine W_region ?_
          refine L_g 3 (by kernel_rfl) ?_
          refine L_p (.int .i64 (B : Nat)) rfl (Eq.trans (b := some (.int .i64 (Int.tmod (IntKind.i64.wrap x) 60))) (by kernel_rfl) (by rw [eB])) ?_
          refine L_g 1 (by kernel_rfl) ?_
          refine L_nil ?_
          refine W_cond ((k : Int) == ((B : Nat) : Int)) (by kernel_rfl) (fun hb => ?_) (fun hb => ?_)
          ·
            have hkB : k = B := by simp at hb; omega
            have hbf : bg = false := by rw [hbg]; simp; omega
            rw [hbf] at P2
            have hpb : x.toNat % l.length < l.length := Nat.mod_lt _ (by omega)
            have hg2 : c * (l.length + 1) < 4000000000 := Nat.lt_of_le_of_lt (Nat.mul_le_mul (show c ≤ 200 by omega) (show l.length + 1 ≤ 6 by omega)) (by decide)
            refine W_seq ?_
            refine W_region ?_
            refine L_g 1 (by kernel_rfl) ?_
            refine L_nil ?_
            refine W_seq ?_
            refine W_region ?_
            refine L_g 2 (by kernel_rfl) ?_
            refine L_p (.int .i64 ((x.toNat : Nat) : Int)) rfl (Eq.trans (b := some (.int .i64 (IntKind.i64.wrap x))) (by kernel_rfl) (by rw [u16nat ⟨hx.1, by omega⟩])) ?_
            refine L_g 1 (by kernel_rfl) ?_
            refine L_p (.int .i64 ((x.toNat % l.length : Nat) : Int)) rfl (ev_rem (by kernel_rfl) (by kernel_rfl) (by omega)) ?_
            refine L_c rfl rfl (by kernel_rfl) (G2.callBegin (p := x.toNat % l.length) F2 P2.none hg2 (by omega) hpb) ?_
            rintro v3 h3 ⟨e3, fp3, F3, t3, nb3⟩
            dsimp only at e3 F3 t3 nb3
            subst e3
            refine L_g 1 (by kernel_rfl) ?_
            refine L_nil ?_
            refine W_cond false (by kernel_rfl) (fun e => by cases e) (fun _ => ?_)
            refine W_skip ?_
            exact ⟨true, by kernel_rfl, by kernel_rfl, by kernel_rfl, by kernel_rfl, by kernel_rfl, by kernel_rfl, by kernel_rfl, by kernel_rfl, by kernel_rfl, by rw [eq_comm, decide_eq_true_eq]; omega, fp3, _, _, F3, T2.trans t3 (fun x hx => .inl (nb2 x hx)), fun x hx => (nb3 x hx).elim (nb2 x) (fun e => Nat.le_trans T2.nx e), by omega, G2.begin_, P2.begin_ hpb⟩
          ·
            have hkB : ¬ k = B := by simp at hb; omega
            refine W_skip ?_
            exact ⟨bg, by kernel_rfl, by kernel_rfl, by kernel_rfl, by kernel_rfl, by kernel_rfl, by kernel_rfl, by kernel_rfl, by kernel_rfl, by kernel_rfl, by rw [hbg, decide_eq_decide]; omega, fp2, m, c, F2, T2, nb2, by omega, G2, P2⟩
        ·
          rintro fr3 h3 ⟨bg3, y1, y7, y8, y10, y13, y63, y64, y65, y15, hbg3, fp3, m3, c3, F3, T3, nb3, hc3, G3, P3⟩
          refine W_set (k := 1) y1 ?_
          refine W_set (k := 7) y7 ?_
          refine W_set (k := 8) y8 ?_
          refine W_set (k := 10) y10 ?_
          refine W_set (k := 13) y13 ?_
          refine W_set (k := 63) y63 ?_
          refine W_set (k := 64) y64 ?_
          refine W_set (k := 65) y65 ?_
          refine W_set (k := 15) y15 ?_
          have hp : z.toNat % l.length < l.length := Nat.mod_lt _ (by omega)
          have hq : z.toNat / 5 % l.length < l.length := Nat.mod_lt _ (by omega)
          have hg3 : c3 * (l.length + 1) < 4000000000 := Nat.lt_of_le_of_lt (Nat.mul_le_mul (show c3 ≤ 200 by omega) (show l.length + 1 ≤ 6 by omega)) (by decide)
          refine W_seq ?_
          refine W_drawn (by kernel_rfl) ?_
          refine D_l (l := [0, 1, 2, 3, 4, 5, 6, 7, 8, 9, 10]) (by kernel_rfl) (by kernel_rfl) Rk_nil ?_
          refine NS_b 1 (by kernel_rfl) ?_
          refine NS_v (.int .i64 ((z.toNat : Nat) : Int)) rfl (by kernel_rfl) rfl (by kernel_rfl) (Eq.trans (b := some (.int .i64 (IntKind.i64.wrap z))) (by kernel_rfl) (by rw [u16nat hz])) ?_
          refine NS_b 1 (by kernel_rfl) ?_
          refine NS_v (.int .i64 ((z.toNat % l.length : Nat) : Int)) rfl (by kernel_rfl) rfl (by kernel_rfl) (ev_rem (by kernel_rfl) (by kernel_rfl) (by omega)) ?_
          refine NS_b 2 (by kernel_rfl) ?_
          refine NS_v (.int .i64 ((z.toNat / 5 : Nat) : Int)) rfl (by kernel_rfl) rfl (by kernel_rfl) (Eq.trans (b := some (.int .i64 (IntKind.i64.wrap (Int.tdiv (IntKind.i64.wrap z) 5)))) (by kernel_rfl) (by rw [quo5 hz])) ?_
          refine NS_b 1 (by kernel_rfl) ?_
          refine NS_v (.int .i64 ((z.toNat / 5 % l.length : Nat) : Int)) rfl (by kernel_rfl) rfl (by kernel_rfl) (ev_rem (by kernel_rfl) (by kernel_rfl) (by omega)) ?_
          refine NS_b 2 (by kernel_rfl) ?_
          refine NS_nil ?_
          refine W_seq ?_
          refine W_seq ?_
          refine W_region ?_
          refine L_g 3 (by kernel_rfl) ?_
          refine L_nil ?_
          refine W_cond (((z.toNat % l.length : Nat) : Int) == ((z.toNat / 5 % l.length : Nat) : Int)) (by kernel_rfl) (fun hb => ?_) (fun hb => ?_)
          ·
            refine W_exit ?_
            repeat with_reducible refine then_exit ?_
            refine exit_here ?_
            refine W_region ?_
            refine L_i ((k : Int)) (1) (.int .i64 ((k + 1 : Nat) : Int)) rfl rfl (by kernel_rfl) (by kernel_rfl) rfl (inc_ok (by omega)) ?_
            refine L_g 1 (by kernel_rfl) ?_
            refine L_nil ?_
            refine ⟨mv.length - (k + 1), by omega, k + 1, bg3, by omega, rfl, by kernel_rfl, by kernel_rfl, by kernel_rfl, by kernel_rfl, by kernel_rfl, by kernel_rfl, by kernel_rfl, by kernel_rfl, hbg3, fp3, _, _, F3, T3, nb3, ?_, G3, P3.up (Nat.le_succ _)⟩
            omega
          ·
            have hpq : ¬ z.toNat % l.length = z.toNat / 5 % l.length := fun e => by rw [e] at hb; simp at hb
            refine W_skip ?_
            refine W_seq ?_
            refine W_region ?_
            refine L_g 3 (by kernel_rfl) ?_
            refine L_nil ?_
            refine W_cond (Int.tmod z 3 == 0) (by kernel_rfl) (fun hb => ?_) (fun hb => ?_)
            ·
              refine W_seq ?_
              refine W_region ?_
              refine L_g 5 (by kernel_rfl) ?_
              refine L_c rfl rfl (by kernel_rfl) (G3.callPass (p := z.toNat % l.length) (q := z.toNat / 5 % l.length) (v := IntKind.i64.wrap z) F3 hg3 hp hq hpq) ?_
              rintro v4 h4 ⟨e4, F4, t4⟩
              dsimp only at e4 F4 t4
              subst e4
              refine L_g 1 (by kernel_rfl) ?_
              refine L_nil ?_
              refine W_cond false (by kernel_rfl) (fun e => by cases e) (fun _ => ?_)
              refine W_skip ?_
              refine W_region ?_
              refine L_i ((k : Int)) (1) (.int .i64 ((k + 1 : Nat) : Int)) rfl rfl (by kernel_rfl) (by kernel_rfl) rfl (inc_ok (by omega)) ?_
              refine L_g 1 (by kernel_rfl) ?_
              refine L_nil ?_
              refine ⟨mv.length - (k + 1), by omega, k + 1, bg3, by omega, rfl, by kernel_rfl, by kernel_rfl, by kernel_rfl, by kernel_rfl, by kernel_rfl, by kernel_rfl, by kernel_rfl, by kernel_rfl, hbg3, fp3, _, _, F4, T3.trans t4 (fun x hx => .inl (nb3 x hx)), nb3, ?_, G3.pass, P3.pass hp hq hpq⟩
              omega
            ·
              refine W_seq ?_
              refine W_region ?_
              refine L_g 3 (by kernel_rfl) ?_
              refine L_c rfl rfl (by kernel_rfl) (G3.callDlv (p := z.toNat % l.length) (q := z.toNat / 5 % l.length) F3 hg3 (by omega) hp hq hpq) ?_
              rintro v4 h4 ⟨⟨d4, e4⟩, F4, t4⟩
              dsimp only at e4 F4 t4
              subst e4
              refine L_g 5 (by kernel_rfl) ?_
              refine L_nil ?_
              refine W_seq ?_
              refine W_region ?_
              refine L_g 2 (by kernel_rfl) ?_
              refine L_nil ?_
              refine W_cond false (by kernel_rfl) (fun e => by cases e) (fun _ => ?_)
              refine W_skip ?_
              refine W_region ?_
              refine L_i ((k : Int)) (1) (.int .i64 ((k + 1 : Nat) : Int)) rfl rfl (by kernel_rfl) (by kernel_rfl) rfl (inc_ok (by omega)) ?_
              refine L_g 1 (by kernel_rfl) ?_
              refine L_nil ?_
              refine ⟨mv.length - (k + 1), by omega, k + 1, bg3, by omega, rfl, by kernel_rfl, by kernel_rfl, by kernel_rfl, by kernel_rfl, by kernel_rfl, by kernel_rfl, by kernel_rfl, by kernel_rfl, hbg3, fp3, _, _, F4, T3.trans t4 (fun x hx => .inl (nb3 x hx)), nb3, ?_, G3.dlv, (P3.dlv hp hq hpq).up (Nat.le_succ _)⟩
              omega
      ·
        have hge : k = mv.length := by simp at hb; omega
        refine W_exit ?_
        repeat with_reducible refine then_exit ?_
        refine exit_here ?_
        refine W_seq_cut (fun fr hh => fr 1 = .int .u8 x ∧ fr 7 = .int .i64 l.length ∧ fr 8 = ptr f ∧ fr 10 = .int .i64 (Fl.wr l.sum) ∧ ∃ fp5 m5 c5, FR hh f fp5 m5 ∧ Sm (fun x => h.next ≤ x) h hh ∧ (∀ x, x ∈ fp5 → h.next ≤ x) ∧ c5 ≤ 200 ∧ Gd l.length c5 m5 ∧ Fl.Ph l.length l.sum 60 true m5) ?_ ?_
        ·
          refine W_seq ?_
          clear hbg
          cases bg
          ·
            refine W_region ?_
            refine L_g 4 (by kernel_rfl) ?_
            have hg2 : c * (l.length + 1) < 4000000000 := Nat.lt_of_le_of_lt (Nat.mul_le_mul (show c ≤ 200 by omega) (show l.length + 1 ≤ 6 by omega)) (by decide)
            refine L_want (by kernel_rfl) ?_
            refine L_c rfl rfl (by kernel_rfl) (G2.callBegin (p := 0) F2 P2.none hg2 (by omega) (by omega)) ?_
            rintro v5 h5 ⟨e5, fp5, F5, t5, nb5⟩
            dsimp only at e5 F5 t5 nb5
            subst e5
            refine L_g 2 (by kernel_rfl) ?_
            refine L_nil ?_
            refine W_cond false (by kernel_rfl) (fun e => by cases e) (fun _ => ?_)
            refine W_skip ?_
            exact ⟨by kernel_rfl, by kernel_rfl, by kernel_rfl, by kernel_rfl, fp5, _, _, F5, T2.trans t5 (fun x hx => .inl (nb2 x hx)), fun x hx => (nb5 x hx).elim (nb2 x) (fun e => Nat.le_trans T2.nx e), by omega, G2.begin_, (P2.begin_ (by omega)).up (by omega)⟩
          ·
            refine W_region ?_
            refine L_g 7 (by kernel_rfl) ?_
            refine L_nil ?_
            refine W_cond false (by kernel_rfl) (fun e => by cases e) (fun _ => ?_)
            refine W_skip ?_
            exact ⟨by kernel_rfl, by kernel_rfl, by kernel_rfl, by kernel_rfl, fp2, m, c, F2, T2, nb2, by omega, G2, P2.up (by omega)⟩
        ·
          rintro fr5 h5 ⟨y1, y7, y8, y10, fp5, m5, c5, F5, T5, nb5, hc5, G5, P5⟩
          refine W_set (k := 1) y1 ?_
          refine W_set (k := 7) y7 ?_
          refine W_set (k := 8) y8 ?_
          refine W_set (k := 10) y10 ?_
          refine W_seq ?_
          refine W_seq ?_
          refine W_region ?_
          refine L_g 1 (by kernel_rfl) ?_
          refine L_nil ?_
          refine W_block ?_
          refine W_loop (fun i fr hh => ∃ k, k ≤ 200 ∧ i = 200 - k ∧ fr 1 = .int .u8 x ∧ fr 7 = .int .i64 l.length ∧ fr 8 = ptr f ∧ fr 10 = .int .i64 (Fl.wr l.sum) ∧ fr 121 = .int .i64 k ∧ FR hh f fp5 (Fl.rnds l.length k m5) ∧ Sm (fun x => h.next ≤ x) h hh ∧ ∃ c, c ≤ c5 + k * 25 ∧ Gd l.length c (Fl.rnds l.length k m5)) (200) ?_ ?_
          ·
            exact ⟨0, Nat.zero_le _, rfl, by kernel_rfl, by kernel_rfl, by kernel_rfl, by kernel_rfl, by kernel_rfl, F5, T5, c5, by omega, G5⟩
          rintro i6 fr6 h6 ⟨k6, hk6, hi6, y1, y7, y8, y10, y121, F6, T6, c6, hc6, G6⟩
          refine W_set (k := 1) y1 ?_
          refine W_set (k := 7) y7 ?_
          refine W_set (k := 8) y8 ?_
          refine W_set (k := 10) y10 ?_
          refine W_set (k := 121) y121 ?_
          refine W_seq ?_
          refine W_region ?_
          refine L_g 1 (by kernel_rfl) ?_
          refine L_nil ?_
          refine W_seq ?_
          refine W_cond (decide ((k6 : Int) < 200)) (by kernel_rfl) (fun hb => ?_) (fun hb => ?_)
          ·
            have hlt6 : k6 < 200 := by simp at hb; omega
            refine W_skip ?_
            refine W_seq ?_
            refine W_block ?_
            refine W_seq ?_
            refine W_region ?_
            refine L_g 2 (by kernel_rfl) ?_
            refine L_nil ?_
            refine W_block ?_
            refine W_loop (fun i fr hh => ∃ k, k ≤ l.length ∧ i = l.length - k ∧ fr 1 = .int .u8 x ∧ fr 7 = .int .i64 l.length ∧ fr 8 = ptr f ∧ fr 10 = .int .i64 (Fl.wr l.sum) ∧ fr 121 = .int .i64 k6 ∧ fr 123 = .int .i64 l.length ∧ fr 124 = .int .i64 k ∧ FR hh f fp5 (Fl.rnd l.length k (Fl.rnds l.length k6 m5)) ∧ Sm (fun x => h.next ≤ x) h hh ∧ ∃ c, c ≤ c5 + k6 * 25 + k * 5 ∧ Gd l.length c (Fl.rnd l.length k (Fl.rnds l.length k6 m5))) (l.length) ?_ ?_
            ·
              exact ⟨0, Nat.zero_le _, rfl, by kernel_rfl, by kernel_rfl, by kernel_rfl, by kernel_rfl, by kernel_rfl, by kernel_rfl, by kernel_rfl, F6, T6, c6, by omega, G6⟩
            rintro i7 fr7 h7 ⟨k7, hk7, hi7, y1, y7, y8, y10, y121, y123, y124, F7, T7, c7, hc7, G7⟩
            refine W_set (k := 1) y1 ?_
            refine W_set (k := 7) y7 ?_
            refine W_set (k := 8) y8 ?_
            refine W_set (k := 10) y10 ?_
            refine W_set (k := 121) y121 ?_
            refine W_set (k := 123) y123 ?_
            refine W_set (k := 124) y124 ?_
            refine W_seq ?_
            refine W_region ?_
            refine L_g 1 (by kernel_rfl) ?_
            refine L_nil ?_
            refine W_seq ?_
            refine W_cond (decide ((k7 : Int) < (l.length : Nat))) (by kernel_rfl) (fun hb => ?_) (fun hb => ?_)
            ·
              have hlt7 : k7 < l.length := by simp at hb; omega
              refine W_skip ?_
              refine W_seq ?_
              refine W_block ?_
              refine W_seq ?_
              refine W_region ?_
              refine L_g 2 (by kernel_rfl) ?_
              refine L_nil ?_
              refine W_seq ?_
              refine W_region ?_
              refine L_g 2 (by kernel_rfl) ?_
              refine L_nil ?_
              refine W_block ?_
              refine W_loop (fun i fr hh => ∃ k, k ≤ l.length ∧ i = l.length - k ∧ fr 1 = .int .u8 x ∧ fr 7 = .int .i64 l.length ∧ fr 8 = ptr f ∧ fr 10 = .int .i64 (Fl.wr l.sum) ∧ fr 121 = .int .i64 k6 ∧ fr 123 = .int .i64 l.length ∧ fr 124 = .int .i64 k7 ∧ fr 20 = .int .i64 k7 ∧ fr 127 = .int .i64 l.length ∧ fr 128 = .int .i64 k ∧ FR hh f fp5 (Fl.rowd k7 k (Fl.rnd l.length k7 (Fl.rnds l.length k6 m5))) ∧ Sm (fun x => h.next ≤ x) h hh ∧ ∃ c, c ≤ c5 + k6 * 25 + k7 * 5 + k ∧ Gd l.length c (Fl.rowd k7 k (Fl.rnd l.length k7 (Fl.rnds l.length k6 m5)))) (l.length) ?_ ?_
              ·
                exact ⟨0, Nat.zero_le _, rfl, by kernel_rfl, by kernel_rfl, by kernel_rfl, by kernel_rfl, by kernel_rfl, by kernel_rfl, by kernel_rfl, by kernel_rfl, by kernel_rfl, by kernel_rfl, F7, T7, c7, by omega, G7⟩
              rintro i8 fr8 h8 ⟨k8, hk8, hi8, y1, y7, y8, y10, y121, y123, y124, y20, y127, y128, F8, T8, c8, hc8, G8⟩
              refine W_set (k := 1) y1 ?_
              refine W_set (k := 7) y7 ?_
              refine W_set (k := 8) y8 ?_
              refine W_set (k := 10) y10 ?_
              refine W_set (k := 121) y121 ?_
              refine W_set (k := 123) y123 ?_
              refine W_set (k := 124) y124 ?_
              refine W_set (k := 20) y20 ?_
              refine W_set (k := 127) y127 ?_
              refine W_set (k := 128) y128 ?_
              refine W_seq ?_
              refine W_region ?_
              refine L_g 1 (by kernel_rfl) ?_
              refine L_nil ?_
              refine W_seq ?_
              refine W_cond (decide ((k8 : Int) < (l.length : Nat))) (by kernel_rfl) (fun hb => ?_) (fun hb => ?_)
              ·
                have hlt8 : k8 < l.length := by simp at hb; omega
                refine W_skip ?_
                refine W_seq ?_
                refine W_block ?_
                refine W_seq ?_
                refine W_region ?_
                refine L_g 2 (by kernel_rfl) ?_
                refine L_nil ?_
                refine W_seq ?_
                refine W_region ?_
                refine L_g 3 (by kernel_rfl) ?_
                refine L_nil ?_
                refine W_cond ((k7 : Int) != (k8 : Int)) (by kernel_rfl) (fun hb => ?_) (fun hb => ?_)
                ·
                  have hne : ¬ k7 = k8 := by simp at hb; omega
                  have hg8 : c8 * (l.length + 1) < 4000000000 := Nat.lt_of_le_of_lt (Nat.mul_le_mul (show c8 ≤ 6000 by omega) (show l.length + 1 ≤ 6 by omega)) (by decide)
                  refine W_region ?_
                  refine L_g 3 (by kernel_rfl) ?_
                  refine L_c rfl rfl (by kernel_rfl) (G8.callDlv (p := k7) (q := k8) F8 hg8 (by omega) hlt7 hlt8 hne) ?_
                  rintro v9 h9 ⟨⟨d9, e9⟩, F9, t9⟩
                  dsimp only at e9 F9 t9
                  refine L_nil ?_
                  refine W_region ?_
                  refine L_i ((k8 : Int)) (1) (.int .i64 ((k8 + 1 : Nat) : Int)) rfl rfl (by kernel_rfl) (by kernel_rfl) rfl (inc_ok (by omega)) ?_
                  refine L_g 1 (by kernel_rfl) ?_
                  refine L_nil ?_
                  refine ⟨l.length - (k8 + 1), by omega, k8 + 1, by omega, rfl, by kernel_rfl, by kernel_rfl, by kernel_rfl, by kernel_rfl, by kernel_rfl, by kernel_rfl, by kernel_rfl, by kernel_rfl, by kernel_rfl, by kernel_rfl, ?_, T8.trans t9 (fun x hx => .inl (nb5 x hx)), c8 + 1, by omega, ?_⟩
                  · unfold Fl.rowd; rw [if_neg hne]; exact F9
                  · unfold Fl.rowd; rw [if_neg hne]; exact G8.dlv
                ·
                  have hne : k7 = k8 := by simp at hb; omega
                  refine W_skip ?_
                  refine W_region ?_
                  refine L_i ((k8 : Int)) (1) (.int .i64 ((k8 + 1 : Nat) : Int)) rfl rfl (by kernel_rfl) (by kernel_rfl) rfl (inc_ok (by omega)) ?_
                  refine L_g 1 (by kernel_rfl) ?_
                  refine L_nil ?_
                  refine ⟨l.length - (k8 + 1), by omega, k8 + 1, by omega, rfl, by kernel_rfl, by kernel_rfl, by kernel_rfl, by kernel_rfl, by kernel_rfl, by kernel_rfl, by kernel_rfl, by kernel_rfl, by kernel_rfl, by kernel_rfl, ?_, T8, c8, by omega, ?_⟩
                  · unfold Fl.rowd; rw [if_pos hne]; exact F8
                  · unfold Fl.rowd; rw [if_pos hne]; exact G8
              ·
                have hge8 : ¬ k8 < l.length := by simp at hb; omega
                refine W_exit ?_
                repeat with_reducible refine then_exit ?_
                refine exit_here ?_
                refine W_region ?_
                refine L_i ((k7 : Int)) (1) (.int .i64 ((k7 + 1 : Nat) : Int)) rfl rfl (by kernel_rfl) (by kernel_rfl) rfl (inc_ok (by omega)) ?_
                refine L_g 1 (by kernel_rfl) ?_
                refine L_nil ?_
                have hqn : k8 = l.length := by omega
                subst hqn
                refine ⟨l.length - (k7 + 1), by omega, k7 + 1, by omega, rfl, by kernel_rfl, by kernel_rfl, by kernel_rfl, by kernel_rfl, by kernel_rfl, by kernel_rfl, by kernel_rfl, F8, T8, c8, ?_, G8⟩
                omega
            ·
              have hge7 : ¬ k7 < l.length := by simp at hb; omega
              refine W_exit ?_
              repeat with_reducible refine then_exit ?_
              refine exit_here ?_
              refine W_region ?_
              refine L_i ((k6 : Int)) (1) (.int .i64 ((k6 + 1 : Nat) : Int)) rfl rfl (by kernel_rfl) (by kernel_rfl) rfl (inc_ok (by omega)) ?_
              refine L_g 1 (by kernel_rfl) ?_
              refine L_nil ?_
              have hpn : k7 = l.length := by omega
              subst hpn
              refine ⟨200 - (k6 + 1), by omega, k6 + 1, by omega, rfl, by kernel_rfl, by kernel_rfl, by kernel_rfl, by kernel_rfl, by kernel_rfl, F7, T7, c7, ?_, G7⟩
              omega
          ·
            have hge6 : k6 = 200 := by simp at hb; omega
            subst hge6
            refine W_exit ?_
            repeat with_reducible refine then_exit ?_
            refine exit_here ?_
            refine W_seq ?_
            refine W_region ?_
            refine L_g 1 (by kernel_rfl) ?_
            obtain ⟨s, hs, hop, hnow, hshot, hdia⟩ := P5.ends (Nat.le_refl _) (by omega)
            refine L_c rfl rfl (by kernel_rfl) (G6.callTaken F6 hs hop (by omega) (by omega)) ?_
            rintro v8 h8 ⟨A, Bb, fp8, e8, ⟨ca, cA, lca, rca⟩, ⟨cb, cB, lcb, rcb⟩, nA, nB, F8, t8, hfp8, hf5⟩
            dsimp only at e8 cA lca rca cB lcb rcb nA nB F8 t8
            subst e8
            generalize Fl.rnds l.length 200 m5 = m6 at hs hnow F6 F8 G6
            refine L_g 4 (by kernel_rfl) ?_
            refine L_nw (Al.cells [Value.slice none 0 0, Value.slice none 0 0]) (.ptr) rfl rfl (by kernel_rfl) ?_
            have c9 : Cl (h8.push (Al.cells [Value.slice none 0 0, Value.slice none 0 0]).obj) h8.next [Value.slice none 0 0, Value.slice none 0 0] := Cl.new h8 _
            have t9 : Sm Nix h8 (h8.push (Al.cells [Value.slice none 0 0, Value.slice none 0 0]).obj) := .push h8 _
            have n9 : (h8.push (Al.cells [Value.slice none 0 0, Value.slice none 0 0]).obj).next = h8.next + 1 := rfl
            generalize h8.push (Al.cells [Value.slice none 0 0, Value.slice none 0 0]).obj = h9 at c9 t9 n9 ⊢
            obtain ⟨h10, e10, c10, t10, n10⟩ := c9.storeS (P := Try.prog) (T := 71) (v := .agg ⟨[Value.slice (some ⟨A, 0, none⟩) l.length l.length, Value.slice (some ⟨Bb, 0, none⟩) l.length l.length]⟩) (cs := [Value.slice (some ⟨A, 0, none⟩) l.length l.length, Value.slice (some ⟨Bb, 0, none⟩) l.length l.length]) (by kernel_rfl) rfl rfl (fun x hx => by simp only [List.mem_cons, List.not_mem_nil, or_false] at hx; rcases hx with rfl | rfl <;> rfl)
            have T10 : Sm Nix h8 h10 := t9.trans t10 (fun x hx => .inr (by omega))
            have F10 := F8.ext T10
            have cA := cA.ext T10
            have cB := cB.ext T10
            have rcb : ∀ i, i < l.length → ∃ R, cb[i]? = some (.slice (some ⟨R, 0, none⟩) l.length l.length) ∧ Row h10 h6.next R l.length (fun j => Fl.ctOf s ((i : Int), (j : Int))) := fun i hi => by
              obtain ⟨R, a1, a2⟩ := rcb i hi
              exact ⟨R, a1, a2.sm T10 (fun x hx => hx.elim)⟩
            refine L_st _ rfl rfl rfl (by kernel_rfl) (by kernel_rfl) (e10) ?_
            refine L_g 2 (by kernel_rfl) ?_
            refine L_nil ?_
            refine W_seq ?_
            refine W_seq ?_
            refine W_region ?_
            refine L_g 8 (by kernel_rfl) ?_
            refine L_want (by kernel_rfl) ?_
            refine L_ld _ rfl rfl (by kernel_rfl) (c10.ld (o := 0) (by kernel_rfl) rfl) ?_
            refine L_g 2 (by kernel_rfl) ?_
            refine L_want (by kernel_rfl) ?_
            refine L_want (by kernel_rfl) ?_
            refine L_i ((l.length : Int)) ((l.length : Int)) (.bool false) rfl rfl (by kernel_rfl) (by kernel_rfl) rfl (by simp) ?_
            refine L_g 3 (by kernel_rfl) ?_
            refine L_want (by kernel_rfl) ?_
            refine L_ld _ rfl rfl (by kernel_rfl) (c10.ld (o := 1) (by kernel_rfl) rfl) ?_
            refine L_g 2 (by kernel_rfl) ?_
            refine L_want (by kernel_rfl) ?_
            refine L_want (by kernel_rfl) ?_
            refine L_i ((l.length : Int)) ((l.length : Int)) (.bool false) rfl rfl (by kernel_rfl) (by kernel_rfl) rfl (by simp) ?_
            refine L_g 1 (by kernel_rfl) ?_
            refine L_nil ?_
            refine W_cond false (by kernel_rfl) (fun e => by cases e) (fun _ => ?_)
            refine W_skip ?_
            refine W_seq ?_
            refine W_region ?_
            refine L_g 2 (by kernel_rfl) ?_
            refine L_nil ?_
            refine W_seq ?_
            refine W_seq ?_
            refine W_region ?_
            refine L_g 2 (by kernel_rfl) ?_
            refine L_nil ?_
            refine W_block ?_
            refine W_loop (fun i fr hh => ∃ p, p ≤ l.length ∧ i = l.length - p ∧ fr 7 = .int .i64 l.length ∧ fr 8 = ptr f ∧ fr 10 = .int .i64 (Fl.wr l.sum) ∧ fr 22 = ptr h8.next ∧ fr 24 = .int .i64 (Fl.wr (rsum p m6.at_)) ∧ fr 25 = .int .i64 (Fl.wr (rsum p (fun i : Nat => (kget s.st (i : Int)).getD 0) + rsum p (fun i => rsum l.length ((fun i k : Nat => (Fl.ctOf s ((i : Int), (k : Int))).sum) i)))) ∧ fr 167 = .int .i64 l.length ∧ fr 168 = .int .i64 p ∧ Sm Nix h10 hh) (l.length) ?_ ?_
            ·
              exact ⟨0, Nat.zero_le _, rfl, by kernel_rfl, by kernel_rfl, by kernel_rfl, by kernel_rfl, by kernel_rfl, by kernel_rfl, by kernel_rfl, by kernel_rfl, .refl⟩
            rintro i11 fr11 h11 ⟨p, hp, hi11, y7, y8, y10, y22, y24, y25, y167, y168, T11⟩
            have F11 := F10.ext T11
            have G11 : m6.st.length = l.length := G6.len
            refine W_set (k := 7) y7 ?_
            refine W_set (k := 8) y8 ?_
            refine W_set (k := 10) y10 ?_
            refine W_set (k := 22) y22 ?_
            refine W_set (k := 24) y24 ?_
            refine W_set (k := 25) y25 ?_
            refine W_set (k := 167) y167 ?_
            refine W_set (k := 168) y168 ?_
            refine W_seq ?_
            refine W_region ?_
            refine L_g 1 (by kernel_rfl) ?_
            refine L_nil ?_
            refine W_seq ?_
            refine W_cond (decide ((p : Int) < (l.length : Nat))) (by kernel_rfl) (fun hb => ?_) (fun hb => ?_)
            ·
              have hlt : p < l.length := by simp at hb; omega
              refine W_skip ?_
              refine W_seq ?_
              refine W_block ?_
              refine W_seq ?_
              refine W_region ?_
              refine L_g 2 (by kernel_rfl) ?_
              refine L_nil ?_
              refine W_seq ?_
              refine W_region ?_
              refine L_g 2 (by kernel_rfl) ?_
              refine L_c rfl rfl (by kernel_rfl) (F11.state (p := p) (by show p < m6.st.length; omega)) ?_
              rintro v12 h12 ⟨e12, t12⟩
              dsimp only at e12 t12
              subst e12
              have T12 : Sm Nix h10 h12 := T11.ext t12
              have c12 := c10.ext T12
              have cA12 := cA.ext T12
              have cB12 := cB.ext T12
              obtain ⟨R, hR, row⟩ := rcb p hlt
              obtain ⟨_, cr, cR, lcr, rcr⟩ := row.sm T12 (fun x hx => hx.elim)
              obtain ⟨ud, hud, gud, _⟩ := rcr p hlt
              have hd0 : Fl.ctOf s ((p : Int), (p : Int)) = [] := hdia p
              dsimp only at gud
              rw [hd0] at gud
              refine L_g 5 (by kernel_rfl) ?_
              refine L_nil ?_
              refine W_seq ?_
              refine W_seq ?_
              refine W_region ?_
              refine L_g 4 (by kernel_rfl) ?_
              refine L_want (by kernel_rfl) ?_
              refine L_ld _ rfl rfl (by kernel_rfl) (c12.ld (o := 1) (by kernel_rfl) rfl) ?_
              refine L_g 1 (by kernel_rfl) ?_
              refine L_want (by kernel_rfl) ?_
              refine L_ix _ rfl rfl (by kernel_rfl) (by kernel_rfl) (ix_cl (b := Bb) u69 s74 hlt .i64) ?_
              refine L_want (by kernel_rfl) ?_
              refine L_ld _ rfl rfl (by kernel_rfl) (cB12.ld (o := p) (by kernel_rfl) hR) ?_
              refine L_g 2 (by kernel_rfl) ?_
              refine L_want (by kernel_rfl) ?_
              refine L_want (by kernel_rfl) ?_
              refine L_i ((l.length : Int)) ((l.length : Int)) (.bool false) rfl rfl (by kernel_rfl) (by kernel_rfl) rfl (by simp) ?_
              refine L_g 3 (by kernel_rfl) ?_
              refine L_want (by kernel_rfl) ?_
              refine L_ld _ rfl rfl (by kernel_rfl) (c12.ld (o := 1) (by kernel_rfl) rfl) ?_
              refine L_g 1 (by kernel_rfl) ?_
              refine L_want (by kernel_rfl) ?_
              refine L_ix _ rfl rfl (by kernel_rfl) (by kernel_rfl) (ix_cl (b := Bb) u69 s74 hlt .i64) ?_
              refine L_want (by kernel_rfl) ?_
              refine L_ld _ rfl rfl (by kernel_rfl) (cB12.ld (o := p) (by kernel_rfl) hR) ?_
              refine L_g 1 (by kernel_rfl) ?_
              refine L_want (by kernel_rfl) ?_
              refine L_ix _ rfl rfl (by kernel_rfl) (by kernel_rfl) (ix_cl (b := R) u74 s64 hlt .i64) ?_
              refine L_want (by kernel_rfl) ?_
              refine L_ld _ rfl rfl (by kernel_rfl) (cR.ld (o := p) (by kernel_rfl) hud) ?_
              refine L_want (by kernel_rfl) ?_
              refine L_ln _ rfl rfl (by kernel_rfl) (gud.lenV u64) ?_
              refine L_want (by kernel_rfl) ?_
              refine L_want (by kernel_rfl) ?_
              refine L_i ((([] : List Int).length : Int)) (0) (.bool false) rfl rfl (by kernel_rfl) (by kernel_rfl) rfl (by simp) ?_
              refine L_g 1 (by kernel_rfl) ?_
              refine L_nil ?_
              refine W_cond false (by kernel_rfl) (fun e => by cases e) (fun _ => ?_)
              refine W_skip ?_
              refine W_seq ?_
              refine W_region ?_
              refine L_g 2 (by kernel_rfl) ?_
              refine L_i ((Fl.wr (rsum p m6.at_))) (m6.at_ p) (.int .i64 (Fl.wr (rsum (p + 1) m6.at_))) rfl rfl (by kernel_rfl) (by kernel_rfl) rfl (wr_val _ _) ?_
              refine L_g 1 (by kernel_rfl) ?_
              refine L_nil ?_
              refine W_seq ?_
              refine W_region ?_
              refine L_g 2 (by kernel_rfl) ?_
              refine L_ld _ rfl rfl (by kernel_rfl) (c12.ld (o := 0) (by kernel_rfl) rfl) ?_
              refine L_g 1 (by kernel_rfl) ?_
              refine L_ix _ rfl rfl (by kernel_rfl) (by kernel_rfl) (ix_cl (b := A) u64 s2 hlt .i64) ?_
              refine L_ld _ rfl rfl (by kernel_rfl) (cA12.ld (o := p) (by kernel_rfl) (rca p hlt)) ?_
              refine L_i ((Fl.wr (rsum p (fun i : Nat => (kget s.st (i : Int)).getD 0) + rsum p (fun i => rsum l.length ((fun i k : Nat => (Fl.ctOf s ((i : Int), (k : Int))).sum) i))))) (((kget s.st ((p : Nat) : Int)).getD 0)) (.int .i64 (Fl.wr (rsum (p + 1) (fun i : Nat => (kget s.st (i : Int)).getD 0) + rsum p (fun i => rsum l.length ((fun i k : Nat => (Fl.ctOf s ((i : Int), (k : Int))).sum) i))))) rfl rfl (by kernel_rfl) (by kernel_rfl) rfl (by
                have := wr_val (rsum p (fun i : Nat => (kget s.st (i : Int)).getD 0) + rsum p (fun i => rsum l.length ((fun i k : Nat => (Fl.ctOf s ((i : Int), (k : Int))).sum) i))) ((kget s.st ((p : Nat) : Int)).getD 0)
                have e : (rsum p (fun i : Nat => (kget s.st (i : Int)).getD 0) + rsum p (fun i => rsum l.length ((fun i k : Nat => (Fl.ctOf s ((i : Int), (k : Int))).sum) i))) + (kget s.st ((p : Nat) : Int)).getD 0 = rsum (p + 1) (fun i : Nat => (kget s.st (i : Int)).getD 0) + rsum p (fun i => rsum l.length ((fun i k : Nat => (Fl.ctOf s ((i : Int), (k : Int))).sum) i)) := by
                  show (rsum p (fun i : Nat => (kget s.st (i : Int)).getD 0) + rsum p (fun i => rsum l.length ((fun i k : Nat => (Fl.ctOf s ((i : Int), (k : Int))).sum) i))) + (kget s.st ((p : Nat) : Int)).getD 0 = (rsum p (fun i : Nat => (kget s.st (i : Int)).getD 0) + (kget s.st ((p : Nat) : Int)).getD 0) + rsum p (fun i => rsum l.length ((fun i k : Nat => (Fl.ctOf s ((i : Int), (k : Int))).sum) i))
                  omega
                rw [← e]; exact this) ?_
              refine L_g 1 (by kernel_rfl) ?_
              refine L_nil ?_
              refine W_seq ?_
              refine W_region ?_
              refine L_g 2 (by kernel_rfl) ?_
              refine L_nil ?_
              refine W_block ?_
              refine W_loop (fun i fr hh => ∃ q, q ≤ l.length ∧ i = l.length - q ∧ fr 7 = .int .i64 l.length ∧ fr 8 = ptr f ∧ fr 10 = .int .i64 (Fl.wr l.sum) ∧ fr 22 = ptr h8.next ∧ fr 24 = .int .i64 (Fl.wr (rsum (p + 1) m6.at_)) ∧ fr 25 = .int .i64 (Fl.wr (rsum (p + 1) (fun i : Nat => (kget s.st (i : Int)).getD 0) + rsum p (fun i => rsum l.length ((fun i k : Nat => (Fl.ctOf s ((i : Int), (k : Int))).sum) i)) + rsum q ((fun i k : Nat => (Fl.ctOf s ((i : Int), (k : Int))).sum) p))) ∧ fr 167 = .int .i64 l.length ∧ fr 168 = .int .i64 p ∧ fr 26 = .int .i64 p ∧ fr 211 = .int .i64 l.length ∧ fr 212 = .int .i64 q ∧ Sm Nix h12 hh) (l.length) ?_ ?_
              ·
                refine ⟨0, Nat.zero_le _, rfl, by kernel_rfl, by kernel_rfl, by kernel_rfl, by kernel_rfl, by kernel_rfl, ?_, by kernel_rfl, by kernel_rfl, by kernel_rfl, by kernel_rfl, by kernel_rfl, .refl⟩
                show Value.int .i64 (Fl.wr (rsum (p + 1) (fun i : Nat => (kget s.st (i : Int)).getD 0) + rsum p (fun i => rsum l.length ((fun i k : Nat => (Fl.ctOf s ((i : Int), (k : Int))).sum) i)))) = Value.int .i64 (Fl.wr (rsum (p + 1) (fun i : Nat => (kget s.st (i : Int)).getD 0) + rsum p (fun i => rsum l.length ((fun i k : Nat => (Fl.ctOf s ((i : Int), (k : Int))).sum) i)) + 0))
                rw [Int.add_zero]
              rintro i13 fr13 h13 ⟨q, hq, hi13, y7, y8, y10, y22, y24, y25, y167, y168, y26, y211, y212, T13⟩
              refine W_set (k := 7) y7 ?_
              refine W_set (k := 8) y8 ?_
              refine W_set (k := 10) y10 ?_
              refine W_set (k := 22) y22 ?_
              refine W_set (k := 24) y24 ?_
              refine W_set (k := 25) y25 ?_
              refine W_set (k := 167) y167 ?_
              refine W_set (k := 168) y168 ?_
              refine W_set (k := 26) y26 ?_
              refine W_set (k := 211) y211 ?_
              refine W_set (k := 212) y212 ?_
              refine W_seq ?_
              refine W_region ?_
              refine L_g 1 (by kernel_rfl) ?_
              refine L_nil ?_
              refine W_seq ?_
              refine W_cond (decide ((q : Int) < (l.length : Nat))) (by kernel_rfl) (fun hb => ?_) (fun hb => ?_)
              ·
                have hltq : q < l.length := by simp at hb; omega
                refine W_skip ?_
                refine W_seq ?_
                refine W_block ?_
                refine W_seq ?_
                refine W_region ?_
                refine L_g 2 (by kernel_rfl) ?_
                refine L_nil ?_
                refine W_seq ?_
                refine W_region ?_
                refine L_g 1 (by kernel_rfl) ?_
                refine L_ld _ rfl rfl (by kernel_rfl) ((c12.ext T13).ld (o := 1) (by kernel_rfl) rfl) ?_
                refine L_g 1 (by kernel_rfl) ?_
                refine L_ix _ rfl rfl (by kernel_rfl) (by kernel_rfl) (ix_cl (b := Bb) u69 s74 hlt .i64) ?_
                refine L_ld _ rfl rfl (by kernel_rfl) ((cB12.ext T13).ld (o := p) (by kernel_rfl) hR) ?_
                refine L_g 1 (by kernel_rfl) ?_
                refine L_ix _ rfl rfl (by kernel_rfl) (by kernel_rfl) (ix_cl (b := R) u74 s64 hltq .i64) ?_
                obtain ⟨u, hu, gu, _⟩ := rcr q hltq
                dsimp only at gu
                obtain ⟨L, hL⟩ : ∃ L, L = Fl.ctOf s ((p : Int), (q : Int)) := ⟨_, rfl⟩
                have hLc := G6.leC s hs ((p : Int), (q : Int))
                rw [← hL] at gu hLc
                have gu := gu.ext T13
                refine L_ld _ rfl rfl (by kernel_rfl) ((cR.ext T13).ld (o := q) (by kernel_rfl) hu) ?_
                refine L_ln _ rfl rfl (by kernel_rfl) (gu.lenV u64) ?_
                refine L_g 1 (by kernel_rfl) ?_
                refine L_nil ?_
                refine W_block ?_
                refine W_loop (fun i fr hh => ∃ k, k ≤ L.length ∧ i = L.length - k ∧ fr 7 = .int .i64 l.length ∧ fr 8 = ptr f ∧ fr 10 = .int .i64 (Fl.wr l.sum) ∧ fr 22 = ptr h8.next ∧ fr 24 = .int .i64 (Fl.wr (rsum (p + 1) m6.at_)) ∧ fr 25 = .int .i64 (Fl.wr ((rsum (p + 1) (fun i : Nat => (kget s.st (i : Int)).getD 0) + rsum p (fun i => rsum l.length ((fun i k : Nat => (Fl.ctOf s ((i : Int), (k : Int))).sum) i)) + rsum q ((fun i k : Nat => (Fl.ctOf s ((i : Int), (k : Int))).sum) p)) + (L.take k).sum)) ∧ fr 167 = .int .i64 l.length ∧ fr 168 = .int .i64 p ∧ fr 26 = .int .i64 p ∧ fr 211 = .int .i64 l.length ∧ fr 212 = .int .i64 q ∧ fr 222 = u ∧ fr 223 = .int .i64 L.length ∧ fr 224 = .int .i64 k ∧ hh = h13) (L.length) ?_ ?_
                ·
                  refine ⟨0, Nat.zero_le _, rfl, by kernel_rfl, by kernel_rfl, by kernel_rfl, by kernel_rfl, by kernel_rfl, ?_, by kernel_rfl, by kernel_rfl, by kernel_rfl, by kernel_rfl, by kernel_rfl, by kernel_rfl, by kernel_rfl, by kernel_rfl, rfl⟩
                  show Value.int .i64 (Fl.wr (rsum (p + 1) (fun i : Nat => (kget s.st (i : Int)).getD 0) + rsum p (fun i => rsum l.length ((fun i k : Nat => (Fl.ctOf s ((i : Int), (k : Int))).sum) i)) + rsum q ((fun i k : Nat => (Fl.ctOf s ((i : Int), (k : Int))).sum) p))) = Value.int .i64 (Fl.wr ((rsum (p + 1) (fun i : Nat => (kget s.st (i : Int)).getD 0) + rsum p (fun i => rsum l.length ((fun i k : Nat => (Fl.ctOf s ((i : Int), (k : Int))).sum) i)) + rsum q ((fun i k : Nat => (Fl.ctOf s ((i : Int), (k : Int))).sum) p)) + 0))
                  rw [Int.add_zero]
                rintro i14 fr14 h14 ⟨k, hk, hi14, y7, y8, y10, y22, y24, y25, y167, y168, y26, y211, y212, y222, y223, y224, rfl⟩
                refine W_set (k := 7) y7 ?_
                refine W_set (k := 8) y8 ?_
                refine W_set (k := 10) y10 ?_
                refine W_set (k := 22) y22 ?_
                refine W_set (k := 24) y24 ?_
                refine W_set (k := 25) y25 ?_
                refine W_set (k := 167) y167 ?_
                refine W_set (k := 168) y168 ?_
                refine W_set (k := 26) y26 ?_
                refine W_set (k := 211) y211 ?_
                refine W_set (k := 212) y212 ?_
                refine W_set (k := 222) y222 ?_
                refine W_set (k := 223) y223 ?_
                refine W_set (k := 224) y224 ?_
                refine W_seq ?_
                refine W_region ?_
                refine L_g 1 (by kernel_rfl) ?_
                refine L_nil ?_
                refine W_seq ?_
                refine W_cond (decide ((k : Int) < (L.length : Nat))) (by kernel_rfl) (fun hb => ?_) (fun hb => ?_)
                ·
                  have hltk : k < L.length := by simp at hb; omega
                  refine W_skip ?_
                  refine W_seq ?_
                  refine W_block ?_
                  refine W_seq ?_
                  refine W_region ?_
                  obtain ⟨pa, ei, el⟩ := sElem gu.sd hltk
                  refine L_ix _ rfl rfl (by kernel_rfl) (by kernel_rfl) (ei) ?_
                  refine L_ld _ rfl rfl (by kernel_rfl) (el) ?_
                  refine L_g 1 (by kernel_rfl) ?_
                  refine L_nil ?_
                  refine W_region ?_
                  refine L_g 2 (by kernel_rfl) ?_
                  refine L_i ((Fl.wr ((rsum (p + 1) (fun i : Nat => (kget s.st (i : Int)).getD 0) + rsum p (fun i => rsum l.length ((fun i k : Nat => (Fl.ctOf s ((i : Int), (k : Int))).sum) i)) + rsum q ((fun i k : Nat => (Fl.ctOf s ((i : Int), (k : Int))).sum) p)) + (L.take k).sum))) (((L[k]?).getD 0)) (.int .i64 (Fl.wr ((rsum (p + 1) (fun i : Nat => (kget s.st (i : Int)).getD 0) + rsum p (fun i => rsum l.length ((fun i k : Nat => (Fl.ctOf s ((i : Int), (k : Int))).sum) i)) + rsum q ((fun i k : Nat => (Fl.ctOf s ((i : Int), (k : Int))).sum) p)) + (L.take (k + 1)).sum))) rfl rfl (by kernel_rfl) (by kernel_rfl) rfl (by rw [take_sum hltk, ← Int.add_assoc]; exact wr_val _ _) ?_
                  refine L_g 1 (by kernel_rfl) ?_
                  refine L_nil ?_
                  refine W_region ?_
                  refine L_i ((k : Int)) (1) (.int .i64 ((k + 1 : Nat) : Int)) rfl rfl (by kernel_rfl) (by kernel_rfl) rfl (inc_ok (by omega)) ?_
                  refine L_g 1 (by kernel_rfl) ?_
                  refine L_nil ?_
                  exact ⟨L.length - (k + 1), by omega, k + 1, by omega, rfl, by kernel_rfl, by kernel_rfl, by kernel_rfl, by kernel_rfl, by kernel_rfl, by kernel_rfl, by kernel_rfl, by kernel_rfl, by kernel_rfl, by kernel_rfl, by kernel_rfl, by kernel_rfl, by kernel_rfl, by kernel_rfl, rfl⟩
                ·
                  have hgek : ¬ k < L.length := by simp at hb; omega
                  refine W_exit ?_
                  repeat with_reducible refine then_exit ?_
                  refine exit_here ?_
                  refine W_region ?_
                  refine L_i ((q : Int)) (1) (.int .i64 ((q + 1 : Nat) : Int)) rfl rfl (by kernel_rfl) (by kernel_rfl) rfl (inc_ok (by omega)) ?_
                  refine L_g 1 (by kernel_rfl) ?_
                  refine L_nil ?_
                  have hLn : k = L.length := by omega
                  subst hLn
                  refine ⟨l.length - (q + 1), by omega, q + 1, by omega, rfl, by kernel_rfl, by kernel_rfl, by kernel_rfl, by kernel_rfl, by kernel_rfl, ?_, by kernel_rfl, by kernel_rfl, by kernel_rfl, by kernel_rfl, by kernel_rfl, T13⟩
                  show Value.int .i64 (Fl.wr (rsum (p + 1) (fun i : Nat => (kget s.st (i : Int)).getD 0) + rsum p (fun i => rsum l.length ((fun i k : Nat => (Fl.ctOf s ((i : Int), (k : Int))).sum) i)) + rsum q ((fun i k : Nat => (Fl.ctOf s ((i : Int), (k : Int))).sum) p) + (L.take L.length).sum)) = Value.int .i64 (Fl.wr (rsum (p + 1) (fun i : Nat => (kget s.st (i : Int)).getD 0) + rsum p (fun i => rsum l.length ((fun i k : Nat => (Fl.ctOf s ((i : Int), (k : Int))).sum) i)) + (rsum q ((fun i k : Nat => (Fl.ctOf s ((i : Int), (k : Int))).sum) p) + (Fl.ctOf s ((p : Int), (q : Int))).sum)))
                  rw [List.take_length, Int.add_assoc, hL]
              ·
                have hgeq : ¬ q < l.length := by simp at hb; omega
                refine W_exit ?_
                repeat with_reducible refine then_exit ?_
                refine exit_here ?_
                refine W_region ?_
                refine L_i ((p : Int)) (1) (.int .i64 ((p + 1 : Nat) : Int)) rfl rfl (by kernel_rfl) (by kernel_rfl) rfl (inc_ok (by omega)) ?_
                refine L_g 1 (by kernel_rfl) ?_
                refine L_nil ?_
                have hqn : q = l.length := by omega
                subst hqn
                refine ⟨l.length - (p + 1), by omega, p + 1, by omega, rfl, by kernel_rfl, by kernel_rfl, by kernel_rfl, by kernel_rfl, by kernel_rfl, ?_, by kernel_rfl, by kernel_rfl, T12.ext T13⟩
                show Value.int .i64 (Fl.wr (rsum (p + 1) (fun i : Nat => (kget s.st (i : Int)).getD 0) + rsum p (fun i => rsum l.length ((fun i k : Nat => (Fl.ctOf s ((i : Int), (k : Int))).sum) i)) + rsum l.length ((fun i k : Nat => (Fl.ctOf s ((i : Int), (k : Int))).sum) p))) = Value.int .i64 (Fl.wr (rsum (p + 1) (fun i : Nat => (kget s.st (i : Int)).getD 0) + (rsum p (fun i => rsum l.length ((fun i k : Nat => (Fl.ctOf s ((i : Int), (k : Int))).sum) i)) + rsum l.length ((fun i k : Nat => (Fl.ctOf s ((i : Int), (k : Int))).sum) p))))
                rw [Int.add_assoc]
            ·
              have hge : p = l.length := by simp at hb; omega
              rw [hge]
              refine W_exit ?_
              repeat with_reducible refine then_exit ?_
              refine exit_here ?_
              refine W_seq ?_
              refine W_region ?_
              refine L_g 1 (by kernel_rfl) ?_
              refine L_c rfl rfl (by kernel_rfl) ((F10.ext T11).off2 rfl) ?_
              rintro v15 h15 ⟨e15, t15⟩
              dsimp only at e15 t15
              subst e15
              refine L_g 5 (by kernel_rfl) ?_
              refine L_nil ?_
              refine W_seq ?_
              refine W_region ?_
              refine L_g 2 (by kernel_rfl) ?_
              refine L_i ((Fl.wr (rsum l.length m6.at_))) ((Fl.wr l.sum)) (.bool true) rfl rfl (by kernel_rfl) (by kernel_rfl) rfl (by rw [hnow]; simp) ?_
              refine L_g 3 (by kernel_rfl) ?_
              refine L_want (by kernel_rfl) ?_
              refine L_want (by kernel_rfl) ?_
              refine L_i ((Fl.wr (rsum l.length (fun i : Nat => (kget s.st (i : Int)).getD 0) + rsum l.length (fun i => rsum l.length ((fun i k : Nat => (Fl.ctOf s ((i : Int), (k : Int))).sum) i))))) ((Fl.wr l.sum)) (.bool true) rfl rfl (by kernel_rfl) (by kernel_rfl) rfl (by rw [show Fl.wr (rsum l.length (fun i : Nat => (kget s.st (i : Int)).getD 0) + rsum l.length (fun i => rsum l.length ((fun i k : Nat => (Fl.ctOf s ((i : Int), (k : Int))).sum) i))) = Fl.wr l.sum from hshot]; simp) ?_
              refine L_g 6 (by kernel_rfl) ?_
              refine L_want (by kernel_rfl) ?_
              refine L_c rfl rfl (by kernel_rfl) (works_ok) ?_
              rintro v16 h16 e16
              cases e16
              refine L_g 2 (by kernel_rfl) ?_
              refine L_nil ?_
              refine W_ret ?_
              repeat first | with_reducible refine then_ret ?_ | with_reducible refine blk_ret ?_
              refine done_of (v := .bool true) (.inl rfl) (by kernel_rfl) ?_
              rfl
end
end Go.Proofs.Ytdaedcoolcicoaa
