/- Worlds of the program and walks of its functions. -/
import Derived.Test.YtmehemeoaplepaaZq
import Derived.Test.YtmehemeoaplepaaZr
namespace Go.Proofs.Ytmehemeoaplepaa
noncomputable section
open Go Go.X Go.Arm Go.Mt
theorem str0 {v : Value} {i m : Nat} (h : v = .string ⟨⟨P6.want i m⟩⟩) : v = .string ⟨⟨P6.want i m ++ P6.pt 0 i⟩⟩ := by
 rw [h, show P6.want i m ++ P6.pt 0 i = P6.want i m from List.append_nil _]
theorem mul_b {h : AH} {xo yo : Operand} {a b : Nat} (hl : a * b ≤ 4096) : aBin Try.prog .mul 3 xo yo (nv (a : Int)) (nv (b : Int)) h = some (nv ((a * b : Nat) : Int)) := by
 have e : aBin Try.prog .mul 3 xo yo (nv (a : Int)) (nv (b : Int)) h = some (.int .i64 (IntKind.i64.wrap ((a : Int) * (b : Int)))) := by kernel_rfl
 rw [e, wrap_nat (Nat.lt_of_le_of_lt hl (show 4096 < big by decide))]; rfl
theorem ups_bo {gv : Nat → Bool} {i : Nat} : ups (fun q => Value.bool (gv q)) i (.bool true) = fun q => .bool (ups gv i true q) := by
 funext q
 unfold ups
 split <;> rfl
theorem conv_sb {l : By} {h : AH} : aConv Try.prog 9 23 (.string ⟨⟨l⟩⟩) h = none := by kernel_rfl
theorem want_sl {n m k : Nat} {h : AH} (hk : k < n) : aSl Try.prog 9 (.string ⟨⟨P6.want n m⟩⟩) (some (nv ((k * m : Nat) : Int))) (some (nv ((k * m + m : Nat) : Int))) none h = some (.string ⟨⟨P6.pt m k⟩⟩) := by
 rw [sl_str kr (Nat.le_add_right _ _) (P6.part_le hk), P6.want_part hk]
theorem add_pt {i j n m : Nat} {h : AH} {xo yo : Operand} (hi : i < n) (hj : j < m) (hb : n * m ≤ 4096) : aBin Try.prog .add 9 xo yo (.string ⟨⟨P6.want i m ++ P6.pt j i⟩⟩) (.string ⟨⟨[UInt8.ofNat (16 * i + j)]⟩⟩) h = some (.string ⟨⟨P6.want i m ++ P6.pt (j + 1) i⟩⟩) := by
 have h1 : i * m ≤ n * m := Nat.mul_le_mul_right m (Nat.le_of_lt hi)
 have h2 : i * m + m ≤ n * m := by rw [← Nat.succ_mul]; exact Nat.mul_le_mul_right m hi
 rw [add_str (by rw [List.length_append, P6.want_len, P6.pt_len]; show _ + 1 < _; omega), List.append_assoc, P6.pt_succ]
theorem rem_u8 {h : AH} {xo yo : Operand} {d : Nat} : aBin Try.prog .rem 5 xo yo (.int .u8 (d : Int)) (.int .u8 3) h = some (.int .u8 ((d % 3 : Nat) : Int)) := by
 have e : aBin Try.prog .rem 5 xo yo (.int .u8 (d : Int)) (.int .u8 3) h = some (.int .u8 (Int.tmod (d : Int) 3)) := by kernel_rfl
 rw [e, Int.tmod_eq_emod_of_nonneg (by omega)]
 congr 2
theorem eq_u8 {h : AH} {xo yo : Operand} {a b : Int} {c : Bool} (hc : (a == b) = c) : aBin Try.prog .eql 5 xo yo (.int .u8 a) (.int .u8 b) h = some (.bool c) := by
 have e : aBin Try.prog .eql 5 xo yo (.int .u8 a) (.int .u8 b) h = some (.bool (a == b)) := by kernel_rfl
 rw [e, hc]
set_option maxHeartbeats 4000000 in
theorem plaw_ok {h : AH} {x1 x2 : Nat} {ov : Value} {os : By} {late : Bool} (hx1 : x1 < 256) (hx2 : x2 < 256) (Ho : Sd h 1 ov os.length (os.map bv)) :
  Arm.Calls Try.prog 6 [.int .u8 (x1 : Int), .int .u8 (x2 : Int), ov, .bool late] h (fun r => r.1 = .bool true) := by
 obtain ⟨n, hn1⟩ : ∃ n, 1 + x1 % 12 = n := ⟨_, rfl⟩
 have hn : 0 < n ∧ n < 13 := by omega
 have hn0 := hn.1
 obtain ⟨m, hm9⟩ : ∃ m, x2 % 10 = m := ⟨_, rfl⟩
 have hm : m < 10 := by omega
 have hb9 : n * m ≤ 4096 := by
  have := Nat.mul_le_mul (show n ≤ 12 by omega) (show m ≤ 9 by omega)
  omega
 refine Calls_W 302 Try.f6 ?_
 have T0 : Sm Nix h h := .refl
 refine W_sg 1 kr (L_nil (W_sg 1 kr (L_p (nv (x1 : Int)) rfl (ev_conv (o := _) rfl kr (conv8 (hx1))) (L_p (nv ((x1 % 12 : Nat) : Int)) rfl (ev_bin (o := _) rfl kr kr (rem_lit (c := 12) (by decide) rfl kr)) (L_i (1) (((x1 % 12 : Nat) : Int)) (nv (n : Int)) rfl rfl kr kr rfl (add_ii (by omega) (by omega)) (L_g 1 kr (L_p (nv (x2 : Int)) rfl (ev_conv (o := _) rfl kr (conv8 (hx2))) ?_)))))))
 refine L_p (nv (m : Int)) rfl (ev_bin (o := _) rfl kr kr (rem_lit (c := 10) (by decide) hm9 kr)) (L_g 2 kr (L_nil (W_seq (W_region (L_c rfl rfl kr (new_ok (n := 2) (e := 100) (c := 3) (by omega) (by omega) (by omega) (by omega) (by omega)) ?_)))))
 rintro v503 h503 ⟨G0, e503, R503, Z503, t503⟩
 dsimp only at e503 R503 Z503 t503
 subst e503
 have O503 : Old h G0 h503 := ⟨t503.mono (fun _ x => x.elim), fun b hb => Z503 b (.inl hb)⟩
 have w503 := W4.nil R503 O503 (v0 := nv 0) (v1 := nv 0) (v2 := nv 0) (v3 := nv 0)
 obtain ⟨b1, b2, W2, W3, z0, z9, z1, z2, z3, S0⟩ := P6.born (n := n) (m := m) (by omega) ⟨by omega, hb9⟩ (W := Wd.new 2 100 3) (q := rq0) rfl
 have T503 : Sm Nix h503 h503 := .refl
 refine L_g 5 kr (L_nil (W_seq (W_seq ?_)))
 by_cases h40 : 40 < os.length
 ·
  refine W_rg 4 kr (L_want kr (L_ln _ rfl rfl kr (Sd.len (P := Try.prog) (T := 23) (el := 5) kr ((((w503).ext T503).O).sd Ho)) (L_want kr (L_i ((os.length : Int)) (40) (.bool true) rfl rfl kr kr rfl (congrArg Value.bool (decide_eq_true (by omega))) (L_g 1 kr (L_nil ?_))))))
  refine W_cond true kr (fun _ => ?_) (fun e => by cases e)
  refine W_sg 3 kr (L_want kr (L_c rfl rfl kr (works_ok) ?_))
  rintro vw hw ew
  cases ew
  refine L_g 2 kr (L_nil (W_ret ?_))
  repeat first | with_reducible refine then_ret ?_ | with_reducible refine blk_ret ?_
  refine done_of (v := .bool true) (.inl rfl) kr ?_
  exact rfl
 ·
  refine W_rg 4 kr (L_want kr (L_ln _ rfl rfl kr (Sd.len (P := Try.prog) (T := 23) (el := 5) kr ((((w503).ext T503).O).sd Ho)) (L_want kr (L_i ((os.length : Int)) (40) (.bool false) rfl rfl kr kr rfl (congrArg Value.bool (decide_eq_false (by omega))) (L_g 1 kr (L_nil ?_))))))
  refine W_cond false kr (fun e => by cases e) (fun _ => ?_)
  refine W_skip (W_sg 3 kr (L_c rfl rfl kr (parts_ok (p := 0) (q := 1) (N := n) (M := m) (ctx := 2) (tag := 7) (snd := true) (((w503).ext T503).R) (by rw [b1]; decide) (by rw [b1]; decide) (by decide) (by decide) (by decide) (by decide) (by omega) (by omega) (by omega) hb9 b2 z0 z1 z2) ?_))
  rintro v504 h504 ⟨e504, b13, S13, C13, ro13, R504, Y504⟩
  dsimp only at e504 R504 Y504
  rw [z9, z3] at e504
  subst e504
  have NB := (T503).nx
  have NY504 := Y504.sm.nx
  have w504 := ((w503).ext T503).go Y504 R504
  have T504 : Sm Nix h504 h504 := .refl
  refine L_g 5 kr (L_nil (W_seq (W_sg 2 kr (L_nil ?_))))
  refine W_cond false kr (fun e => by cases e) (fun _ => ?_)
  refine W_skip (W_sg 1 kr (L_nil ?_))
  refine W_seq_cut (fun fr hh => ∃ (s : P6.Sg) (W9 : Wd) (G9 : Gh), (P6.Sp n m P6.no0 (P6.ps late n 0) s W9) ∧ (W4 h W9 G9 (nv 0) .no (nv 0) .no (nv 0) .no (nv 0) .no hh) ∧ fr 2 = ov ∧ fr 3 = (.bool late) ∧ fr 9 = nv (n : Int) ∧ fr 10 = nv (m : Int) ∧ fr 11 = ptr (G9.B .wd) ∧ fr 13 = nv 1 ∧ fr 14 = nv (P6.rv (P6.ps late n 0))) ?_ ?_
  ·
   refine W_seq ?_
   cases late
   ·
    obtain ⟨b3, V1, V2, V3, s3, y0, y9, y1, y2, y3, S3⟩ := S0.post
    refine W_rg 2 kr (L_nil ?_)
    refine W_cond true kr (fun _ => ?_) (fun e => by cases e)
    refine W_sg 3 kr (L_c rfl rfl kr (parts_ok (p := 1) (q := 0) (N := n) (M := m) (ctx := 2) (tag := 7) (snd := false) (((w504).ext T504).R) (by rw [S0.n_]; decide) (by rw [S0.n_]; decide) (by decide) (by decide) (by decide) (by decide) (by omega) (by omega) (by omega) hb9 b3 y0 y1 (by rw [y9]; exact y2)) ?_)
    rintro v505 h505 ⟨e505, b14, S14, C14, ro14, R505, Y505⟩
    dsimp only at e505 R505 Y505
    rw [y9, y3] at e505
    subst e505
    have NB := (T504).nx
    have NY505 := Y505.sm.nx
    have w505 := ((w504).ext T504).go Y505 R505
    have T505 : Sm Nix h505 h505 := .refl
    refine L_g 5 kr (L_nil (W_sg 2 kr (L_nil ?_)))
    refine W_cond false kr (fun e => by cases e) (fun _ => ?_)
    refine W_skip ?_
    exact ⟨_, _, _, (by rw [P6.ps0]; exact S3), ((w505).ext T505), kr, kr, kr, kr, kr, kr, kr⟩
   ·
    have S3 := S0
    refine W_rg 2 kr (L_nil ?_)
    refine W_cond false kr (fun e => by cases e) (fun _ => ?_)
    refine W_skip ?_
    exact ⟨_, _, _, (by rw [P6.ps0]; exact S0), ((w504).ext T504), kr, kr, kr, kr, kr, kr, kr⟩
  ·
   rintro fr hc9 ⟨s, W9, G9, S9, w9, yc2, yc3, yc9, yc10, yc11, yc13, yc14⟩
   refine W_set (k := 2) yc2 (W_set (k := 3) yc3 (W_set (k := 9) yc9 (W_set (k := 10) yc10 (W_set (k := 11) yc11 (W_set (k := 13) yc13 (W_set (k := 14) yc14 ?_))))))
   have Tc : Sm Nix hc9 hc9 := .refl
   refine W_sg 1 kr (L_nwc (zrep n [.bool false]) (.sl n n) rfl rfl (ev_mkK (P := Try.prog) (k := 1) (el := 4) (z := .bool false) (by_ := 1) kr kr kr kr rfl (by omega) kr kr) fun h506 c506 t506 n506 => ?_)
   have T506 := Tc.ext t506
   have N506 := T506.nx
   rw [rg_const] at c506
   refine L_g 1 kr (L_nil (W_sg 1 kr (L_nil (W_seq (W_sg 2 kr (L_nil (W_block ?_)))))))
   refine W_loop (fun mm fr hh => ∃ (i : Nat) (vg : Value), mm = n - i ∧ (i ≤ n) ∧ (W4 h W9 G9 vg (.cl (rg (fun q => Value.bool (P6.no0 q)) n)) (nv 0) .no (nv 0) .no (nv 0) .no hh) ∧ fr 2 = ov ∧ fr 3 = (.bool late) ∧ fr 9 = nv (n : Int) ∧ fr 10 = nv (m : Int) ∧ fr 11 = ptr (G9.B .wd) ∧ fr 13 = nv 1 ∧ fr 14 = nv (P6.rv (P6.ps late n 0)) ∧ fr 15 = vg ∧ fr 16 = (.string ⟨⟨P6.want i m⟩⟩) ∧ fr 77 = nv (n : Int) ∧ fr 78 = nv (i : Int)) (n) ?_ ?_
   ·
    have w8 := W4.up0 (w9) (v := .slice (some ⟨hc9.next, 0, none⟩) n n) (x := (.cl (rg (fun q => Value.bool (P6.no0 q)) n))) ⟨_, by rw [rg_len], c506⟩ ((T506).mono fun _ x => (show False from x).elim) (fun b hb => .inr (by have e9 : hc9.next = b := Option.some.inj hb; omega))
    exact ⟨0, _, rfl, Nat.zero_le _, w8, kr, kr, kr, kr, kr, kr, kr, kr, kr, kr, kr⟩
   rintro mm fr hh16 ⟨i, vg, hm16, hi, w16, y162, y163, y169, y1610, y1611, y1613, y1614, y1615, y1616, y1677, y1678⟩
   refine W_set (k := 2) y162 (W_set (k := 3) y163 (W_set (k := 9) y169 (W_set (k := 10) y1610 (W_set (k := 11) y1611 (W_set (k := 13) y1613 (W_set (k := 14) y1614 (W_set (k := 15) y1615 (W_set (k := 16) y1616 (W_set (k := 77) y1677 (W_set (k := 78) y1678 ?_))))))))))
   have T16 : Sm Nix hh16 hh16 := .refl
   refine W_seq (W_region (L_i ((i : Int)) ((n : Int)) (.bool (decide ((i : Int) < (n : Int)))) rfl rfl kr kr rfl (rfl) (L_nil (W_seq ?_))))
   refine W_cond (decide ((i : Int) < (n : Int))) kr (fun hb => ?_) (fun hb => ?_)
   ·
    have hin : i < n := by simp at hb; omega
    refine W_skip (W_seq (W_block (W_sg 2 kr (L_nil (W_sg 2 kr (L_nil (W_block ?_)))))))
    refine W_loop (fun mm fr hh => ∃ (j : Nat), mm = m - j ∧ (j ≤ m) ∧ (W4 h W9 G9 vg (.cl (rg (fun q => Value.bool (P6.no0 q)) n)) (nv 0) .no (nv 0) .no (nv 0) .no hh) ∧ fr 2 = ov ∧ fr 3 = (.bool late) ∧ fr 9 = nv (n : Int) ∧ fr 10 = nv (m : Int) ∧ fr 11 = ptr (G9.B .wd) ∧ fr 13 = nv 1 ∧ fr 14 = nv (P6.rv (P6.ps late n 0)) ∧ fr 15 = vg ∧ fr 16 = (.string ⟨⟨P6.want i m ++ P6.pt j i⟩⟩) ∧ fr 17 = nv (i : Int) ∧ fr 77 = nv (n : Int) ∧ fr 78 = nv (i : Int) ∧ fr 81 = nv (m : Int) ∧ fr 82 = nv (j : Int)) (m) ?_ ?_
    ·
     exact ⟨0, rfl, Nat.zero_le _, ((w16).ext T16), kr, kr, kr, kr, kr, kr, kr, kr, (str0 kr), kr, kr, kr, kr, kr⟩
    rintro mm fr hh19 ⟨j, hm19, hj, w19, y192, y193, y199, y1910, y1911, y1913, y1914, y1915, y1916, y1917, y1977, y1978, y1981, y1982⟩
    refine W_set (k := 2) y192 (W_set (k := 3) y193 (W_set (k := 9) y199 (W_set (k := 10) y1910 (W_set (k := 11) y1911 (W_set (k := 13) y1913 (W_set (k := 14) y1914 (W_set (k := 15) y1915 (W_set (k := 16) y1916 (W_set (k := 17) y1917 (W_set (k := 77) y1977 (W_set (k := 78) y1978 ?_)))))))))))
    refine W_set (k := 81) y1981 (W_set (k := 82) y1982 ?_)
    have T19 : Sm Nix hh19 hh19 := .refl
    refine W_seq (W_region (L_i ((j : Int)) ((m : Int)) (.bool (decide ((j : Int) < (m : Int)))) rfl rfl kr kr rfl (rfl) (L_nil (W_seq ?_))))
    refine W_cond (decide ((j : Int) < (m : Int))) kr (fun hb => ?_) (fun hb => ?_)
    ·
     have hjm : j < m := by simp at hb; omega
     refine W_skip (W_seq (W_block (W_sg 2 kr (L_nil (W_rg 2 kr (L_p (nv ((16 * i : Nat) : Int)) rfl (ev_bin (o := _) rfl kr kr (mul_b (a := 16) (b := i) (by omega))) (L_g 1 kr (L_i (((16 * i : Nat) : Int)) ((j : Int)) (nv ((16 * i + j : Nat) : Int)) rfl rfl kr kr rfl (add_b rfl (by omega)) ?_))))))))
     refine L_p (.int .u8 ((16 * i + j : Nat) : Int)) rfl (ev_conv (o := _) rfl kr (convB (by omega))) (L_nwc [.int .u8 ((16 * i + j : Nat) : Int)] (.sl 1 1) rfl rfl kr fun h507 c507 t507 n507 => ?_)
     have T507 := T19.ext t507
     have N507 := T507.nx
     refine L_p (.string ⟨⟨[UInt8.ofNat (16 * i + j)]⟩⟩) rfl (ev_conv (o := _) rfl kr (str_ok (rb_one (by omega) c507))) (L_p (.string ⟨⟨P6.want i m ++ P6.pt (j + 1) i⟩⟩) rfl (ev_bin (o := _) rfl kr kr (add_pt hin hjm hb9)) (L_g 1 kr (L_nil (W_region (L_i ((j : Int)) (1) (nv ((j + 1 : Nat) : Int)) rfl rfl kr kr rfl (inc_ok (by omega)) (L_g 1 kr (L_nil ?_)))))))
     exact ⟨m - (j + 1), by omega, j + 1, rfl, by omega, ((w19).ext T507), kr, kr, kr, kr, kr, kr, kr, kr, kr, kr, kr, kr, kr, kr⟩
    ·
     have hge : j = m := by simp at hb; omega
     rw [hge, ← P6.want_succ]
     refine W_exit ?_
     repeat with_reducible refine then_exit ?_
     refine exit_here (W_region (L_i ((i : Int)) (1) (nv ((i + 1 : Nat) : Int)) rfl rfl kr kr rfl (inc_ok (by omega)) (L_g 1 kr (L_nil ?_))))
     exact ⟨n - (i + 1), by omega, i + 1, vg, rfl, by omega, ((w19).ext T19), kr, kr, kr, kr, kr, kr, kr, kr, kr, kr, kr⟩
   ·
    have hge : i = n := by simp at hb; omega
    rw [hge]
    refine W_exit ?_
    repeat with_reducible refine then_exit ?_
    refine exit_here (W_seq (W_sg 2 kr (L_nil (W_block ?_))))
    refine W_loop (fun mm fr hh => ∃ (i : Nat) (gv : Nat → Bool) (s : P6.Sg) (W25 : Wd) (G25 : Gh) (vg : Value), mm = n - i ∧ (i ≤ n) ∧ (P6.cnt n gv = i) ∧ (P6.Sp n m gv (P6.ps late n i) s W25) ∧ (W4 h W25 G25 vg (.cl (rg (fun q => Value.bool (gv q)) n)) (nv 0) .no (nv 0) .no (nv 0) .no hh) ∧ fr 2 = ov ∧ fr 3 = (.bool late) ∧ fr 9 = nv (n : Int) ∧ fr 10 = nv (m : Int) ∧ fr 11 = ptr (G25.B .wd) ∧ fr 13 = nv 1 ∧ fr 14 = nv (P6.rv (P6.ps late n i)) ∧ fr 15 = vg ∧ fr 16 = (.string ⟨⟨P6.want n m⟩⟩) ∧ fr 96 = nv (n : Int) ∧ fr 97 = nv (i : Int)) (n) ?_ ?_
    ·
     exact ⟨0, _, _, _, _, _, rfl, Nat.zero_le _, P6.cnt_no, S9, ((w16).ext T16), kr, kr, kr, kr, kr, kr, kr, kr, kr, kr, kr⟩
    rintro mm fr hh25 ⟨i, gv, s, W25, G25, vg, hm25, hi, hcnt, S25, w25, y252, y253, y259, y2510, y2511, y2513, y2514, y2515, y2516, y2596, y2597⟩
    refine W_set (k := 2) y252 (W_set (k := 3) y253 (W_set (k := 9) y259 (W_set (k := 10) y2510 (W_set (k := 11) y2511 (W_set (k := 13) y2513 (W_set (k := 14) y2514 (W_set (k := 15) y2515 (W_set (k := 16) y2516 (W_set (k := 96) y2596 (W_set (k := 97) y2597 ?_))))))))))
    have T25 : Sm Nix hh25 hh25 := .refl
    refine W_seq (W_region (L_i ((i : Int)) ((n : Int)) (.bool (decide ((i : Int) < (n : Int)))) rfl rfl kr kr rfl (rfl) (L_nil (W_seq ?_))))
    refine W_cond (decide ((i : Int) < (n : Int))) kr (fun hb => ?_) (fun hb => ?_)
    ·
     have hin : i < n := by simp at hb; omega
     refine W_skip (W_seq (W_block (W_sg 2 kr (L_nil (W_sg 2 kr (L_nil ?_))))))
     refine W_seq_cut (fun fr hh => ∃ (k : Nat), (k < n) ∧ (W4 h W25 G25 vg (.cl (rg (fun q => Value.bool (gv q)) n)) (nv 0) .no (nv 0) .no (nv 0) .no hh) ∧ fr 2 = ov ∧ fr 3 = (.bool late) ∧ fr 9 = nv (n : Int) ∧ fr 10 = nv (m : Int) ∧ fr 11 = ptr (G25.B .wd) ∧ fr 13 = nv 1 ∧ fr 14 = nv (P6.rv (P6.ps late n i)) ∧ fr 15 = vg ∧ fr 16 = (.string ⟨⟨P6.want n m⟩⟩) ∧ fr 96 = nv (n : Int) ∧ fr 97 = nv (i : Int) ∧ fr 19 = nv (i : Int) ∧ fr 20 = nv (k : Int)) ?_ ?_
     ·
      refine W_seq ?_
      rcases Nat.eq_zero_or_pos os.length with h0 | h0
      ·
        refine W_rg 1 kr (L_ln _ rfl rfl kr (Sd.len (P := Try.prog) (T := 23) (el := 5) kr ((((w25).ext T25).O).sd Ho)) (L_i ((os.length : Int)) (0) (.bool false) rfl rfl kr kr rfl (congrArg Value.bool (decide_eq_false (by omega))) (L_nil ?_)))
        refine W_cond false kr (fun e => by cases e) (fun _ => ?_)
        refine W_skip ?_
        exact ⟨_, (by first | exact hkd | exact hin), ((w25).ext T25), kr, kr, kr, kr, kr, kr, kr, kr, kr, kr, kr, kr, kr⟩
      ·
        have hx9 : i % os.length < os.length := Nat.mod_lt _ (by omega)
        obtain ⟨b8, o8, i8, l8⟩ := el_by (((w25).ext T25).O.sd Ho) hx9
        have hd9 : (os[i % os.length]).toNat < 256 := UInt8.toNat_lt _
        generalize (os[i % os.length]).toNat = d at l8 hd9
        have hkd : (i + d) % n < n := Nat.mod_lt _ hn0
        refine W_rg 1 kr (L_ln _ rfl rfl kr (Sd.len (P := Try.prog) (T := 23) (el := 5) kr ((((w25).ext T25).O).sd Ho)) (L_i ((os.length : Int)) (0) (.bool true) rfl rfl kr kr rfl (congrArg Value.bool (decide_eq_true (by omega))) (L_nil ?_)))
        refine W_cond true kr (fun _ => ?_) (fun e => by cases e)
        refine W_rg 4 kr (L_ln _ rfl rfl kr (Sd.len (P := Try.prog) (T := 23) (el := 5) kr ((((w25).ext T25).O).sd Ho)) (L_p (nv ((i % os.length : Nat) : Int)) rfl (ev_bin (o := _) rfl kr kr (rem_d (by omega))) (L_ix _ rfl rfl kr kr (i8) (L_ld _ rfl rfl kr (l8) (L_p (nv (d : Int)) rfl (ev_conv (o := _) rfl kr (conv8 (hd9))) (L_i ((i : Int)) ((d : Int)) (nv ((i + d : Nat) : Int)) rfl rfl kr kr rfl (add_b rfl (by omega)) (L_g 1 kr (L_p (nv (((i + d) % n : Nat) : Int)) rfl (ev_bin (o := _) rfl kr kr (rem_d (hn0))) (L_g 1 kr (L_nil ?_))))))))))
        exact ⟨_, (by first | exact hkd | exact hin), ((w25).ext T25), kr, kr, kr, kr, kr, kr, kr, kr, kr, kr, kr, kr, kr⟩
     ·
      rintro fr hc28 ⟨k, hk, w28, yc2, yc3, yc9, yc10, yc11, yc13, yc14, yc15, yc16, yc96, yc97, yc19, yc20⟩
      refine W_set (k := 2) yc2 (W_set (k := 3) yc3 (W_set (k := 9) yc9 (W_set (k := 10) yc10 (W_set (k := 11) yc11 (W_set (k := 13) yc13 (W_set (k := 14) yc14 (W_set (k := 15) yc15 (W_set (k := 16) yc16 (W_set (k := 96) yc96 (W_set (k := 97) yc97 (W_set (k := 19) yc19 ?_)))))))))))
      refine W_set (k := 20) yc20 ?_
      have Tc : Sm Nix hc28 hc28 := .refl
      obtain ⟨d0, hd0⟩ := P6.free (gv := gv) (by omega) hk
      refine W_seq (W_block ?_)
      refine W_loop (fun mm fr hh => ∃ (k : Nat) (d : Nat), mm = d ∧ (k < n) ∧ (gv ((k + d) % n) = false) ∧ (W4 h W25 G25 vg (.cl (rg (fun q => Value.bool (gv q)) n)) (nv 0) .no (nv 0) .no (nv 0) .no hh) ∧ fr 2 = ov ∧ fr 3 = (.bool late) ∧ fr 9 = nv (n : Int) ∧ fr 10 = nv (m : Int) ∧ fr 11 = ptr (G25.B .wd) ∧ fr 13 = nv 1 ∧ fr 14 = nv (P6.rv (P6.ps late n i)) ∧ fr 15 = vg ∧ fr 16 = (.string ⟨⟨P6.want n m⟩⟩) ∧ fr 96 = nv (n : Int) ∧ fr 97 = nv (i : Int) ∧ fr 19 = nv (i : Int) ∧ fr 20 = nv (k : Int)) (d0) ?_ ?_
      ·
        exact ⟨k, d0, rfl, hk, hd0, ((w28).ext Tc), kr, kr, kr, kr, kr, kr, kr, kr, kr, kr, kr, kr, kr⟩
      rintro mm fr hh30 ⟨k, d, hm30, hk, hd, w30, y302, y303, y309, y3010, y3011, y3013, y3014, y3015, y3016, y3096, y3097, y3019, y3020⟩
      refine W_set (k := 2) y302 (W_set (k := 3) y303 (W_set (k := 9) y309 (W_set (k := 10) y3010 (W_set (k := 11) y3011 (W_set (k := 13) y3013 (W_set (k := 14) y3014 (W_set (k := 15) y3015 (W_set (k := 16) y3016 (W_set (k := 96) y3096 (W_set (k := 97) y3097 (W_set (k := 19) y3019 ?_)))))))))))
      refine W_set (k := 20) y3020 ?_
      have T30 : Sm Nix hh30 hh30 := .refl
      refine W_seq (W_seq (W_region (L_g 2 kr ?_)))
      obtain ⟨bwG, ewG, lwG, iwG, vxG⟩ := AtX.row (T := 40) (el := 4) (i := k) kr kr kr (W4.a0 ((w30).ext T30)) hk
      have vwG : aLoad Try.prog 4 ⟨bwG, k, none⟩ hh30 = some (.bool (gv k)) := vxG
      refine L_ix _ rfl rfl kr kr (iwG) (L_ld _ rfl rfl kr (vwG) (L_nil ?_))
      refine W_cond (gv k) kr (fun hb => ?_) (fun hb => ?_)
      ·
        have hd1 : 0 < d := by
         rcases Nat.eq_zero_or_pos d with e | e
         · subst e
           rw [Nat.add_zero, Nat.mod_eq_of_lt hk] at hd
           rw [hd] at hb; cases hb
         · exact e
        have hd2 : gv (((k + 1) % n + (d - 1)) % n) = false := by
         rw [Nat.mod_add_mod, show k + 1 + (d - 1) = k + d by omega]; exact hd
        refine W_skip (W_block (W_rg 1 kr (L_i ((k : Int)) (1) (nv ((k + 1 : Nat) : Int)) rfl rfl kr kr rfl (inc_ok (by omega)) (L_g 1 kr (L_p (nv (((k + 1) % n : Nat) : Int)) rfl (ev_bin (o := _) rfl kr kr (rem_d (hn0))) (L_g 1 kr (L_nil ?_)))))))
        exact ⟨d - 1, by omega, (k + 1) % n, d - 1, rfl, Nat.mod_lt _ hn0, hd2, ((w30).ext T30), kr, kr, kr, kr, kr, kr, kr, kr, kr, kr, kr, kr, kr⟩
      ·
        have hgk : gv k = false := hb
        obtain ⟨V1, V2, s2, y0, y1, y2, S2⟩ := S25.ready hk hgk
        obtain ⟨f1, f2, f3, f4, f5, f6, f7⟩ := S25.snd
        obtain ⟨g1, g2, g3, g4, g5, g6, g7⟩ := S2.snd
        refine W_exit ?_
        repeat with_reducible refine then_exit ?_
        refine exit_here (W_seq (W_region (L_g 2 kr ?_)))
        obtain ⟨bwG, ewG, lwG, iwG, vxG⟩ := AtX.row (T := 40) (el := 4) (i := k) kr kr kr (W4.a0 ((w30).ext T30)) hk
        have vwG : aLoad Try.prog 4 ⟨bwG, k, none⟩ hh30 = some (.bool (gv k)) := vxG
        refine L_ix _ rfl rfl kr kr (iwG) ?_
        obtain ⟨h508, e508, A508, t508, n508⟩ := AtX.put (el := 4) (x := .bool true) kr rfl rfl (W4.a0 ((w30).ext T30)) hk bwG ewG
        rw [ups_bo] at A508
        refine L_st _ rfl rfl rfl kr kr (e508) ?_
        have w508 := W4.up0 ((w30).ext T30) A508 (t508.mono fun c hc => ⟨(fun e => by cases e), by rw [ewG, hc]; rfl⟩) (fun b hb => .inl ⟨(fun e => by cases e), hb⟩)
        have T508 : Sm Nix h508 h508 := .refl
        refine L_nil (W_seq (W_sg 6 kr (L_p (nv ((k * m : Nat) : Int)) rfl (ev_bin (o := _) rfl kr kr (mul_b (a := k) (b := m) (by have := P6.part_le (n := n) (m := m) (k := k) hk; rw [P6.want_len] at this; omega))) (L_g 2 kr (L_p (nv ((k * m : Nat) : Int)) rfl (ev_bin (o := _) rfl kr kr (mul_b (a := k) (b := m) (by have := P6.part_le (n := n) (m := m) (k := k) hk; rw [P6.want_len] at this; omega))) (L_g 1 kr (L_i (((k * m : Nat) : Int)) ((m : Int)) (nv ((k * m + m : Nat) : Int)) rfl rfl kr kr rfl (add_b rfl (by have := P6.part_le (n := n) (m := m) (k := k) hk; rw [P6.want_len] at this; omega)) (L_sl _ rfl rfl kr kr kr kr ((want_sl (n := n) (m := m) hk)) ?_))))))))
        have nm509 := (((w508).ext T508).R).op.new (Nat.le_refl _)
        obtain ⟨v509, h509, e509, r509, t509, n509, b509⟩ := s2b_ok (P := Try.prog) (ds := .string) (s := 9) (d := 23) (e := 5) (h := h508) kr kr kr (P6.pt m k)
        refine L_sb v509 h509 rfl rfl kr conv_sb e509 ?_
        have T509 := T508.ext t509
        have N509 := T509.nx
        refine L_c rfl rfl kr (ready_ok (p := 0) (no := 1) (i := k) (d := P6.pt m k) (((w508).ext T509).R) (by rw [S25.n_]; decide) f1 f2 (by rw [f3]; exact hk) (by rw [f7 k hk, hgk]; rfl) (by rw [f4]; exact P6.pt_len m k) (by rw [P6.pt_len]; show m < 1000000000; omega) r509 (fun b hb => by rw [b509 b hb]; exact nm509) y0 y1 y2) ?_
        rintro v510 h510 ⟨e510, S510, C510, ro510, R510, Y510⟩
        dsimp only at e510 R510 Y510
        subst e510
        have NB := (T509).nx
        have NY510 := Y510.sm.nx
        have w510 := ((w508).ext T509).go Y510 R510
        have T510 : Sm Nix h510 h510 := .refl
        refine L_g 8 kr (L_want kr (L_p (nv ((k * m : Nat) : Int)) rfl (ev_bin (o := _) rfl kr kr (mul_b (a := k) (b := m) (by have := P6.part_le (n := n) (m := m) (k := k) hk; rw [P6.want_len] at this; omega))) (L_g 2 kr (L_want kr (L_p (nv ((k * m : Nat) : Int)) rfl (ev_bin (o := _) rfl kr kr (mul_b (a := k) (b := m) (by have := P6.part_le (n := n) (m := m) (k := k) hk; rw [P6.want_len] at this; omega))) (L_g 1 kr (L_want kr (L_i (((k * m : Nat) : Int)) ((m : Int)) (nv ((k * m + m : Nat) : Int)) rfl rfl kr kr rfl (add_b rfl (by have := P6.part_le (n := n) (m := m) (k := k) hk; rw [P6.want_len] at this; omega)) (L_want kr (L_sl _ rfl rfl kr kr kr kr ((want_sl (n := n) (m := m) hk)) ?_))))))))))
        have nm511 := (((w510).ext T510).R).op.new (Nat.le_refl _)
        obtain ⟨v511, h511, e511, r511, t511, n511, b511⟩ := s2b_ok (P := Try.prog) (ds := .string) (s := 9) (d := 23) (e := 5) (h := h510) kr kr kr (P6.pt m k)
        refine L_want kr (L_sb v511 h511 rfl rfl kr conv_sb e511 ?_)
        have T511 := T510.ext t511
        have N511 := T511.nx
        refine L_want kr (L_c rfl rfl kr (ready_have (p := 0) (no := 1) (i := k) (d0 := P6.pt m k) (s := v511) (((w510).ext T511).R) (by rw [S2.n_]; decide) g1 g2 (by rw [g3]; exact hk) (by rw [g7 k hk, ups_at]; rfl)) ?_)
        rintro v512 h512 ⟨e512, t512⟩
        try dsimp only at e512
        try dsimp only at t512
        subst e512
        have T512 := T511.ext t512
        have N512 := T512.nx
        have M512 := t512.nx
        refine L_g 2 kr (L_nil ?_)
        refine W_cond false kr (fun e => by cases e) (fun _ => ?_)
        refine W_skip ?_
        refine W_seq_cut (fun fr hh => ∃ (s : P6.Sg) (W35 : Wd) (G35 : Gh), (P6.Sp n m (ups gv k true) (P6.ps late n (i + 1)) s W35) ∧ (W4 h W35 G35 vg (.cl (rg (fun q => Value.bool ((ups gv k true) q)) n)) (nv 0) .no (nv 0) .no (nv 0) .no hh) ∧ fr 2 = ov ∧ fr 3 = (.bool late) ∧ fr 9 = nv (n : Int) ∧ fr 10 = nv (m : Int) ∧ fr 11 = ptr (G35.B .wd) ∧ fr 13 = nv 1 ∧ fr 14 = nv (P6.rv (P6.ps late n (i + 1))) ∧ fr 15 = vg ∧ fr 16 = (.string ⟨⟨P6.want n m⟩⟩) ∧ fr 96 = nv (n : Int) ∧ fr 97 = nv (i : Int) ∧ fr 19 = nv (i : Int)) ?_ ?_
        ·
         refine W_seq ?_
         by_cases hi2 : i = n / 2
         ·
           refine W_rg 2 kr (L_p (nv ((n / 2 : Nat) : Int)) rfl (ev_bin (o := _) rfl kr kr (quo_lit (c := 2) (show n < 256 by omega) (by decide) rfl kr)) (L_i ((i : Int)) (((n / 2 : Nat) : Int)) (.bool true) rfl rfl kr kr rfl (eql_nat.trans (congrArg Value.bool (decide_eq_true hi2))) (L_g 3 kr (L_nil ?_))))
           refine W_cond (late) kr (fun hb => ?_) (fun hb => ?_)
           ·
            have hlt9 : late = true := hb
            have hpf : P6.ps late n i = false := by rw [hlt9]; exact P6.ps_late hi2
            have hpt : P6.ps late n (i + 1) = true := P6.ps_half hi2
            rw [hpf] at S2
            obtain ⟨b3, V3, V4, V5, s5, u0, u9, u1, u2, u3, S5⟩ := S2.post
            refine W_sg 3 kr (L_c rfl rfl kr (parts_ok (p := 1) (q := 0) (N := n) (M := m) (ctx := 2) (tag := 7) (snd := false) (((w510).ext T512).R) (by rw [S2.n_]; decide) (by rw [S2.n_]; decide) (by decide) (by decide) (by decide) (by decide) (by omega) (by omega) (by omega) hb9 b3 u0 u1 (by rw [u9]; exact u2)) ?_)
            rintro v513 h513 ⟨e513, b36, S36, C36, ro36, R513, Y513⟩
            dsimp only at e513 R513 Y513
            rw [u9, u3] at e513
            rw [show nk 1 = nv (P6.rv (P6.ps late n (i + 1))) by rw [hpt]; rfl] at e513
            subst e513
            have NB := (T512).nx
            have NY513 := Y513.sm.nx
            have w513 := ((w510).ext T512).go Y513 R513
            have T513 : Sm Nix h513 h513 := .refl
            refine L_g 5 kr (L_nil (W_sg 2 kr (L_nil ?_)))
            refine W_cond false kr (fun e => by cases e) (fun _ => ?_)
            refine W_skip ?_
            exact ⟨_, _, _, (by rw [hpt]; exact S5), ((w513).ext T513), kr, kr, kr, kr, kr, kr, kr, kr, kr, kr, kr, kr⟩
           ·
            have hlt9 : late = false := hb
            have hpe : P6.ps late n i = P6.ps late n (i + 1) := by rw [hlt9]; rfl
            rw [hpe] at S2 ⊢
            refine W_skip ?_
            exact ⟨_, _, _, S2, ((w510).ext T512), kr, kr, kr, kr, kr, kr, kr, kr, kr, kr, kr, kr⟩
         ·
           have hpe : P6.ps late n i = P6.ps late n (i + 1) := P6.ps_ne hi2
           rw [hpe] at S2 ⊢
           refine W_rg 2 kr (L_p (nv ((n / 2 : Nat) : Int)) rfl (ev_bin (o := _) rfl kr kr (quo_lit (c := 2) (show n < 256 by omega) (by decide) rfl kr)) (L_i ((i : Int)) (((n / 2 : Nat) : Int)) (.bool false) rfl rfl kr kr rfl (eql_nat.trans (congrArg Value.bool (decide_eq_false hi2))) (L_g 3 kr (L_nil ?_))))
           refine W_cond false kr (fun e => by cases e) (fun _ => ?_)
           refine W_skip ?_
           exact ⟨_, _, _, S2, ((w510).ext T512), kr, kr, kr, kr, kr, kr, kr, kr, kr, kr, kr, kr⟩
        ·
         rintro fr hc35 ⟨s, W35, G35, S35, w35, yc2, yc3, yc9, yc10, yc11, yc13, yc14, yc15, yc16, yc96, yc97, yc19⟩
         refine W_set (k := 2) yc2 (W_set (k := 3) yc3 (W_set (k := 9) yc9 (W_set (k := 10) yc10 (W_set (k := 11) yc11 (W_set (k := 13) yc13 (W_set (k := 14) yc14 (W_set (k := 15) yc15 (W_set (k := 16) yc16 (W_set (k := 96) yc96 (W_set (k := 97) yc97 (W_set (k := 19) yc19 ?_)))))))))))
         have Tc : Sm Nix hc35 hc35 := .refl
         refine W_seq_cut (fun fr hh => ∃ (s : P6.Sg) (W39 : Wd) (G39 : Gh), (P6.Sp n m (ups gv k true) (P6.ps late n (i + 1)) s W39) ∧ (W4 h W39 G39 vg (.cl (rg (fun q => Value.bool ((ups gv k true) q)) n)) (nv 0) .no (nv 0) .no (nv 0) .no hh) ∧ fr 2 = ov ∧ fr 3 = (.bool late) ∧ fr 9 = nv (n : Int) ∧ fr 10 = nv (m : Int) ∧ fr 11 = ptr (G39.B .wd) ∧ fr 13 = nv 1 ∧ fr 14 = nv (P6.rv (P6.ps late n (i + 1))) ∧ fr 15 = vg ∧ fr 16 = (.string ⟨⟨P6.want n m⟩⟩) ∧ fr 96 = nv (n : Int) ∧ fr 97 = nv (i : Int) ∧ fr 19 = nv (i : Int)) ?_ ?_
         ·
           refine W_seq ?_
           obtain ⟨d, hd9, hx9⟩ : ∃ d : Nat, d < 256 ∧ (os.length = 0 ∨ (0 < os.length ∧ (∀ h9, Old h G35 h9 → ∃ b8 o8, aIndex Try.prog 23 ov (nv ((i % os.length : Nat) : Int)) = some (.pointer (some ⟨b8, o8, none⟩)) ∧ aLoad Try.prog 5 ⟨b8, o8, none⟩ h9 = some (.int .u8 (d : Int))))) := by
            rcases Nat.eq_zero_or_pos os.length with h0 | h0
            · exact ⟨0, by decide, .inl h0⟩
            · have hx9 : i % os.length < os.length := Nat.mod_lt _ (by omega)
              exact ⟨(os[i % os.length]).toNat, UInt8.toNat_lt _, .inr ⟨h0, fun h9 O9 => el_by (O9.sd Ho) hx9⟩⟩
           rcases (show os.length = 0 ∨ (0 < os.length ∧ d % 3 = 0) ∨ (0 < os.length ∧ d % 3 ≠ 0) by omega) with h0 | ⟨h0, h3⟩ | ⟨h0, h3⟩
           ·
            refine W_rg 1 kr (L_ln _ rfl rfl kr (Sd.len (P := Try.prog) (T := 23) (el := 5) kr ((((w35).ext Tc).O).sd Ho)) (L_i ((os.length : Int)) (0) (.bool false) rfl rfl kr kr rfl (congrArg Value.bool (decide_eq_false (by omega))) (L_g 16 kr (L_nil ?_))))
            refine W_cond false kr (fun e => by cases e) (fun _ => ?_)
            refine W_skip ?_
            exact ⟨_, _, _, S35, ((w35).ext Tc), kr, kr, kr, kr, kr, kr, kr, kr, kr, kr, kr, kr⟩
           ·
            obtain ⟨b8, o8, i8, l8⟩ := (hx9.resolve_left (by omega)).2 _ ((w35).ext Tc).O
            obtain ⟨k9, W8, hk9, hs9, hr9⟩ := (S35).settle
            obtain ⟨s8, S8⟩ := hr9.sp
            refine W_rg 1 kr (L_ln _ rfl rfl kr (Sd.len (P := Try.prog) (T := 23) (el := 5) kr ((((w35).ext Tc).O).sd Ho)) (L_i ((os.length : Int)) (0) (.bool true) rfl rfl kr kr rfl (congrArg Value.bool (decide_eq_true (by omega))) (L_g 4 kr (L_want kr (L_ln _ rfl rfl kr (Sd.len (P := Try.prog) (T := 23) (el := 5) kr ((((w35).ext Tc).O).sd Ho)) (L_want kr (L_p (nv ((i % os.length : Nat) : Int)) rfl (ev_bin (o := _) rfl kr kr (rem_d (by omega))) (L_want kr (L_ix _ rfl rfl kr kr (i8) (L_want kr ?_))))))))))
            refine L_ld _ rfl rfl kr (l8) (L_want kr (L_p (.int .u8 ((d % 3 : Nat) : Int)) rfl (ev_bin (o := _) rfl kr kr rem_u8) (L_want kr (L_p (.bool true) rfl (ev_bin (o := _) rfl kr kr (eq_u8 (a := ((d % 3 : Nat) : Int)) (b := 0) (c := true) (by rw [h3]; rfl))) (L_g 3 kr (L_want kr (L_c rfl rfl kr (settle_n (n := 2) (((w35).ext Tc).R) S35.n_ (by decide) hk9 hs9) ?_)))))))
            rintro v514 h514 ⟨e514, S514, C514, ro514, R514, Y514⟩
            dsimp only at e514 R514 Y514
            subst e514
            have NB := (Tc).nx
            have NY514 := Y514.sm.nx
            have w514 := ((w35).ext Tc).go Y514 R514
            have T514 : Sm Nix h514 h514 := .refl
            refine L_g 2 kr (L_nil ?_)
            refine W_cond false kr (fun e => by cases e) (fun _ => ?_)
            refine W_skip ?_
            exact ⟨_, _, _, S8, ((w514).ext T514), kr, kr, kr, kr, kr, kr, kr, kr, kr, kr, kr, kr⟩
           ·
            obtain ⟨b8, o8, i8, l8⟩ := (hx9.resolve_left (by omega)).2 _ ((w35).ext Tc).O
            refine W_rg 1 kr (L_ln _ rfl rfl kr (Sd.len (P := Try.prog) (T := 23) (el := 5) kr ((((w35).ext Tc).O).sd Ho)) (L_i ((os.length : Int)) (0) (.bool true) rfl rfl kr kr rfl (congrArg Value.bool (decide_eq_true (by omega))) (L_g 4 kr (L_want kr (L_ln _ rfl rfl kr (Sd.len (P := Try.prog) (T := 23) (el := 5) kr ((((w35).ext Tc).O).sd Ho)) (L_want kr (L_p (nv ((i % os.length : Nat) : Int)) rfl (ev_bin (o := _) rfl kr kr (rem_d (by omega))) (L_want kr (L_ix _ rfl rfl kr kr (i8) (L_want kr ?_))))))))))
            refine L_ld _ rfl rfl kr (l8) (L_want kr (L_p (.int .u8 ((d % 3 : Nat) : Int)) rfl (ev_bin (o := _) rfl kr kr rem_u8) (L_want kr (L_p (.bool false) rfl (ev_bin (o := _) rfl kr kr (eq_u8 (a := ((d % 3 : Nat) : Int)) (b := 0) (c := false) (by rw [beq_eq_false_iff_ne]; omega))) (L_g 6 kr (L_nil ?_))))))
            refine W_cond false kr (fun e => by cases e) (fun _ => ?_)
            refine W_skip ?_
            exact ⟨_, _, _, S35, ((w35).ext Tc), kr, kr, kr, kr, kr, kr, kr, kr, kr, kr, kr, kr⟩
         ·
           rintro fr hc39 ⟨s, W39, G39, S39, w39, yc2, yc3, yc9, yc10, yc11, yc13, yc14, yc15, yc16, yc96, yc97, yc19⟩
           refine W_set (k := 2) yc2 (W_set (k := 3) yc3 (W_set (k := 9) yc9 (W_set (k := 10) yc10 (W_set (k := 11) yc11 (W_set (k := 13) yc13 (W_set (k := 14) yc14 (W_set (k := 15) yc15 (W_set (k := 16) yc16 (W_set (k := 96) yc96 (W_set (k := 97) yc97 (W_set (k := 19) yc19 ?_)))))))))))
           have Tc : Sm Nix hc39 hc39 := .refl
           refine W_seq (W_sg 1 kr (L_i (P6.rv (P6.ps late n (i + 1))) (0) (.bool (!P6.ps late n (i + 1))) rfl rfl kr kr rfl (P6.rv_eq _) (L_nil ?_)))
           refine W_cond ((!P6.ps late n (i + 1))) kr (fun hb => ?_) (fun hb => ?_)
           ·
            refine W_exit ?_
            repeat with_reducible refine then_exit ?_
            refine exit_here (W_region (L_i ((i : Int)) (1) (nv ((i + 1 : Nat) : Int)) rfl rfl kr kr rfl (inc_ok (by omega)) (L_g 1 kr (L_nil ?_))))
            exact ⟨n - (i + 1), by omega, i + 1, _, _, _, _, vg, rfl, by omega, (by rw [P6.cnt_ups hk hgk, hcnt]), S39, ((w39).ext Tc), kr, kr, kr, kr, kr, kr, kr, kr, kr, kr, kr⟩
           ·
            have hp1 : P6.ps late n (i + 1) = true := by simpa using hb
            rw [hp1] at S39 ⊢
            refine W_skip (W_sg 2 kr (L_nil (W_block ?_)))
            refine W_loop (fun mm fr hh => ∃ (j : Nat) (s : P6.Sg) (W43 : Wd) (G43 : Gh), mm = n - j ∧ (j ≤ n) ∧ (P6.Sp n m (ups gv k true) true s W43) ∧ (W4 h W43 G43 vg (.cl (rg (fun q => Value.bool ((ups gv k true) q)) n)) (nv 0) .no (nv 0) .no (nv 0) .no hh) ∧ fr 2 = ov ∧ fr 3 = (.bool late) ∧ fr 9 = nv (n : Int) ∧ fr 10 = nv (m : Int) ∧ fr 11 = ptr (G43.B .wd) ∧ fr 13 = nv 1 ∧ fr 14 = nv (P6.rv true) ∧ fr 15 = vg ∧ fr 16 = (.string ⟨⟨P6.want n m⟩⟩) ∧ fr 96 = nv (n : Int) ∧ fr 97 = nv (i : Int) ∧ fr 198 = nv (n : Int) ∧ fr 199 = nv (j : Int)) (n) ?_ ?_
            ·
              exact ⟨0, _, _, _, rfl, Nat.zero_le _, S39, ((w39).ext Tc), kr, kr, kr, kr, kr, kr, kr, kr, kr, kr, kr, kr, kr⟩
            rintro mm fr hh43 ⟨j, s, W43, G43, hm43, hj, S43, w43, y432, y433, y439, y4310, y4311, y4313, y4314, y4315, y4316, y4396, y4397, y43198, y43199⟩
            refine W_set (k := 2) y432 (W_set (k := 3) y433 (W_set (k := 9) y439 (W_set (k := 10) y4310 (W_set (k := 11) y4311 (W_set (k := 13) y4313 (W_set (k := 14) y4314 (W_set (k := 15) y4315 (W_set (k := 16) y4316 (W_set (k := 96) y4396 (W_set (k := 97) y4397 (W_set (k := 198) y43198 ?_)))))))))))
            refine W_set (k := 199) y43199 ?_
            have T43 : Sm Nix hh43 hh43 := .refl
            refine W_seq (W_region (L_i ((j : Int)) ((n : Int)) (.bool (decide ((j : Int) < (n : Int)))) rfl rfl kr kr rfl (rfl) (L_nil (W_seq ?_))))
            refine W_cond (decide ((j : Int) < (n : Int))) kr (fun hb => ?_) (fun hb => ?_)
            ·
              have hjn : j < n := by simp at hb; omega
              obtain ⟨q1, q2, q3, -⟩ := (S43).rcv
              obtain ⟨W1, zc, S1⟩ := (S43).call1
              have q4 := S1.rcv.2.2.2 j hjn
              refine W_skip (W_seq (W_block (W_sg 2 kr (L_nil (W_seq ?_)))))
              rcases (show (P6.Sg.c1 true s).ar j = true ∨ (P6.Sg.c1 true s).ar j = false by cases (P6.Sg.c1 true s).ar j <;> simp) with har | har
              ·
               rw [har, if_pos rfl] at q4
               have hgj := S1.ar_gv hjn har
               refine W_rg 3 kr (L_c rfl rfl kr (arr_some (p := 1) (no := 1) (i := j) (((w43).ext T43).R) (by rw [(S43).n_]; decide) q1 q2 (by rw [q3]; exact hjn) zc q4 (by rw [P6.pt_len]; show m < 1000000000; omega)) ?_)
               rintro v515 h515 ⟨vx515, e515, r515, f515, S515, C515, ro515, R515, Y515⟩
               dsimp only at e515 R515 Y515
               subst e515
               have NB := (T43).nx
               have NY515 := Y515.sm.nx
               have w515 := ((w43).ext T43).go Y515 R515
               have T515 : Sm Nix h515 h515 := .refl
               refine L_g 7 kr (L_nil (W_seq (W_drawn kr (D_l (l := [0,1,2,3,4,5,6,7,8,9,10,11,12,13,14,15,16,17,18,19,20,21,22,23,24,25,26]) kr kr Rk_nil (NS_b 7 kr ?_)))))
               obtain ⟨bwH, ewH, lwH, iwH, vxH⟩ := AtX.row (T := 40) (el := 4) (i := j) kr kr kr (W4.a0 ((w515).ext T515)) hjn
               have vwH : aLoad Try.prog 4 ⟨bwH, j, none⟩ h515 = some (.bool ((ups gv k true) j)) := vxH
               rw [hgj] at vwH
               refine NS_ix _ rfl rfl kr kr kr kr (iwH) (NS_ld _ rfl rfl kr kr kr (vwH) (NS_b 3 kr (NS_v (.string ⟨⟨P6.pt m j⟩⟩) rfl kr rfl kr (ev_conv (o := _) rfl kr (str_ok (r515.ext T515))) (NS_b 3 kr (NS_v (nv ((j * m : Nat) : Int)) rfl kr rfl kr (ev_bin (o := _) rfl kr kr (mul_b (a := j) (b := m) (by have := P6.part_le (n := n) (m := m) (k := j) hjn; rw [P6.want_len] at this; omega))) (NS_b 2 kr (NS_v (nv ((j * m : Nat) : Int)) rfl kr rfl kr (ev_bin (o := _) rfl kr kr (mul_b (a := j) (b := m) (by have := P6.part_le (n := n) (m := m) (k := j) hjn; rw [P6.want_len] at this; omega))) (NS_b 1 kr (NS_i (((j * m : Nat) : Int)) ((m : Int)) (nv ((j * m + m : Nat) : Int)) rfl rfl kr kr kr kr rfl (add_b rfl (by have := P6.part_le (n := n) (m := m) (k := j) hjn; rw [P6.want_len] at this; omega)) (NS_sl _ rfl rfl kr kr kr kr kr kr ((want_sl (n := n) (m := m) hjn)) (NS_v (.bool false) rfl kr rfl kr (ev_bin (o := _) rfl kr kr (neq_str (P6.pt m j))) ?_)))))))))))
               refine NS_b 3 kr (NS_nil ?_)
               refine W_cond false kr (fun e => by cases e) (fun _ => ?_)
               refine W_skip (W_region (L_i ((j : Int)) (1) (nv ((j + 1 : Nat) : Int)) rfl rfl kr kr rfl (inc_ok (by omega)) (L_g 1 kr (L_nil ?_))))
               exact ⟨n - (j + 1), by omega, j + 1, _, _, _, rfl, by omega, S1, ((w515).ext T515), kr, kr, kr, kr, kr, kr, kr, kr, kr, kr, kr, kr, kr⟩
              ·
               rw [har, if_neg (by decide)] at q4
               refine W_rg 3 kr (L_c rfl rfl kr (arr_none (p := 1) (no := 1) (i := j) (((w43).ext T43).R) (by rw [(S43).n_]; decide) q1 q2 (by rw [q3]; exact hjn) zc q4) ?_)
               rintro v516 h516 ⟨vx516, e516, r516, f516, S516, C516, ro516, R516, Y516⟩
               dsimp only at e516 R516 Y516
               subst e516
               have NB := (T43).nx
               have NY516 := Y516.sm.nx
               have w516 := ((w43).ext T43).go Y516 R516
               have T516 : Sm Nix h516 h516 := .refl
               refine L_g 7 kr (L_nil (W_seq (W_drawn kr (D_l (l := [0,1,2,3,4,5,6,7,8,9,10,11,12,13,14,15,16,17,18,19,20,21,22,23,24,25,26]) kr kr Rk_nil (NS_b 27 kr (NS_nil ?_))))))
               refine W_cond false kr (fun e => by cases e) (fun _ => ?_)
               refine W_skip (W_region (L_i ((j : Int)) (1) (nv ((j + 1 : Nat) : Int)) rfl rfl kr kr rfl (inc_ok (by omega)) (L_g 1 kr (L_nil ?_))))
               exact ⟨n - (j + 1), by omega, j + 1, _, _, _, rfl, by omega, S1, ((w516).ext T516), kr, kr, kr, kr, kr, kr, kr, kr, kr, kr, kr, kr, kr⟩
            ·
              rw [show nv (P6.rv true) = nv (P6.rv (P6.ps late n (i + 1))) by rw [hp1]]
              refine W_exit ?_
              repeat with_reducible refine then_exit ?_
              refine exit_here (W_region (L_i ((i : Int)) (1) (nv ((i + 1 : Nat) : Int)) rfl rfl kr kr rfl (inc_ok (by omega)) (L_g 1 kr (L_nil ?_))))
              exact ⟨n - (i + 1), by omega, i + 1, _, _, _, _, vg, rfl, by omega, (by rw [P6.cnt_ups hk hgk, hcnt]), (by rw [hp1]; exact S43), ((w43).ext T43), kr, kr, kr, kr, kr, kr, kr, kr, kr, kr, kr⟩
    ·
     have hge : i = n := by simp at hb; omega
     have hp1 : P6.ps late n i = true := by rw [hge]; exact P6.ps_n hn0
     have hall := P6.cnt_full (hcnt.trans hge)
     rw [hp1] at S25 ⊢
     obtain ⟨k9, W8, hk9, hs9, hr9⟩ := (S25).settle
     obtain ⟨ar8, S8⟩ : ∃ ar, P6.Sp n m gv true (.C [] [] ar) W8 := by
      rcases hr9 with ⟨e, -⟩ | ⟨-, q⟩
      · cases e
      · exact q
     refine W_exit ?_
     repeat with_reducible refine then_exit ?_
     refine exit_here (W_seq (W_sg 1 kr (L_c rfl rfl kr (settle_n (n := 2) (((w25).ext T25).R) S25.n_ (by decide) hk9 hs9) ?_)))
     rintro v517 h517 ⟨e517, S517, C517, ro517, R517, Y517⟩
     dsimp only at e517 R517 Y517
     subst e517
     have NB := (T25).nx
     have NY517 := Y517.sm.nx
     have w517 := ((w25).ext T25).go Y517 R517
     have T517 : Sm Nix h517 h517 := .refl
     refine L_g 1 kr (L_nil ?_)
     refine W_cond false kr (fun e => by cases e) (fun _ => ?_)
     refine W_skip (W_seq (W_sg 2 kr (L_nil (W_block ?_))))
     refine W_loop (fun mm fr hh => ∃ (j : Nat) (ar : Nat → Bool) (W53 : Wd) (G53 : Gh), mm = n - j ∧ (j ≤ n) ∧ (P6.Sp n m gv true (.C [] [] ar) W53) ∧ (W4 h W53 G53 vg (.cl (rg (fun q => Value.bool (gv q)) n)) (nv 0) .no (nv 0) .no (nv 0) .no hh) ∧ fr 2 = ov ∧ fr 3 = (.bool late) ∧ fr 9 = nv (n : Int) ∧ fr 10 = nv (m : Int) ∧ fr 11 = ptr (G53.B .wd) ∧ fr 13 = nv 1 ∧ fr 14 = nv (P6.rv true) ∧ fr 15 = vg ∧ fr 16 = (.string ⟨⟨P6.want n m⟩⟩) ∧ fr 242 = nv (n : Int) ∧ fr 243 = nv (j : Int)) (n) ?_ ?_
     ·
      exact ⟨0, ar8, _, _, rfl, Nat.zero_le _, S8, ((w517).ext T517), kr, kr, kr, kr, kr, kr, kr, kr, kr, kr, kr⟩
     rintro mm fr hh53 ⟨j, ar, W53, G53, hm53, hj, S53, w53, y532, y533, y539, y5310, y5311, y5313, y5314, y5315, y5316, y53242, y53243⟩
     refine W_set (k := 2) y532 (W_set (k := 3) y533 (W_set (k := 9) y539 (W_set (k := 10) y5310 (W_set (k := 11) y5311 (W_set (k := 13) y5313 (W_set (k := 14) y5314 (W_set (k := 15) y5315 (W_set (k := 16) y5316 (W_set (k := 242) y53242 (W_set (k := 243) y53243 ?_))))))))))
     have T53 : Sm Nix hh53 hh53 := .refl
     refine W_seq (W_region (L_i ((j : Int)) ((n : Int)) (.bool (decide ((j : Int) < (n : Int)))) rfl rfl kr kr rfl (rfl) (L_nil (W_seq ?_))))
     refine W_cond (decide ((j : Int) < (n : Int))) kr (fun hb => ?_) (fun hb => ?_)
     ·
      have hjn : j < n := by simp at hb; omega
      obtain ⟨q1, q2, q3, -⟩ := (S53).rcv
      obtain ⟨W1, zc, S1⟩ := (S53).call1
      have q4 := S1.rcv.2.2.2 j hjn
      have har : ar j = true := (S53.ok.2.2.2.1 j hjn (hall j (by omega))).resolve_right (fun h => by cases h)
      have har2 : (P6.Sg.c1 true (.C [] [] ar)).ar j = true := by show (ar j || decide (j ∈ [])) = true; rw [har]; rfl
      rw [har2, if_pos rfl] at q4
      refine W_skip (W_seq (W_block (W_sg 2 kr (L_nil (W_sg 3 kr (L_c rfl rfl kr (arr_some (p := 1) (no := 1) (i := j) (((w53).ext T53).R) (by rw [(S53).n_]; decide) q1 q2 (by rw [q3]; exact hjn) zc q4 (by rw [P6.pt_len]; show m < 1000000000; omega)) ?_))))))
      rintro v518 h518 ⟨vx518, e518, r518, f518, S518, C518, ro518, R518, Y518⟩
      dsimp only at e518 R518 Y518
      subst e518
      have NB := (T53).nx
      have NY518 := Y518.sm.nx
      have w518 := ((w53).ext T53).go Y518 R518
      have T518 : Sm Nix h518 h518 := .refl
      refine L_g 7 kr (L_nil (W_seq (W_drawn kr (D_l (l := [0,1,2,3,4,5,6,7,8,9,10,11,12,13,14,15,16,17,18,19,20]) kr kr Rk_nil (NS_b 8 kr (NS_v (.string ⟨⟨P6.pt m j⟩⟩) rfl kr rfl kr (ev_conv (o := _) rfl kr (str_ok (r518.ext T518))) (NS_b 3 kr (NS_v (nv ((j * m : Nat) : Int)) rfl kr rfl kr (ev_bin (o := _) rfl kr kr (mul_b (a := j) (b := m) (by have := P6.part_le (n := n) (m := m) (k := j) hjn; rw [P6.want_len] at this; omega))) (NS_b 2 kr (NS_v (nv ((j * m : Nat) : Int)) rfl kr rfl kr (ev_bin (o := _) rfl kr kr (mul_b (a := j) (b := m) (by have := P6.part_le (n := n) (m := m) (k := j) hjn; rw [P6.want_len] at this; omega))) (NS_b 1 kr ?_)))))))))))
      refine NS_i (((j * m : Nat) : Int)) ((m : Int)) (nv ((j * m + m : Nat) : Int)) rfl rfl kr kr kr kr rfl (add_b rfl (by have := P6.part_le (n := n) (m := m) (k := j) hjn; rw [P6.want_len] at this; omega)) (NS_sl _ rfl rfl kr kr kr kr kr kr ((want_sl (n := n) (m := m) hjn)) (NS_v (.bool false) rfl kr rfl kr (ev_bin (o := _) rfl kr kr (neq_str (P6.pt m j))) (NS_b 1 kr (NS_nil ?_))))
      refine W_cond false kr (fun e => by cases e) (fun _ => ?_)
      refine W_skip (W_region (L_i ((j : Int)) (1) (nv ((j + 1 : Nat) : Int)) rfl rfl kr kr rfl (inc_ok (by omega)) (L_g 1 kr (L_nil ?_))))
      exact ⟨n - (j + 1), by omega, j + 1, _, _, _, rfl, by omega, S1, ((w518).ext T518), kr, kr, kr, kr, kr, kr, kr, kr, kr, kr, kr⟩
     ·
      obtain ⟨V1, y0, y1, y2, y3, y4, y5, y6, y7, y8, y9, y10⟩ := S53.fin (fun i hi => hall i (by omega))
      obtain ⟨q1, -, -, -, q5, -, -⟩ := S53.snd
      refine W_exit ?_
      repeat with_reducible refine then_exit ?_
      refine exit_here (W_sg 2 kr (L_c rfl rfl kr (test_send (p := 0) (no := 1) (((w53).ext T53).R) (by rw [S53.n_]; decide) q1 q5 y0 y1 y2) ?_))
      rintro v519 h519 ⟨e519, S519, C519, ro519, R519, Y519⟩
      dsimp only at e519 R519 Y519
      subst e519
      have NB := (T53).nx
      have NY519 := Y519.sm.nx
      have w519 := ((w53).ext T53).go Y519 R519
      have T519 : Sm Nix h519 h519 := .refl
      refine L_g 5 kr (L_nwc [nv 0, nv 0, nv 0, nv 0] .ptr rfl rfl kr fun h520 c520 t520 n520 => ?_)
      have T520 := T519.ext t520
      have N520 := T520.nx
      obtain ⟨h521, e521, d521, t521, n521⟩ := c520.sA 43 [nv (V1.rq 0 1).st.src, nv (V1.rq 0 1).st.tag, nv (V1.rq 0 1).st.size, nv (V1.rq 0 1).st.err]
      replace c520 := d521
      have T521 := T520.tr t521
      have N521 := T521.nx
      refine L_st _ rfl rfl rfl kr kr (e521) (L_g 3 kr (L_nil (W_sg 10 kr (L_want kr (L_p (nv ((n * m : Nat) : Int)) rfl (ev_bin (o := _) rfl kr kr (mul_b (a := n) (b := m) (hb9))) (L_g 2 kr (L_want kr (L_c rfl rfl kr (received_recv (p := 1) (no := 1) (s := ⟨0, 7, ((n * m : Nat) : Int), 0⟩) (d := P6.want n m) (((w519).ext T521).R) (by rw [y3]; decide) y4 y5 y6 y7 y8 y9 y10 (by rw [P6.want_len]; show n * m < 1000000000; omega)) ?_))))))))
      rintro v522 h522 ⟨e522, S522, C522, ro522, R522, Y522⟩
      dsimp only at e522 R522 Y522
      subst e522
      have NB := (T521).nx
      have NY522 := Y522.sm.nx
      have w522 := ((w519).ext T521).go Y522 R522
      replace c520 := c520
      have T522 : Sm Nix h522 h522 := .refl
      refine L_g 2 kr (L_want kr (L_c rfl rfl kr (works_ok) ?_))
      rintro vw hw ew
      cases ew
      refine L_g 2 kr (L_nil (W_ret ?_))
      repeat first | with_reducible refine then_ret ?_ | with_reducible refine blk_ret ?_
      refine done_of (v := .bool true) (.inl rfl) kr ?_
      exact rfl
end
end Go.Proofs.Ytmehemeoaplepaa
