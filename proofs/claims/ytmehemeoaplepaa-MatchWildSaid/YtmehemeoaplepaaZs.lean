/- Worlds of the program and walks of its functions. -/
import Derived.Test.YtmehemeoaplepaaZr
namespace Go.Proofs.Ytmehemeoaplepaa
noncomputable section
open Go Go.X Go.Arm Go.Mt
theorem eq_a3 (a c : Int × Int × Int) : pureRun Try.prog (Go.Op.equal 46 (k3 a) (k3 c)) = some (decide (a = c)) := by
 have hu : Try.prog.underlying 46 = some (.array 3 3) := by kernel_rfl
 have hi : Try.prog.underlying 3 = some (.int .i64) := by kernel_rfl
 have hz : pureRun Try.prog (Go.sizeOf 3) = some 1 := by kernel_rfl
 unfold Go.Op.equal
 show pureRun _ (Go.Op.equalIn (9999 + 1) _ _ _) = _
 unfold k3 nv
 rw [Go.Op.equalIn]
 refine pureRun_and (pr_un hu) ?_
 dsimp only
 refine pureRun_and hz ?_
 simp only [Std.Legacy.Range.forIn_eq_forIn_range', Std.Legacy.Range.size, Nat.sub_zero, Nat.add_one_sub_one, Nat.div_one]
 rw [show List.range' 0 3 1 = [0, 1, 2] by decide]
 simp only [List.forIn_cons, List.forIn_nil]
 have p0 : ∀ v w u : Value, pureRun Try.prog (part 3 ⟨[v, w, u]⟩ (0 * 1)) = some v := fun v w u => by kernel_rfl
 have p1 : ∀ v w u : Value, pureRun Try.prog (part 3 ⟨[v, w, u]⟩ (1 * 1)) = some w := fun v w u => by kernel_rfl
 have p2 : ∀ v w u : Value, pureRun Try.prog (part 3 ⟨[v, w, u]⟩ (2 * 1)) = some u := fun v w u => by kernel_rfl
 have q1 := eqIn_int (P := Try.prog) 9998 3 .i64 .i64 a.1 c.1 hi
 have q2 := eqIn_int (P := Try.prog) 9998 3 .i64 .i64 a.2.1 c.2.1 hi
 have q3 := eqIn_int (P := Try.prog) 9998 3 .i64 .i64 a.2.2 c.2.2 hi
 by_cases h1 : a.1 = c.1
 · have b1 : (a.1 == c.1) = true := by simpa using h1
   rw [b1] at q1
   by_cases h2 : a.2.1 = c.2.1
   · have b2 : (a.2.1 == c.2.1) = true := by simpa using h2
     rw [b2] at q2
     by_cases h3 : a.2.2 = c.2.2
     · have b3 : (a.2.2 == c.2.2) = true := by simpa using h3
       rw [b3] at q3
       have hd : decide (a = c) = true := by simp [Prod.ext_iff, h1, h2, h3]
       rw [hd]
       exact pureRun_and (a := (none, ())) (pureRun_and (a := ForInStep.yield (none, ())) (pureRun_and (p0 _ _ _) (pureRun_and (p0 _ _ _) (pureRun_and q1 rfl))) (pureRun_and (a := ForInStep.yield (none, ())) (pureRun_and (p1 _ _ _) (pureRun_and (p1 _ _ _) (pureRun_and q2 rfl))) (pureRun_and (a := ForInStep.yield (none, ())) (pureRun_and (p2 _ _ _) (pureRun_and (p2 _ _ _) (pureRun_and q3 rfl))) rfl))) rfl
     · have b3 : (a.2.2 == c.2.2) = false := by simpa using h3
       rw [b3] at q3
       have hd : decide (a = c) = false := by simp [Prod.ext_iff, h3]
       rw [hd]
       exact pureRun_and (a := (some false, ())) (pureRun_and (a := ForInStep.yield (none, ())) (pureRun_and (p0 _ _ _) (pureRun_and (p0 _ _ _) (pureRun_and q1 rfl))) (pureRun_and (a := ForInStep.yield (none, ())) (pureRun_and (p1 _ _ _) (pureRun_and (p1 _ _ _) (pureRun_and q2 rfl))) (pureRun_and (a := ForInStep.done (some false, ())) (pureRun_and (p2 _ _ _) (pureRun_and (p2 _ _ _) (pureRun_and q3 rfl))) rfl))) rfl
   · have b2 : (a.2.1 == c.2.1) = false := by simpa using h2
     rw [b2] at q2
     have hd : decide (a = c) = false := by simp [Prod.ext_iff, h2]
     rw [hd]
     exact pureRun_and (a := (some false, ())) (pureRun_and (a := ForInStep.yield (none, ())) (pureRun_and (p0 _ _ _) (pureRun_and (p0 _ _ _) (pureRun_and q1 rfl))) (pureRun_and (a := ForInStep.done (some false, ())) (pureRun_and (p1 _ _ _) (pureRun_and (p1 _ _ _) (pureRun_and q2 rfl))) rfl)) rfl
 · have b1 : (a.1 == c.1) = false := by simpa using h1
   rw [b1] at q1
   have hd : decide (a = c) = false := by simp [Prod.ext_iff, h1]
   rw [hd]
   exact pureRun_and (a := (some false, ())) (pureRun_and (a := ForInStep.done (some false, ())) (pureRun_and (p0 _ _ _) (pureRun_and (p0 _ _ _) (pureRun_and q1 rfl))) rfl) rfl
theorem k_a3 : KeyK Try.prog 46 k3 := by
 refine KeyK.arr (m := 3) (el := 3) kr (fun k => rfl) (fun e k => by kernel_rfl) eq_a3 (fun k => ?_)
 unfold stays
 unfold k3 nv
 rw [Instr.sameBits]
 simp [Instr.sameBits]
theorem look3 {h : AH} {vm : Value} {lm : List ((Int × Int × Int) × Value)} (A : AtX h vm (.m3 lm)) (k : Int × Int × Int) :
   (kget lm k = none ∧ aLookup Try.prog 41 vm (k3 k) true h = some (.tuple ⟨[nv 0, .bool false]⟩)) ∨ ∃ v, kget lm k = some v ∧ aLookup Try.prog 41 vm (k3 k) true h = some (.tuple ⟨[v, .bool true]⟩) := by
 obtain ⟨b, rfl, H⟩ := A
 rcases H.lookup (P := Try.prog) (T := 41) (kt := 46) (el := 3) (z := nv 0) kr k_a3 kr k true with ⟨h1, h2⟩ | ⟨v, y, h1, h2, h3⟩
 · exact .inl ⟨h1, h2⟩
 · exact .inr ⟨v, by rw [h1, show v = y from h2], h3⟩
theorem upd3 {h : AH} {vm x : Value} {lm : List ((Int × Int × Int) × Value)} (k : Int × Int × Int) (A : AtX h vm (.m3 lm)) : ∃ h' bm, aUpdate Try.prog 41 vm (k3 k) x h = some h' ∧ AtX h' vm (.m3 (kset lm k x)) ∧ vbx vm = some bm ∧ Sm (fun c => c = bm) h h' := by
 obtain ⟨b, rfl, H⟩ := A
 obtain ⟨h', e, m, t, _⟩ := H.update (P := Try.prog) (T := 41) (kt := 46) (el := 3) kr k_a3 k (v := x) (y := x) rfl
 exact ⟨h', b, e, ⟨b, rfl, m⟩, rfl, t⟩
theorem rb_one {h : AH} {b i : Nat} (hi : i < 256) (c : Cl h b [.int .u8 (i : Int)]) : Rb h (.slice (some ⟨b, 0, none⟩) 1 1) (([UInt8.ofNat i] : By).map bv) := by
 have := (c.sd (n := 1) rfl).rb
 rw [← bv_n hi] at this
 exact this
theorem ups_nk {no : Nat → Nat} {i N : Nat} : ups (fun j => nk (no j)) i (nk N) = fun j => nk (ups no i N j) := by
 funext j
 by_cases e : j = i
 · subst e; rw [ups_at, ups_at]
 · rw [ups_ne _ _ e, ups_ne _ _ e]
theorem ups_tb {w : Nat → Option Nat} {i x : Nat} (hw : w i = some x) : ups (fun j => Value.bool (tb w i j)) x (.bool true) = fun j => Value.bool (tb w (i + 1) j) := by
 funext j
 by_cases e : j = x
 · subst e; rw [ups_at, tb_some hw]; simp
 · rw [ups_ne _ _ e, tb_some hw]
   have : decide (x = j) = false := decide_eq_false fun h => e h.symm
   rw [this, Bool.or_false]
theorem tb_fun {w : Nat → Option Nat} {i : Nat} (hw : w i = none) : (fun j => Value.bool (tb w (i + 1) j)) = fun j => Value.bool (tb w i j) := by
 funext j; rw [tb_no hw]
theorem el_rb {h : AH} {v : Value} {i : Nat} (hi : i < 256) (H : Rb h v (([UInt8.ofNat i] : By).map bv)) : ∃ b o, aIndex Try.prog 23 v (nv 0) = some (.pointer (some ⟨b, o, none⟩)) ∧ aLoad Try.prog 5 ⟨b, o, none⟩ h = some (.int .u8 (i : Int)) := by
 obtain ⟨b, o, h1, h2, _⟩ := H.el (P := Try.prog) (T := 23) (el := 5) (i := 0) (x := bv (UInt8.ofNat i)) kr kr rfl
 rw [bv_n hi] at h2
 exact ⟨b, o, h1, ld_cell kr h2⟩
theorem hL_set {sp : Nat → Mv} {Γ : Gs} {lm : List ((Int × Int × Int) × Value)} {i x : Nat} (hL : ∀ key v, kget lm key = some v → ∃ b j : Nat, v = nv (b : Int) ∧ j < i ∧ gw Γ sp j = some b ∧ key = (((sp b).p : Int), ((sp j).p : Int), (sp b).tag)) (hw : gw Γ sp i = some x) {key0 : Int × Int × Int} (hk : key0 = (((sp x).p : Int), ((sp i).p : Int), (sp x).tag)) :
   ∀ key v, kget (kset lm key0 (nv (x : Int))) key = some v → ∃ b j : Nat, v = nv (b : Int) ∧ j < i + 1 ∧ gw Γ sp j = some b ∧ key = (((sp b).p : Int), ((sp j).p : Int), (sp b).tag) := fun key v h => by
 rw [kget_ks] at h
 by_cases e : key0 = key
 · rw [if_pos e] at h
   cases h
   exact ⟨x, i, rfl, by omega, hw, e.symm.trans hk⟩
 · rw [if_neg e] at h
   obtain ⟨b, j, h1, h2, h3⟩ := hL key v h
   exact ⟨b, j, h1, by omega, h3⟩
end
end Go.Proofs.Ytmehemeoaplepaa
namespace Go.Proofs.Ytmehemeoaplepaa
noncomputable section
open Go Go.X Go.Arm Go.Mt
theorem W4.add3 {h0 h : AH} {W : Wd} {G : Gh} {v0 v1 v2 v3 v : Value} {x0 x1 x2 x : Tx} (H : W4 h0 W G v0 x0 v1 x1 v2 x2 v3 .no h) (A : AtX h v x) (f : ∀ b, vbx v = some b → h0.next ≤ b ∧ ¬ G.mut b ∧ ¬ G.ro b ∧ vbx v0 ≠ some b ∧ vbx v1 ≠ some b ∧ vbx v2 ≠ some b) : W4 h0 W G v0 x0 v1 x1 v2 x2 v x h := by
 refine ⟨H.R, H.O, fun k => ?_, fun k b hx hb => ?_, fun k k' b hx hx' hb hb' => ?_⟩
 · match k with
   | 0 => exact H.at_ 0
   | 1 => exact H.at_ 1
   | 2 => exact H.at_ 2
   | 3 => exact A
   | _ + 4 => trivial
 · match k with
   | 0 => exact H.own 0 b hx hb
   | 1 => exact H.own 1 b hx hb
   | 2 => exact H.own 2 b hx hb
   | 3 => exact ⟨(f b hb).1, (f b hb).2.1, (f b hb).2.2.1⟩
   | _ + 4 => exact (hx rfl).elim
 · have h3 : ∀ j, j < 3 → q4 (nv 0) v0 v1 v2 v j = q4 (nv 0) v0 v1 v2 v3 j ∧ q4 Tx.no x0 x1 x2 x j = q4 .no x0 x1 x2 .no j := fun j hj => by
     match j, hj with
     | 0, _ => exact ⟨rfl, rfl⟩
     | 1, _ => exact ⟨rfl, rfl⟩
     | 2, _ => exact ⟨rfl, rfl⟩
   have hn : ∀ j b, j < 3 → vbx v = some b → vbx (q4 (nv 0) v0 v1 v2 v j) ≠ some b := fun j b hj hv => by
     match j, hj with
     | 0, _ => exact (f b hv).2.2.2.1
     | 1, _ => exact (f b hv).2.2.2.2.1
     | 2, _ => exact (f b hv).2.2.2.2.2
   have hb4 : ∀ j, 4 ≤ j → q4 Tx.no x0 x1 x2 x j = .no := fun j hj => by
     match j, hj with
     | _ + 4, _ => rfl
   have c : ∀ j, q4 Tx.no x0 x1 x2 x j ≠ .no → j < 3 ∨ j = 3 := fun j hj => by
     by_cases e : 4 ≤ j
     · exact (hj (hb4 j e)).elim
     · omega
   rcases c k hx with e | e <;> rcases c k' hx' with e' | e'
   · rw [(h3 k e).1] at hb; rw [(h3 k e).2] at hx; rw [(h3 k' e').1] at hb'; rw [(h3 k' e').2] at hx'
     exact H.dj k k' b hx hx' hb hb'
   · subst e'; exact (hn k b e hb' hb).elim
   · subst e; exact (hn k' b e' hb hb').elim
   · omega
theorem ix_a3 {b : Nat} : ∀ (i : Nat), i < 3 → aIndex Try.prog 46 (ptr b) (nv (i : Int)) = some (.pointer (some ⟨b, i, none⟩))
 | 0, _ => by kernel_rfl
 | 1, _ => by kernel_rfl
 | 2, _ => by kernel_rfl
 | _ + 3, h => absurd h (by omega)
set_option maxHeartbeats 4000000 in
theorem wild_ok {h : AH} {x1 x2 x3 : Nat} {sv ov : Value} {l : List Mo} {os : By} (hx1 : x1 < 256) (hx2 : x2 < 256) (hx3 : x3 < 256) (hl : ∀ m, m ∈ l → m.ok) (Hl : Sd h 6 sv l.length (l.flatMap mo6)) (Ho : Sd h 1 ov os.length (os.map bv)) :
  Arm.Calls Try.prog 3 [.int .u8 (x1 : Int), .int .u8 (x2 : Int), .int .u8 (x3 : Int), sv, ov] h (fun r => r.1 = .bool true) := by
 obtain ⟨n, hn1⟩ : ∃ n, 1 + x1 % 4 = n := ⟨_, rfl⟩
 have hn : 0 < n ∧ n < 5 := by omega
 obtain ⟨E, hE⟩ : ∃ E, x2 % 14 = E := ⟨_, rfl⟩
 have hE9 : E < 14 := by omega
 obtain ⟨c, hc⟩ : ∃ c, x3 % 5 = c := ⟨_, rfl⟩
 have hc9 : c < 5 := by omega
 have hcg : Cg (⟨n, (E : Int), 1, (c : Int)⟩ : Mt.Ct) := ⟨by show n < 9; omega, by show (0 : Int) ≤ 1; decide, by show (1 : Int) < 100; decide, by show (0 : Int) ≤ c; omega, by show (c : Int) ≤ 64; omega⟩
 refine Calls_W 303 Try.f3 ?_
 have T0 : Sm Nix h h := .refl
 refine W_sg 1 kr (L_nil (W_seq (W_seq ?_)))
 rcases (show 24 < l.length ∨ (l.length ≤ 24 ∧ 40 < os.length) ∨ (l.length ≤ 24 ∧ os.length ≤ 40) by omega) with h24 | ⟨hlen, h40⟩ | ⟨hlen, hol⟩
 ·
  refine W_rg 1 kr (L_ln _ rfl rfl kr (Sd.len (P := Try.prog) (T := 22) (el := 32) kr (Hl.ext T0)) (L_i ((l.length : Int)) (24) (.bool true) rfl rfl kr kr rfl (by simp; omega) (L_g 5 kr (L_nil ?_))))
  refine W_cond true kr (fun _ => ?_) (fun e => by cases e)
  refine W_seq (W_region (L_c rfl rfl kr (works_ok) ?_))
  rintro vw hw ew
  cases ew
  refine L_g 1 kr (L_nil (W_ret ?_))
  repeat first | with_reducible refine then_ret ?_ | with_reducible refine blk_ret ?_
  refine done_of (v := .bool true) (.inl rfl) kr ?_
  exact rfl
 ·
  refine W_rg 1 kr (L_ln _ rfl rfl kr (Sd.len (P := Try.prog) (T := 22) (el := 32) kr (Hl.ext T0)) (L_i ((l.length : Int)) (24) (.bool false) rfl rfl kr kr rfl (by simp; omega) (L_g 2 kr (L_want kr (L_ln _ rfl rfl kr (Sd.len (P := Try.prog) (T := 23) (el := 5) kr (Ho.ext T0)) (L_want kr (L_i ((os.length : Int)) (40) (.bool true) rfl rfl kr kr rfl (by simp; omega) (L_g 1 kr (L_nil ?_)))))))))
  refine W_cond true kr (fun _ => ?_) (fun e => by cases e)
  refine W_seq (W_region (L_c rfl rfl kr (works_ok) ?_))
  rintro vw hw ew
  cases ew
  refine L_g 1 kr (L_nil (W_ret ?_))
  repeat first | with_reducible refine then_ret ?_ | with_reducible refine blk_ret ?_
  refine done_of (v := .bool true) (.inl rfl) kr ?_
  exact rfl
 ·
  refine W_rg 1 kr (L_ln _ rfl rfl kr (Sd.len (P := Try.prog) (T := 22) (el := 32) kr (Hl.ext T0)) (L_i ((l.length : Int)) (24) (.bool false) rfl rfl kr kr rfl (by simp; omega) (L_g 2 kr (L_want kr (L_ln _ rfl rfl kr (Sd.len (P := Try.prog) (T := 23) (el := 5) kr (Ho.ext T0)) (L_want kr (L_i ((os.length : Int)) (40) (.bool false) rfl rfl kr kr rfl (by simp; omega) (L_g 1 kr (L_nil ?_)))))))))
  refine W_cond false kr (fun e => by cases e) (fun _ => ?_)
  refine W_skip (W_sg 1 kr (L_p (nv (x1 : Int)) rfl (ev_conv (o := _) rfl kr (conv8 (hx1))) (L_p (nv ((x1 % 4 : Nat) : Int)) rfl (ev_bin (o := _) rfl kr kr (rem_lit (c := 4) (by decide) rfl kr)) (L_i (1) (((x1 % 4 : Nat) : Int)) (nv (n : Int)) rfl rfl kr kr rfl (add_ii (by omega) (by omega)) (L_g 1 kr (L_nil (W_seq (W_region (L_g 2 kr ?_)))))))))
  refine L_p (nv (x2 : Int)) rfl (ev_conv (o := _) rfl kr (conv8 (hx2))) (L_p (nv (E : Int)) rfl (ev_bin (o := _) rfl kr kr (rem_lit (c := 14) (by decide) hE kr)) (L_g 1 kr (L_p (nv (x3 : Int)) rfl (ev_conv (o := _) rfl kr (conv8 (hx3))) (L_p (nv (c : Int)) rfl (ev_bin (o := _) rfl kr kr (rem_lit (c := 5) (by decide) hc kr)) (L_c rfl rfl kr (new_ok (n := n) (e := (E : Int)) (c := (c : Int)) (by omega) (by omega) (by omega) (by omega) (by omega)) ?_)))))
  rintro v400 h400 ⟨G0, e400, R400, Z400, t400⟩
  dsimp only at e400 R400 Z400 t400
  subst e400
  have O400 : Old h G0 h400 := ⟨t400.mono (fun _ x => x.elim), fun b hb => Z400 b (.inl hb)⟩
  have w400 := W4.nil R400 O400 (v0 := nv 0) (v1 := nv 0) (v2 := nv 0) (v3 := nv 0)
  have T400 : Sm Nix h400 h400 := .refl
  refine L_g 5 kr (L_nil (W_seq (W_sg 2 kr (L_nil ?_))))
  refine W_cond false kr (fun e => by cases e) (fun _ => ?_)
  refine W_skip (W_sg 1 kr (L_ln _ rfl rfl kr (Sd.len (P := Try.prog) (T := 22) (el := 32) kr ((((w400).ext T400).O).sd Hl)) (L_nwc (zrep l.length [nv 0]) (.sl l.length l.length) rfl rfl (ev_mkK (P := Try.prog) (k := 1) (el := 3) (z := nv 0) (by_ := 8) kr kr kr kr rfl (by omega) kr kr) fun h401 c401 t401 n401 => ?_)))
  have T401 := T400.ext t401
  have N401 := T401.nx
  rw [rg_const] at c401
  refine L_g 1 kr (L_nil (W_seq (W_sg 1 kr (L_ln _ rfl rfl kr (Sd.len (P := Try.prog) (T := 22) (el := 32) kr ((((w400).ext T401).O).sd Hl)) (L_g 1 kr (L_nil (W_block ?_)))))))
  refine W_loop (fun mm fr hh => ∃ (i : Nat) (no : Nat → Nat) (W9 : Wd) (G9 : Gh) (vr : Value), mm = l.length - i ∧ (i ≤ l.length) ∧ (Pn (⟨n, (E : Int), 1, (c : Int)⟩ : Mt.Ct) (spW n l) no i W9) ∧ (W4 h W9 G9 vr (.cl (rg (fun j => nk (no j)) l.length)) (nv 0) .no (nv 0) .no (nv 0) .no hh) ∧ fr 3 = sv ∧ fr 4 = ov ∧ fr 11 = nv (n : Int) ∧ fr 14 = vr ∧ fr 12 = ptr (G9.B .wd) ∧ fr 67 = sv ∧ fr 68 = nv (l.length : Int) ∧ fr 69 = nv (i : Int)) (l.length) ?_ ?_
  ·
   have w8 := W4.up0 (w400) (v := .slice (some ⟨h400.next, 0, none⟩) l.length l.length) (x := (.cl (rg (fun j => nk (((fun _ => 0 : Nat → Nat)) j)) l.length))) ⟨_, by rw [rg_len], c401⟩ ((T401).mono fun _ x => (show False from x).elim) (fun b hb => .inr (by have e9 : h400.next = b := Option.some.inj hb; omega))
   exact ⟨0, (fun _ => 0), _, G0, _, rfl, Nat.zero_le _, Pn.born (by omega), w8, kr, kr, kr, kr, kr, kr, kr, kr⟩
  rintro mm fr hh9 ⟨i, no, W9, G9, vr, hm9, hi, P9, w9, y93, y94, y911, y914, y912, y967, y968, y969⟩
  refine W_set (k := 3) y93 (W_set (k := 4) y94 (W_set (k := 11) y911 (W_set (k := 14) y914 (W_set (k := 12) y912 (W_set (k := 67) y967 (W_set (k := 68) y968 (W_set (k := 69) y969 ?_)))))))
  have T9 : Sm Nix hh9 hh9 := .refl
  refine W_seq (W_region (L_i ((i : Int)) ((l.length : Int)) (.bool (decide ((i : Int) < (l.length : Int)))) rfl rfl kr kr rfl (rfl) (L_nil (W_seq ?_))))
  refine W_cond (decide ((i : Int) < (l.length : Int))) kr (fun hb => ?_) (fun hb => ?_)
  ·
   have hlt : i < l.length := by simp at hb; omega
   obtain ⟨m, hm⟩ : ∃ m, l[i]? = some m := ⟨_, List.getElem?_eq_getElem hlt⟩
   have hmo := hl m (List.mem_of_getElem? hm)
   obtain ⟨b9, o9, i9, l9, -, -⟩ := el_mo (w9.O.sd Hl) hm
   have hpn : (m.p % n) < n := Nat.mod_lt _ hn.1
   have hqn : (m.q % n) < n := Nat.mod_lt _ hn.1
   refine W_skip (W_seq (W_block (W_sg 1 kr (L_ix _ rfl rfl kr kr (i9) (L_ld _ rfl rfl kr (l9) (L_nwc [.int .u8 0, .int .u8 0, .bool false, .int .i8 0, .int .u8 0, .bool false] .ptr rfl rfl kr fun h402 c402 t402 n402 => ?_))))))
   have T402 := T9.ext t402
   have N402 := T402.nx
   refine L_g 1 kr ?_
   obtain ⟨h403, e403, d403, t403, n403⟩ := c402.sA 32 [.int .u8 (m.p : Int), .int .u8 (m.q : Int), .bool m.snd, .int .i8 m.tag, .int .u8 (m.size : Int), .bool m.sync]
   replace c402 := d403
   have T403 := T402.tr t403
   have N403 := T403.nx
   refine L_st _ rfl rfl rfl kr kr (e403) (L_nil (W_sg 1 kr (L_ld _ rfl rfl kr (c402.ld (o := 0) kr rfl) (L_p (nv (m.p : Int)) rfl (ev_conv (o := _) rfl kr (conv8 (hmo.p))) (L_g 1 kr (L_p (nv ((m.p % n : Nat) : Int)) rfl (ev_bin (o := _) rfl kr kr (rem_n hn)) (L_g 1 kr (L_nil ?_))))))))
   refine W_seq_cut (fun fr hh => ∃ (N : Nat) (W3 : Wd) (G3 : Gh), Pn (⟨n, (E : Int), 1, (c : Int)⟩ : Mt.Ct) (spW n l) (ups no i N) (i + 1) W3 ∧ W4 h W3 G3 vr (.cl (rg (fun j => nk ((ups no i N) j)) l.length)) (nv 0) .no (nv 0) .no (nv 0) .no hh ∧ fr 3 = sv ∧ fr 4 = ov ∧ fr 11 = nv (n : Int) ∧ fr 12 = ptr (G3.B .wd) ∧ fr 13 = nv 0 ∧ fr 14 = vr ∧ fr 15 = nv (i : Int) ∧ fr 67 = sv ∧ fr 68 = nv (l.length : Int) ∧ fr 69 = nv (i : Int)) ?_ ?_
   ·
    refine W_sg 1 kr (L_ld _ rfl rfl kr (c402.ld (o := 2) kr rfl) (L_nil ?_))
    refine W_cond (m.snd) kr (fun hb => ?_) (fun hb => ?_)
    ·
     have hms : m.snd = true := hb
     obtain ⟨W1, zc, P1⟩ := P9.call hcg (by omega) (p := (m.p % n)) hpn
     obtain ⟨W2, W3, z1, z2, z3, PS⟩ := P1.send hcg (by omega) (p := (m.p % n)) (q := (m.q % n)) (tag := tgO m) (sync := m.sync) (d := [UInt8.ofNat i]) (by rw [spW_send hm]; exact hms) (by rw [spW_s hm hms]) hpn hqn (by show (1 : Int) ≤ 1; decide)
     refine W_drawn kr (D_e (e := 10) (l := [0,1,2,3,4,5,6,7,8,9,11,12,13,14,15]) (s' := [0,1,2,3,4,5,6,7,8,11,12,13,14,15]) kr kr rfl kr Rk_nil (NS_b 5 kr (NS_ld _ rfl rfl kr kr kr (c402.ld (o := 1) kr rfl) (NS_v (nv (m.q : Int)) rfl kr rfl kr (ev_conv (o := _) rfl kr (conv8 (hmo.q))) (NS_b 1 kr (NS_v (nv ((m.q % n : Nat) : Int)) rfl kr rfl kr (ev_bin (o := _) rfl kr kr (rem_n hn)) (NS_ld _ rfl rfl kr kr kr (Cl.allN (n := 6) c402 rfl kr) (NS_b 1 kr (NS_v (.int .u8 (i : Int)) rfl kr rfl kr (ev_conv (o := _) rfl kr (convB (by omega))) (NS_nwc [.int .u8 (i : Int)] (.sl 1 1) rfl kr rfl rfl kr (Rk_1 rfl rfl (Rk_1 rfl rfl (Rk_1 rfl rfl (Rk_1 rfl rfl (Rk_1 rfl rfl (Rk_ld _ rfl rfl rfl kr ((c402.ext (.push h403 _)).ld (o := 1) kr rfl) kr (Rk_v (v := (nv (m.q : Int))) rfl rfl (ev_conv (o := _) rfl kr (conv8 (hmo.q))) kr (Rk_1 rfl rfl (Rk_v (v := (nv ((m.q % n : Nat) : Int))) rfl rfl (ev_bin (o := _) rfl kr kr (rem_n hn)) kr (Rk_ld _ rfl rfl rfl kr (Cl.allN (n := 6) (c402.ext (.push h403 _)) rfl kr) kr (Rk_1 rfl rfl (Rk_v (v := (.int .u8 (i : Int))) rfl rfl (ev_conv (o := _) rfl kr (convB (by omega))) kr (Rk_1 rfl rfl Rk_nil))))))))))))) fun h404 c404 t404 n404 => ?_))))))))))
     replace c402 := c402.ext t404
     have T404 := T403.ext t404
     have N404 := T404.nx
     have nm95 := (((w9).ext T403).R).op.new (Nat.le_refl _)
     refine NS_b 1 kr (NS_ld _ rfl rfl kr kr kr (c402.ld (o := 5) kr rfl) (NS_nil (L_c rfl rfl kr (tagOf_ok hmo) ?_)))
     rintro v405 h405 ⟨e405, t405⟩
     try dsimp only at e405
     try dsimp only at t405
     subst e405
     replace c402 := c402.ext t405
     replace c404 := c404.ext t405
     have T405 := T404.ext t405
     have N405 := T405.nx
     have M405 := t405.nx
     refine L_nil ⟨rfl, ?_⟩
     refine D_e (e := 16) (l := []) (s' := [0,1]) kr kr rfl kr (Rk_1 rfl rfl (Rk_1 rfl rfl (Rk_1 rfl rfl (Rk_1 rfl rfl (Rk_1 rfl rfl (Rk_ld _ rfl rfl rfl kr (c402.ld (o := 1) kr rfl) kr (Rk_v (v := (nv (m.q : Int))) rfl rfl (ev_conv (o := _) rfl kr (conv8 (hmo.q))) kr (Rk_1 rfl rfl (Rk_v (v := (nv ((m.q % n : Nat) : Int))) rfl rfl (ev_bin (o := _) rfl kr kr (rem_n hn)) kr (Rk_1 rfl rfl (Rk_v (v := (.int .u8 (i : Int))) rfl rfl (ev_conv (o := _) rfl kr (convB (by omega))) kr (Rk_1 rfl rfl (Rk_1 rfl rfl (Rk_ld _ rfl rfl rfl kr (c402.ld (o := 5) kr rfl) kr Rk_nil)))))))))))))) (NS_nil (L_c rfl rfl kr (send1_ok (p := (m.p % n)) (q := (m.q % n)) (ctx := 3) (tag := tgO m) (sync := m.sync) (d := [UInt8.ofNat i]) (((w9).ext T405).R) (by rw [P9.n]; exact hpn) (by rw [P9.n]; exact hqn) (by decide) (by decide) (tgO_r m).1 (by have := tgO_r m; omega) (by have := (P9.len (p := (m.p % n)) hpn).1; omega) (by show 1 ≤ 4096; decide) (rb_one (by omega) c404) (fun b hb => by cases hb; exact nm95) zc z1 z2) ?_))
     rintro v406 h406 ⟨e406, b13, S13, C13, ro13, R406, Y406⟩
     dsimp only at e406 R406 Y406
     rw [z3] at e406
     subst e406
     have NB := (T405).nx
     have NY406 := Y406.sm.nx
     have w406 := ((w9).ext T405).go Y406 R406
     replace c402 := c402
     replace c404 := c404
     have T406 : Sm Nix h406 h406 := .refl
     refine L_nil ⟨rfl, ?_⟩
     refine D_e (e := 21) (l := [17,18,19,20]) (s' := [19]) kr kr rfl kr (Rk_noRead kr) (NS_b 3 kr ?_)
     obtain ⟨bwR, ewR, lwR, iwR, vwR⟩ := AtX.row (T := 29) (el := 3) (i := i) kr kr kr (W4.a0 ((w406).ext T406)) hlt
     refine NS_ix _ rfl rfl kr kr kr kr (iwR) (NS_nil ?_)
     obtain ⟨h407, e407, A407, t407, n407⟩ := AtX.put (el := 3) (x := nk (W1.pr (m.p % n)).next) kr rfl rfl (W4.a0 ((w406).ext T406)) hlt bwR ewR
     rw [ups_nk] at A407
     refine L_st _ rfl rfl rfl kr kr (e407) ?_
     have w407 := W4.up0 ((w406).ext T406) A407 (t407.mono fun c hc => ⟨(fun e => by cases e), by rw [ewR, hc]; rfl⟩) (fun b hb => .inl ⟨(fun e => by cases e), hb⟩)
     have T407 : Sm Nix h407 h407 := .refl
     refine L_nil ⟨rfl, ?_⟩
     refine D_l (l := [22]) kr kr (Rk_noRead kr) (NS_b 1 kr (NS_nil ?_))
     exact ⟨_, _, _, PS, ((w407).ext T407), kr, kr, kr, kr, kr, kr, kr, kr, kr, kr⟩
    ·
     have hms : m.snd = false := hb
     obtain ⟨W1, zc, P1⟩ := P9.call hcg (by omega) (p := (m.p % n)) hpn
     obtain ⟨W2, W3, z1, z2, z3, PS⟩ := P1.recv hcg (by omega) (p := (m.p % n)) (peer := -1) (tag := tgO m) (by rw [spW_send hm]; exact hms) (by rw [spW_r hm hms]) hpn (by decide)
     refine W_rg 4 kr (L_ld _ rfl rfl kr (Cl.allN (n := 6) c402 rfl kr) (L_c rfl rfl kr (tagOf_ok hmo) ?_))
     rintro v408 h408 ⟨e408, t408⟩
     try dsimp only at e408
     try dsimp only at t408
     subst e408
     replace c402 := c402.ext t408
     have T408 := T403.ext t408
     have N408 := T408.nx
     have M408 := t408.nx
     refine L_c rfl rfl kr (recv_at (p := (m.p % n)) (ctx := 3) (tag := tgO m) (room := 1) (((w9).ext T408).R) (by rw [P9.n]; exact hpn) (by decide) (by decide) (tgO_r m).1 (by have := tgO_r m; omega) (by decide) (by decide) (by have := (P9.len (p := (m.p % n)) hpn).1; omega) zc z1 z2) ?_
     rintro v409 h409 ⟨e409, b14, S14, C14, ro14, R409, Y409⟩
     dsimp only at e409 R409 Y409
     rw [z3] at e409
     subst e409
     have NB := (T408).nx
     have NY409 := Y409.sm.nx
     have w409 := ((w9).ext T408).go Y409 R409
     replace c402 := c402
     have T409 : Sm Nix h409 h409 := .refl
     refine L_g 3 kr ?_
     obtain ⟨bwR, ewR, lwR, iwR, vwR⟩ := AtX.row (T := 29) (el := 3) (i := i) kr kr kr (W4.a0 ((w409).ext T409)) hlt
     refine L_ix _ rfl rfl kr kr (iwR) ?_
     obtain ⟨h410, e410, A410, t410, n410⟩ := AtX.put (el := 3) (x := nk (W1.pr (m.p % n)).next) kr rfl rfl (W4.a0 ((w409).ext T409)) hlt bwR ewR
     rw [ups_nk] at A410
     refine L_st _ rfl rfl rfl kr kr (e410) ?_
     have w410 := W4.up0 ((w409).ext T409) A410 (t410.mono fun c hc => ⟨(fun e => by cases e), by rw [ewR, hc]; rfl⟩) (fun b hb => .inl ⟨(fun e => by cases e), hb⟩)
     have T410 : Sm Nix h410 h410 := .refl
     refine L_g 1 kr (L_nil ?_)
     exact ⟨_, _, _, PS, ((w410).ext T410), kr, kr, kr, kr, kr, kr, kr, kr, kr, kr⟩
   ·
    rintro fr hc ⟨N, W3, G3, PS, wc, yc3, yc4, yc11, yc12, yc13, yc14, yc15, yc67, yc68, yc69⟩
    refine W_set (k := 3) yc3 (W_set (k := 4) yc4 (W_set (k := 11) yc11 (W_set (k := 12) yc12 (W_set (k := 13) yc13 (W_set (k := 14) yc14 (W_set (k := 15) yc15 (W_set (k := 67) yc67 (W_set (k := 68) yc68 (W_set (k := 69) yc69 ?_)))))))))
    have Tc : Sm Nix hc hc := .refl
    refine W_seq (W_sg 2 kr (L_nil ?_))
    refine W_cond false kr (fun e => by cases e) (fun _ => ?_)
    refine W_skip (W_seq ?_)
    rcases Nat.eq_zero_or_pos os.length with h0 | h0
    ·
     refine W_rg 1 kr (L_ln _ rfl rfl kr (Sd.len (P := Try.prog) (T := 23) (el := 5) kr ((((wc).ext Tc).O).sd Ho)) (L_i ((os.length : Int)) (0) (.bool false) rfl rfl kr kr rfl (congrArg Value.bool (decide_eq_false (by omega))) (L_nil ?_)))
     refine W_cond false kr (fun e => by cases e) (fun _ => ?_)
     refine W_skip (W_region (L_i ((i : Int)) (1) (nv ((i + 1 : Nat) : Int)) rfl rfl kr kr rfl (inc_ok (by omega)) (L_g 1 kr (L_nil ?_))))
     exact ⟨l.length - (i + 1), by omega, i + 1, (ups no i N), _, _, vr, rfl, by omega, PS, ((wc).ext Tc), kr, kr, kr, kr, kr, kr, kr, kr⟩
    ·
     have hx9 : i % os.length < os.length := Nat.mod_lt _ (by omega)
     obtain ⟨b8, o8, i8, l8⟩ := el_by (((wc).ext Tc).O.sd Ho) hx9
     have hd9 : (os[i % os.length]).toNat < 256 := UInt8.toNat_lt _
     generalize (os[i % os.length]).toNat = d at l8 hd9
     refine W_rg 1 kr (L_ln _ rfl rfl kr (Sd.len (P := Try.prog) (T := 23) (el := 5) kr ((((wc).ext Tc).O).sd Ho)) (L_i ((os.length : Int)) (0) (.bool true) rfl rfl kr kr rfl (congrArg Value.bool (decide_eq_true (by omega))) (L_nil ?_)))
     refine W_cond true kr (fun _ => ?_) (fun e => by cases e)
     refine W_sg 3 kr (L_ln _ rfl rfl kr (Sd.len (P := Try.prog) (T := 23) (el := 5) kr ((((wc).ext Tc).O).sd Ho)) (L_p (nv ((i % os.length : Nat) : Int)) rfl (ev_bin (o := _) rfl kr kr (rem_d (by omega))) (L_ix _ rfl rfl kr kr (i8) (L_ld _ rfl rfl kr (l8) (L_p (nv (d : Int)) rfl (ev_conv (o := _) rfl kr (conv8 (hd9))) (L_g 1 kr (L_nil ?_)))))))
     rcases PS.deliver hcg (by omega) (a := d % n) (b := d / 5 % n) (Nat.mod_lt _ hn.1) (Nat.mod_lt _ hn.1) with hw5 | ⟨x5, l5, hw5, hb5, P5⟩
     ·
      refine W_drawn kr (D_e (e := 8) (l := [0,1,2,3,4,5,6,7]) (s' := []) kr kr rfl kr Rk_nil (NS_b 3 kr (NS_v (nv ((d % n : Nat) : Int)) rfl kr rfl kr (ev_bin (o := _) rfl kr kr (rem_n hn)) (NS_b 1 kr (NS_v (nv ((d / 5 : Nat) : Int)) rfl kr rfl kr (ev_bin (o := _) rfl kr kr (quo_lit (c := 5) (hd9) (by decide) rfl kr)) (NS_b 1 kr (NS_v (nv ((d / 5 % n : Nat) : Int)) rfl kr rfl kr (ev_bin (o := _) rfl kr kr (rem_n hn)) (NS_nil (L_c rfl rfl kr (deliver_no (((wc).ext Tc).R) (a := d % n) (b := d / 5 % n) (by rw [PS.n]; exact Nat.mod_lt _ hn.1) (by rw [PS.n]; exact Nat.mod_lt _ hn.1) hw5) ?_)))))))))
      rintro v411 h411 ⟨e411, t411⟩
      try dsimp only at e411
      try dsimp only at t411
      subst e411
      have T411 := Tc.ext t411
      have N411 := T411.nx
      have M411 := t411.nx
      refine L_nil ⟨rfl, ?_⟩
      refine D_l (l := []) kr kr Rk_nil (NS_nil (W_region (L_i ((i : Int)) (1) (nv ((i + 1 : Nat) : Int)) rfl rfl kr kr rfl (inc_ok (by omega)) (L_g 1 kr (L_nil ?_)))))
      exact ⟨l.length - (i + 1), by omega, i + 1, (ups no i N), _, _, vr, rfl, by omega, PS, ((wc).ext T411), kr, kr, kr, kr, kr, kr, kr, kr⟩
     ·
      refine W_drawn kr (D_e (e := 8) (l := [0,1,2,3,4,5,6,7]) (s' := []) kr kr rfl kr Rk_nil (NS_b 3 kr (NS_v (nv ((d % n : Nat) : Int)) rfl kr rfl kr (ev_bin (o := _) rfl kr kr (rem_n hn)) (NS_b 1 kr (NS_v (nv ((d / 5 : Nat) : Int)) rfl kr rfl kr (ev_bin (o := _) rfl kr kr (quo_lit (c := 5) (hd9) (by decide) rfl kr)) (NS_b 1 kr (NS_v (nv ((d / 5 % n : Nat) : Int)) rfl kr rfl kr (ev_bin (o := _) rfl kr kr (rem_n hn)) (NS_nil (L_c rfl rfl kr (deliver_ok (((wc).ext Tc).R) (a := d % n) (b := d / 5 % n) (by rw [PS.n]; exact Nat.mod_lt _ hn.1) (by rw [PS.n]; exact Nat.mod_lt _ hn.1) hw5 hb5) ?_)))))))))
      rintro v412 h412 ⟨e412, S412, C412, ro412, R412, Y412⟩
      dsimp only at e412 R412 Y412
      subst e412
      have NB := (Tc).nx
      have NY412 := Y412.sm.nx
      have w412 := ((wc).ext Tc).go Y412 R412
      have T412 : Sm Nix h412 h412 := .refl
      refine L_nil ⟨rfl, ?_⟩
      refine D_l (l := []) kr kr Rk_nil (NS_nil (W_region (L_i ((i : Int)) (1) (nv ((i + 1 : Nat) : Int)) rfl rfl kr kr rfl (inc_ok (by omega)) (L_g 1 kr (L_nil ?_)))))
      exact ⟨l.length - (i + 1), by omega, i + 1, (ups no i N), _, _, vr, rfl, by omega, P5, ((w412).ext T412), kr, kr, kr, kr, kr, kr, kr, kr⟩
  ·
   have hge : i = l.length := by simp at hb; omega
   subst hge
   obtain ⟨j9, Γ, W, hj9, hs9, PL, Q⟩ := P9.settle hcg hlen
   refine W_exit ?_
   repeat with_reducible refine then_exit ?_
   refine exit_here (W_seq (W_sg 2 kr (L_c rfl rfl kr (settle_n (((w9).ext T9).R) P9.n hn.2 hj9 hs9) ?_)))
   rintro v413 h413 ⟨e413, S413, C413, ro413, R413, Y413⟩
   dsimp only at e413 R413 Y413
   subst e413
   have NB := (T9).nx
   have NY413 := Y413.sm.nx
   have w413 := ((w9).ext T9).go Y413 R413
   have T413 : Sm Nix h413 h413 := .refl
   refine L_g 1 kr (L_nil ?_)
   refine W_cond false kr (fun e => by cases e) (fun _ => ?_)
   refine W_skip (W_sg 1 kr (L_ln _ rfl rfl kr (Sd.len (P := Try.prog) (T := 22) (el := 32) kr ((((w413).ext T413).O).sd Hl)) (L_nwc (zrep l.length [.bool false]) (.sl l.length l.length) rfl rfl (ev_mkK (P := Try.prog) (k := 1) (el := 4) (z := .bool false) (by_ := 1) kr kr kr kr rfl (by omega) kr kr) fun h414 c414 t414 n414 => ?_)))
   have T414 := T413.ext t414
   have N414 := T414.nx
   rw [rg_const] at c414
   refine L_g 1 kr (L_nil (W_sg 1 kr (L_nil (W_seq (W_region (L_nw (Al.map) .mp rfl rfl kr ?_))))))
   have m415 : Mp (h414.push (Al.map).obj) h414.next k3 Eq ([] : List ((Int × Int × Int) × Value)) := Mp.new h414
   have t415 : Sm Nix h414 (h414.push (Al.map).obj) := .push h414 _
   have n415 : (h414.push (Al.map).obj).next = h414.next + 1 := rfl
   generalize h414.push (Al.map).obj = h415 at m415 t415 n415 ⊢
   replace c414 := c414.ext t415
   have T415 := T414.ext t415
   have N415 := T415.nx
   refine L_g 1 kr (L_nil (W_seq (W_sg 1 kr (L_ln _ rfl rfl kr (Sd.len (P := Try.prog) (T := 22) (el := 32) kr ((((w413).ext T415).O).sd Hl)) (L_g 1 kr (L_nil (W_block ?_)))))))
   refine W_loop (fun mm fr hh => ∃ (i : Nat) (W27 : Wd) (G27 : Gh) (om : List Mo) (vo : Value) (lm : List ((Int × Int × Int) × Value)) (vt : Value) (vm : Value), mm = l.length - i ∧ (i ≤ l.length) ∧ (Ts (⟨n, (E : Int), 1, (c : Int)⟩ : Mt.Ct) (spW n l) no l.length W (un1 (spW n l) i) W27) ∧ (∀ r, r ∈ om → ∃ j, j < i ∧ l[j]? = some r ∧ r.snd = false ∧ (gw Γ (spW n l)) j = none) ∧ (∀ key v, kget lm key = some v → ∃ b j : Nat, v = nv (b : Int) ∧ j < i ∧ (gw Γ (spW n l)) j = some b ∧ key = ((((spW n l) b).p : Int), (((spW n l) j).p : Int), ((spW n l) b).tag)) ∧ (om.length ≤ i) ∧ (W4 h W27 G27 vr (.cl (rg (fun j => nk (no j)) l.length)) vt (.cl (rg (fun j => Value.bool (tb (gw Γ (spW n l)) i j)) l.length)) vo (.gr 6 om.length (om.flatMap mo6)) vm (.m3 lm) hh) ∧ fr 3 = sv ∧ fr 11 = nv (n : Int) ∧ fr 12 = ptr (G27.B .wd) ∧ fr 14 = vr ∧ fr 19 = vt ∧ fr 20 = vo ∧ fr 21 = vm ∧ fr 144 = sv ∧ fr 145 = nv (l.length : Int) ∧ fr 146 = nv (i : Int)) (l.length) ?_ ?_
   ·
    have w8 := W4.up1 (w413) (v := .slice (some ⟨h413.next, 0, none⟩) l.length l.length) (x := (.cl (rg (fun j => Value.bool (tb (gw Γ (spW n l)) 0 j)) l.length))) ⟨_, by rw [rg_len], c414⟩ ((T415).mono fun _ x => (show False from x).elim) (fun b hb => .inr (by have e9 : h413.next = b := Option.some.inj hb; omega))
    have w8b := W4.up2 w8 (v := (.slice none 0 0)) (x := .gr 6 0 []) Gr.nil .refl (fun b hb => by cases hb)
    have lw8 := c414.lt
    have w8c := W4.add3 w8b (x := .m3 []) ⟨_, rfl, m415⟩ (fun b hb => by
     have e9 : h414.next = b := Option.some.inj hb
     subst e9
     exact ⟨Nat.le_trans ((w413).O.sm.nx) (by omega), (w413).R.op.new (by omega), (w413).R.op.newr (by omega), fun hv => by have := Wx.lt (w413) (k := 0) (fun e => by cases e) hv; omega, fun hv => by have e8 : h413.next = h414.next := Option.some.inj hv; omega, fun hv => by cases hv⟩)
    exact ⟨0, _, _, [], _, [], _, _, rfl, Nat.zero_le _, ((PL.ts Q).mono (fun _ _ _ => trivial)), (fun r hr => by cases hr), (fun key v h => by cases h), Nat.zero_le _, w8c, kr, kr, kr, kr, kr, kr, kr, kr, kr, kr⟩
   rintro mm fr hh27 ⟨i, W27, G27, om, vo, lm, vt, vm, hm27, hi, U27, hO, hL, hol, w27, y273, y2711, y2712, y2714, y2719, y2720, y2721, y27144, y27145, y27146⟩
   refine W_set (k := 3) y273 (W_set (k := 11) y2711 (W_set (k := 12) y2712 (W_set (k := 14) y2714 (W_set (k := 19) y2719 (W_set (k := 20) y2720 (W_set (k := 21) y2721 (W_set (k := 144) y27144 (W_set (k := 145) y27145 (W_set (k := 146) y27146 ?_)))))))))
   have T27 : Sm Nix hh27 hh27 := .refl
   refine W_seq (W_region (L_i ((i : Int)) ((l.length : Int)) (.bool (decide ((i : Int) < (l.length : Int)))) rfl rfl kr kr rfl (rfl) (L_nil (W_seq ?_))))
   refine W_cond (decide ((i : Int) < (l.length : Int))) kr (fun hb => ?_) (fun hb => ?_)
   ·
    have hlt : i < l.length := by simp at hb; omega
    obtain ⟨m, hm⟩ : ∃ m, l[i]? = some m := ⟨_, List.getElem?_eq_getElem hlt⟩
    have hmo := hl m (List.mem_of_getElem? hm)
    obtain ⟨b9, o9, i9, l9, -, -⟩ := el_mo (w27.O.sd Hl) hm
    have hpn : (m.p % n) < n := Nat.mod_lt _ hn.1
    have hp9 : (spW n l i).p = m.p % n := spW_p hm
    refine W_skip (W_seq (W_block (W_sg 1 kr (L_ix _ rfl rfl kr kr (i9) (L_ld _ rfl rfl kr (l9) (L_nwc [.int .u8 0, .int .u8 0, .bool false, .int .i8 0, .int .u8 0, .bool false] .ptr rfl rfl kr fun h416 c416 t416 n416 => ?_))))))
    have T416 := T27.ext t416
    have N416 := T416.nx
    have a23 := Ap.new ((w27).ext T27)
    refine L_g 1 kr ?_
    obtain ⟨h417, e417, d417, t417, n417⟩ := c416.sA 32 [.int .u8 (m.p : Int), .int .u8 (m.q : Int), .bool m.snd, .int .i8 m.tag, .int .u8 (m.size : Int), .bool m.sync]
    replace c416 := d417
    have T417 := T416.tr t417
    have N417 := T417.nx
    refine L_st _ rfl rfl rfl kr kr (e417) (L_nil (W_seq (W_sg 1 kr (L_ld _ rfl rfl kr (c416.ld (o := 2) kr rfl) (L_nil ?_)))))
    refine W_cond (m.snd) kr (fun hb => ?_) (fun hb => ?_)
    ·
     have hms : m.snd = true := hb
     have hgw : (gw Γ (spW n l)) i = none := gw_s (by rw [spW_send hm]; exact hms)
     refine W_exit ?_
     repeat with_reducible refine then_exit ?_
     refine exit_here (W_region (L_i ((i : Int)) (1) (nv ((i + 1 : Nat) : Int)) rfl rfl kr kr rfl (inc_ok (by omega)) (L_g 1 kr (L_nil ?_))))
     exact ⟨l.length - (i + 1), by omega, i + 1, _, _, om, _, lm, vt, vm, rfl, by omega, (by first | exact (U27.mono (fun j _ hj => hj.imp id (fun e => by omega))) | (rw [← hp9]; exact (U27.mono (fun j _ hj => hj.imp id (fun e => by omega))))), (fun r hr => by obtain ⟨j, q1, q2⟩ := hO r hr; exact ⟨j, by omega, q2⟩), (fun key v hk => by obtain ⟨b, j, q1, q2, q3⟩ := hL key v hk; exact ⟨b, j, q1, by omega, q3⟩), (by omega), (by rw [tb_fun hgw]; exact ((w27).ext T417)), kr, kr, kr, kr, kr, kr, kr, kr, kr, kr⟩
    ·
     have hms : m.snd = false := hb
     have hsd : (spW n l i).send = false := by rw [spW_send hm]; exact hms
     obtain ⟨hq1, hq2⟩ := U27.rq i hlt (.inr (Nat.le_refl _))
     have hcl := U27.call hpn
     rw [hp9] at hq1 hq2
     refine W_skip (W_sg 1 kr (L_ld _ rfl rfl kr (c416.ld (o := 0) kr rfl) (L_p (nv (m.p : Int)) rfl (ev_conv (o := _) rfl kr (conv8 (hmo.p))) (L_g 1 kr (L_p (nv ((m.p % n : Nat) : Int)) rfl (ev_bin (o := _) rfl kr kr (rem_n hn)) (L_g 1 kr (L_nil (W_seq ?_))))))))
     rcases (show _ ∨ _ from PL.recvd Q hlt hsd) with ⟨hg, a1, a2, a3⟩ | ⟨x, hg, a1, a2, a4, a3, a5, a6⟩
     ·
      rw [hp9] at hg a1 a2 a3
      have hgw : (gw Γ (spW n l)) i = none := by rw [gw_r hsd, hp9]; exact hg
      refine W_region (L_g 4 kr ?_)
      obtain ⟨bwR, ewR, lwR, iwR, vwR⟩ := AtX.row (T := 29) (el := 3) (i := i) kr kr kr (W4.a0 ((w27).ext T417)) hlt
      refine L_ix _ rfl rfl kr kr (iwR) (L_ld _ rfl rfl kr (vwR) (L_c rfl rfl kr (test_not (p := (m.p % n)) (no := (no i)) (((w27).ext T417).R) (by rw [U27.n]; exact hpn) hq2 (by rw [hq1]; exact a1) hcl (by rw [hq1]; exact a2)) ?_))
      rintro v418 h418 ⟨e418, S418, C418, ro418, R418, Y418⟩
      dsimp only at e418 R418 Y418
      subst e418
      have NB := (T417).nx
      have NY418 := Y418.sm.nx
      have l23 := c416.lt
      replace c416 := c416.sm Y418.sm a23.mu
      replace a23 := a23.go Y418 l23
      have w418 := ((w27).ext T417).go Y418 R418
      replace c416 := c416
      have T418 : Sm Nix h418 h418 := .refl
      refine L_g 5 kr (L_nwc [nv 0, nv 0, nv 0, nv 0] .ptr rfl rfl kr fun h419 c419 t419 n419 => ?_)
      replace c416 := c416.ext t419
      have T419 := T418.ext t419
      have N419 := T419.nx
      obtain ⟨h420, e420, d420, t420, n420⟩ := c419.sA 43 [nv 0, nv 0, nv 0, nv 0]
      replace c416 := c416.sn t420
      replace c419 := d420
      have T420 := T419.tr t420
      have N420 := T420.nx
      refine L_st _ rfl rfl rfl kr kr (e420) (L_g 3 kr (L_nil (W_seq (W_sg 2 kr (L_nil ?_)))))
      refine W_cond false kr (fun e => by cases e) (fun _ => ?_)
      refine W_skip (W_seq (W_sg 2 kr (L_nil ?_)))
      refine W_cond true kr (fun _ => ?_) (fun e => by cases e)
      refine W_sg 1 kr (L_ld _ rfl rfl kr (Cl.allN (n := 6) c416 rfl kr) (L_nwc [.int .u8 (m.p : Int), .int .u8 (m.q : Int), .bool m.snd, .int .i8 m.tag, .int .u8 (m.size : Int), .bool m.sync] (.sl 1 1) rfl rfl kr fun h421 c421 t421 n421 => ?_))
      replace c416 := c416.ext t421
      replace c419 := c419.ext t421
      have T421 := T420.ext t421
      have N421 := T421.nx
      obtain ⟨v422, h422, e422, g422, t422, f422⟩ := Gr.append (P := Try.prog) (sT := 22) (xT := 22) (el := 32) (by_ := 6) (z := .agg ⟨[.int .u8 0, .int .u8 0, .bool false, .int .i8 0, .int .u8 0, .bool false]⟩) (m := 1) (ds := mo6 m) kr kr kr kr kr rfl (by decide) (W4.a2 ((w418).ext T421)) (Cl.sd3 (n := 1) (k := 6) c421 rfl) (List.all_eq_true.1 rfl) (by omega)
      rw [show om.flatMap mo6 ++ mo6 m = (om ++ [m]).flatMap mo6 by rw [List.flatMap_append]; simp, show om.length + 1 = (om ++ [m]).length by simp] at g422
      refine L_bi v422 h422 rfl rfl kr (vs := [vo, .slice (some ⟨h420.next, 0, none⟩) 1 1]) kr (bi_append e422) ?_
      replace c416 := c416
      replace c419 := c419
      replace c421 := c421
      have T422 : Sm Nix h422 h422 := .refl
      have w422 := W4.up2 ((w418).ext T421) (x := .gr 6 (om ++ [m]).length ((om ++ [m]).flatMap mo6)) g422 (t422.mono fun b hb => ⟨(fun e => by cases e), vb_vbx hb⟩) (fun b hb => (f422 b (vbx_sl (by obtain ⟨a, c, e⟩ := g422.sd.form; exact ⟨a, _, c, e⟩) hb)).imp (fun e => ⟨(fun e => by cases e), vb_vbx e⟩) id)
      refine L_g 1 kr (L_nil (W_exit ?_))
      repeat with_reducible refine then_exit ?_
      refine exit_here (W_region (L_i ((i : Int)) (1) (nv ((i + 1 : Nat) : Int)) rfl rfl kr kr rfl (inc_ok (by omega)) (L_g 1 kr (L_nil ?_))))
      exact ⟨l.length - (i + 1), by omega, i + 1, _, _, (om ++ [m]), _, lm, vt, vm, rfl, by omega, (by first | exact (U27.mono (fun j _ hj => hj.imp id (fun e => by omega))) | (rw [← hp9]; exact (U27.mono (fun j _ hj => hj.imp id (fun e => by omega))))), (fun r hr => by
       rcases List.mem_append.1 hr with hr | hr
       · obtain ⟨j, q1, q2⟩ := hO r hr; exact ⟨j, by omega, q2⟩
       · obtain rfl := List.mem_singleton.1 hr; exact ⟨i, by omega, hm, hms, hgw⟩), (fun key v hk => by obtain ⟨b, j, q1, q2, q3⟩ := hL key v hk; exact ⟨b, j, q1, by omega, q3⟩), (by simp; omega), (by rw [tb_fun hgw]; exact ((w422).ext T422)), kr, kr, kr, kr, kr, kr, kr, kr, kr, kr⟩
     ·
      have hgw : (gw Γ (spW n l)) i = some x := by rw [gw_r hsd]; exact hg
      obtain ⟨hx, hxs, hxt, -, -, -, -, hxg⟩ := PL.gotm hg
      obtain ⟨mx, hmx⟩ : ∃ mx, l[x]? = some mx := ⟨_, List.getElem?_eq_getElem hx⟩
      have hxo := hl mx (List.mem_of_getElem? hmx)
      have hxm : mx.snd = true := by rw [← spW_send hmx]; exact hxs
      have hqp : mx.q % n = m.p % n := by
       rw [spW_s hmx hxm] at hxt
       exact (Int.toNat_natCast _).symm.trans (hxt.trans hp9)
      have hxq : tgO mx = tgO m := by
       rw [spW_tag hm, spW_tag hmx] at hxg
       have := (tgO_r m).1
       rcases hxg with e | e
       · omega
       · exact e.symm
      have htf := PL.first hgw
      rw [spW_s hmx hxm] at a5 a6
      dsimp only at a5 a6
      rw [hp9] at a1 a2 a3 a4 a5 a6
      refine W_region (L_g 4 kr ?_)
      obtain ⟨bwR, ewR, lwR, iwR, vwR⟩ := AtX.row (T := 29) (el := 3) (i := i) kr kr kr (W4.a0 ((w27).ext T417)) hlt
      refine L_ix _ rfl rfl kr kr (iwR) (L_ld _ rfl rfl kr (vwR) (L_c rfl rfl kr (test_recv (p := (m.p % n)) (no := (no i)) (((w27).ext T417).R) (by rw [U27.n]; exact hpn) hq2 (by rw [hq1]; exact a1) hcl (by rw [hq1]; exact a2) (by rw [hq1]; exact a4) (by rw [hq1, a5]; show 1 < big; decide)) ?_))
      rintro v423 h423 ⟨vd, e423, HD, hlo, S423, C423, ro423, R423, Y423⟩
      dsimp only at e423 R423 Y423
      dsimp only at HD
      rw [hq1, a6] at e423
      rw [hq1, a5] at HD
      subst e423
      have NB := (T417).nx
      have NY423 := Y423.sm.nx
      have l23 := c416.lt
      replace c416 := c416.sm Y423.sm a23.mu
      replace a23 := a23.go Y423 l23
      have w423 := ((w27).ext T417).go Y423 R423
      have HL : ∀ b, vb vd = some b → b < h423.next := fun b hb => HD.lt hb
      replace c416 := c416
      have T423 : Sm Nix h423 h423 := .refl
      refine L_g 5 kr (L_nwc [nv 0, nv 0, nv 0, nv 0] .ptr rfl rfl kr fun h424 c424 t424 n424 => ?_)
      replace c416 := c416.ext t424
      have T424 := T423.ext t424
      have N424 := T424.nx
      replace HD := HD.ext t424
      obtain ⟨h425, e425, d425, t425, n425⟩ := c424.sA 43 [nv (((mx.p % n : Nat) : Nat) : Int), nv (tgO mx), nv 1, nv 0]
      replace c416 := c416.sn t425
      replace c424 := d425
      have T425 := T424.tr t425
      have N425 := T425.nx
      refine L_st _ rfl rfl rfl kr kr (e425) ?_
      replace HD := HD.sm t425 (fun b hb e => by have := HL b hb; have e9 : b = h423.next := e; omega)
      refine L_g 3 kr (L_nil (W_seq (W_sg 2 kr (L_nil ?_))))
      refine W_cond false kr (fun e => by cases e) (fun _ => ?_)
      refine W_skip (W_seq (W_sg 2 kr (L_nil ?_)))
      refine W_cond false kr (fun e => by cases e) (fun _ => ?_)
      refine W_skip (W_seq (W_seq (W_region (L_g 1 kr ?_))))
      obtain ⟨b8, o8, i8, l8⟩ := el_rb (by omega) HD
      refine L_ln _ rfl rfl kr (len_by HD) (L_i (1) (1) (.bool false) rfl rfl kr kr rfl (by first | (simp; done) | (simp; omega)) (L_g 2 kr (L_want kr (L_ix _ rfl rfl kr kr (i8) (L_want kr (L_ld _ rfl rfl kr (l8) (L_want kr (L_p (nv (x : Int)) rfl (ev_conv (o := _) rfl kr (conv8 (by omega))) (L_g 1 kr (L_want kr (L_ln _ rfl rfl kr (Sd.len (P := Try.prog) (T := 22) (el := 32) kr ((((w423).ext T425).O).sd Hl)) ?_)))))))))))
      refine L_want kr (L_i ((x : Int)) ((l.length : Int)) (.bool false) rfl rfl kr kr rfl (by simp; omega) (L_g 1 kr (L_nil ?_)))
      refine W_cond false kr (fun e => by cases e) (fun _ => ?_)
      refine W_skip (W_sg 1 kr (L_ix _ rfl rfl kr kr (i8) (L_ld _ rfl rfl kr (l8) (L_p (nv (x : Int)) rfl (ev_conv (o := _) rfl kr (conv8 (by omega))) (L_g 1 kr (L_nil (W_seq (W_region (L_g 2 kr ?_)))))))))
      obtain ⟨b7, o7, i7, l7, -, -⟩ := el_mo (((w423).ext T425).O.sd Hl) hmx
      refine L_ix _ rfl rfl kr kr (i7) (L_ld _ rfl rfl kr (l7) (L_nwc [.int .u8 0, .int .u8 0, .bool false, .int .i8 0, .int .u8 0, .bool false] .ptr rfl rfl kr fun h426 c426 t426 n426 => ?_))
      replace c416 := c416.ext t426
      replace c424 := c424.ext t426
      have T426 := T425.ext t426
      have N426 := T426.nx
      obtain ⟨h427, e427, d427, t427, n427⟩ := c426.sA 32 [.int .u8 (mx.p : Int), .int .u8 (mx.q : Int), .bool mx.snd, .int .i8 mx.tag, .int .u8 (mx.size : Int), .bool mx.sync]
      replace c416 := c416.sn t427
      replace c424 := c424.sn t427
      replace c426 := d427
      have T427 := T426.tr t427
      have N427 := T427.nx
      refine L_st _ rfl rfl rfl kr kr (e427) ?_
      rw [hxm] at c426
      refine L_nil (W_seq (W_drawn kr (D_e (e := 7) (l := [0,1,2,3,4,5,6,9]) (s' := [0,1,2,3,4,5,9]) kr kr rfl kr Rk_nil (NS_b 1 kr (NS_ld _ rfl rfl kr kr kr (c426.ld (o := 0) kr rfl) (NS_v (nv (mx.p : Int)) rfl kr rfl kr (ev_conv (o := _) rfl kr (conv8 (hxo.p))) (NS_b 1 kr (NS_v (nv ((mx.p % n : Nat) : Int)) rfl kr rfl kr (ev_bin (o := _) rfl kr kr (rem_n hn)) (NS_b 1 kr (NS_ld _ rfl rfl kr kr kr (Cl.allN (n := 6) c426 rfl kr) (NS_nwc [nv 0, nv 0, nv 0] .ptr rfl kr rfl rfl kr (Rk_1 rfl rfl (Rk_ld _ rfl rfl rfl kr ((c426.ext (.push h427 _)).ld (o := 0) kr rfl) kr (Rk_v (v := (nv (mx.p : Int))) rfl rfl (ev_conv (o := _) rfl kr (conv8 (hxo.p))) kr (Rk_1 rfl rfl (Rk_v (v := (nv ((mx.p % n : Nat) : Int))) rfl rfl (ev_bin (o := _) rfl kr kr (rem_n hn)) kr (Rk_1 rfl rfl (Rk_ld _ rfl rfl rfl kr (Cl.allN (n := 6) (c426.ext (.push h427 _)) rfl kr) kr (Rk_1 rfl rfl Rk_nil)))))))) fun h428 c428 t428 n428 => ?_)))))))))))
      replace c416 := c416.ext t428
      replace c424 := c424.ext t428
      replace c426 := c426.ext t428
      have T428 := T427.ext t428
      have N428 := T428.nx
      refine NS_nil (L_c rfl rfl kr (tagOf_ok (m := { mx with snd := true }) ⟨hxo.p, hxo.q, hxo.t0, hxo.t1, hxo.s⟩) ?_)
      rintro v429 h429 ⟨e429, t429⟩
      try dsimp only at e429
      try dsimp only at t429
      subst e429
      replace c416 := c416.ext t429
      replace c424 := c424.ext t429
      replace c426 := c426.ext t429
      replace c428 := c428.ext t429
      have T429 := T428.ext t429
      have N429 := T429.nx
      have M429 := t429.nx
      refine L_nil ⟨rfl, ?_⟩
      refine D_e (e := 10) (l := [8]) (s' := []) kr kr rfl kr (Rk_1 rfl rfl (Rk_ld _ rfl rfl rfl kr (c426.ld (o := 0) kr rfl) kr (Rk_v (v := (nv (mx.p : Int))) rfl rfl (ev_conv (o := _) rfl kr (conv8 (hxo.p))) kr (Rk_1 rfl rfl (Rk_v (v := (nv ((mx.p % n : Nat) : Int))) rfl rfl (ev_bin (o := _) rfl kr kr (rem_n hn)) kr (Rk_1 rfl rfl (Rk_1 rfl rfl Rk_nil))))))) (NS_b 1 kr (NS_nil ?_))
      obtain ⟨h430, e430, d430, t430, n430⟩ := c428.sA 46 [nv ((mx.p % n : Nat) : Int), nv ((m.p % n : Nat) : Int), nv (tgO mx)]
      replace c416 := c416.sn t430
      replace c424 := c424.sn t430
      replace c426 := c426.sn t430
      replace c428 := d430
      have T430 := T429.tr t430
      have N430 := T430.nx
      refine L_st _ rfl rfl rfl kr kr (e430) ?_
      refine L_nil ⟨rfl, ?_⟩
      refine D_l (l := []) kr kr Rk_nil (NS_nil (W_seq (W_seq (W_drawn kr (D_e (e := 20) (l := [0,1,2,3,4,5,6,7,8,9,10,11,12,13,14,15,16,17,18,19,21]) (s' := [21]) kr kr rfl kr Rk_nil (NS_b 1 kr (NS_ld _ rfl rfl kr kr kr (c426.ld (o := 2) kr rfl) (NS_b 4 kr ?_))))))))
      obtain ⟨bwT, ewT, lwT, iwT, vwT⟩ := AtX.row (T := 40) (el := 4) (i := x) kr kr kr (W4.a1 ((w423).ext T430)) hx
      rw [htf] at vwT
      refine NS_ix _ rfl rfl kr kr kr kr (iwT) (NS_ld _ rfl rfl kr kr kr (vwT) (NS_b 3 kr (NS_ld _ rfl rfl kr kr kr (c426.ld (o := 1) kr rfl) (NS_v (nv (mx.q : Int)) rfl kr rfl kr (ev_conv (o := _) rfl kr (conv8 (hxo.q))) (NS_b 1 kr (NS_v (nv ((mx.q % n : Nat) : Int)) rfl kr rfl kr (ev_bin (o := _) rfl kr kr (rem_n hn)) (NS_b 1 kr (NS_i (((mx.q % n : Nat) : Int)) (((m.p % n : Nat) : Int)) (.bool false) rfl rfl kr kr kr kr rfl (by simp; omega) (NS_b 2 kr (NS_ld _ rfl rfl kr kr kr (Cl.allN (n := 6) c426 rfl kr) (NS_ld _ rfl rfl kr kr kr (Cl.allN (n := 6) c416 rfl kr) ?_)))))))))))
      refine NS_nil (L_want kr (L_c rfl rfl kr (tagOf_ok (m := { mx with snd := true }) ⟨hxo.p, hxo.q, hxo.t0, hxo.t1, hxo.s⟩) ?_))
      rintro v431 h431 ⟨e431, t431⟩
      try dsimp only at e431
      try dsimp only at t431
      subst e431
      replace c416 := c416.ext t431
      replace c424 := c424.ext t431
      replace c426 := c426.ext t431
      replace c428 := c428.ext t431
      have T431 := T430.ext t431
      have N431 := T431.nx
      have M431 := t431.nx
      refine L_nil ⟨rfl, ?_⟩
      refine D_e (e := 22) (l := []) (s' := []) kr kr rfl kr (Rk_ld _ rfl rfl rfl kr (Cl.allN (n := 6) c416 rfl kr) kr Rk_nil) (NS_nil (L_want kr (L_c rfl rfl kr (tagOf_ok hmo) ?_)))
      rintro v432 h432 ⟨e432, t432⟩
      try dsimp only at e432
      try dsimp only at t432
      subst e432
      replace c416 := c416.ext t432
      replace c424 := c424.ext t432
      replace c426 := c426.ext t432
      replace c428 := c428.ext t432
      have T432 := T431.ext t432
      have N432 := T432.nx
      have M432 := t432.nx
      refine L_nil ⟨rfl, ?_⟩
      refine D_l (l := [23,24,25,26,27,28,29,30,31,32,33]) kr kr Rk_nil (NS_i ((tgO mx)) ((tgO m)) (.bool false) rfl rfl kr kr kr kr rfl (by simp [hxq]) (NS_b 2 kr (NS_ld _ rfl rfl kr kr kr (Cl.allN (n := 4) c424 rfl kr) (NS_ix _ rfl rfl kr kr kr kr (ix_a3 (b := h427.next) 0 (by decide)) (NS_ld _ rfl rfl kr kr kr (c428.ld (o := 0) kr rfl) (NS_ix _ rfl rfl kr kr kr kr (ix_a3 (b := h427.next) 2 (by decide)) (NS_ld _ rfl rfl kr kr kr (c428.ld (o := 2) kr rfl) (NS_b 1 kr (NS_v (.bool false) rfl kr rfl kr (ev_bin (o := _) rfl kr kr (neq_st ⟨((mx.p % n : Nat) : Int), tgO mx, 1, 0⟩ _ _ _)) (NS_b 1 kr (NS_nil ?_)))))))))))
      refine W_cond false kr (fun e => by cases e) (fun _ => ?_)
      refine W_skip (W_seq (W_seq ?_))
      rcases look3 (W4.a3 ((w423).ext T432)) (((mx.p % n : Nat) : Int), ((m.p % n : Nat) : Int), tgO mx) with ⟨hk9, lk9⟩ | ⟨vv9, hk9, lk9⟩
      ·
       refine W_rg 1 kr (L_ld _ rfl rfl kr (Cl.allN (n := 3) c428 rfl kr) (L_lk _ rfl rfl kr kr (lk9) (L_g 5 kr (L_nil (W_sg 6 kr (L_nil ?_))))))
       refine W_cond false kr (fun e => by cases e) (fun _ => ?_)
       refine W_skip (W_drawn kr (D_e (e := 6) (l := [0,1,2,3,4,5]) (s' := [2,3,4]) kr kr rfl kr Rk_nil (NS_b 3 kr (NS_ld _ rfl rfl kr kr kr (Cl.allN (n := 3) c428 rfl kr) (NS_b 1 kr ?_)))))
       obtain ⟨bwU, ewU, lwU, iwU, vwU⟩ := AtX.row (T := 40) (el := 4) (i := x) kr kr kr (W4.a1 ((w423).ext T432)) hx
       refine NS_ix _ rfl rfl kr kr kr kr (iwU) (NS_nil ?_)
       obtain ⟨h433, e433, A433, t433, n433⟩ := AtX.put (el := 4) (x := .bool true) kr rfl rfl (W4.a1 ((w423).ext T432)) hx bwU ewU
       rw [ups_tb hgw] at A433
       have lbt := Wx.lt (w423) (k := 1) (fun e => by cases e) (show vbx vt = some bwU by rw [ewU]; rfl)
       refine L_st _ rfl rfl rfl kr kr (e433) ?_
       have w433 := W4.up1 ((w423).ext T432) A433 (t433.mono fun c hc => ⟨(fun e => by cases e), by rw [ewU, hc]; rfl⟩) (fun b hb => .inl ⟨(fun e => by cases e), hb⟩)
       replace c428 := c428.sn t433
       replace c416 := c416
       replace c424 := c424
       replace c426 := c426
       replace c428 := c428
       have T433 : Sm Nix h433 h433 := .refl
       refine L_nil ⟨rfl, ?_⟩
       refine D_e (e := 7) (l := []) (s' := []) kr kr rfl kr (Rk_1 rfl rfl (Rk_ld _ rfl rfl rfl kr (Cl.allN (n := 3) c428 rfl kr) kr (Rk_1 rfl rfl Rk_nil))) (NS_nil ?_)
       obtain ⟨h434, bm, e434, m434, v434, t434⟩ := upd3 (x := nv (x : Int)) (((mx.p % n : Nat) : Int), ((m.p % n : Nat) : Int), tgO mx) (W4.a3 ((w433).ext T433))
       refine L_mu _ rfl rfl rfl kr kr kr (e434) ?_
       have w434 := W4.up3 ((w433).ext T433) m434 (t434.mono fun c hc => ⟨(fun e => by cases e), by rw [hc]; exact v434⟩) (fun b hb => .inl ⟨(fun e => by cases e), hb⟩)
       replace c428 := c428
       have T434 : Sm Nix h434 h434 := .refl
       refine L_nil ⟨rfl, ?_⟩
       refine D_l (l := []) kr kr Rk_nil (NS_nil (W_region (L_i ((i : Int)) (1) (nv ((i + 1 : Nat) : Int)) rfl rfl kr kr rfl (inc_ok (by omega)) (L_g 1 kr (L_nil ?_)))))
       exact ⟨l.length - (i + 1), by omega, i + 1, _, _, om, _, (kset lm (((mx.p % n : Nat) : Int), ((m.p % n : Nat) : Int), tgO mx) (nv (x : Int))), vt, vm, rfl, by omega, (by first | exact ((Ts.over PL U27 hlt (by rw [hp9, hq1]; exact a3)).mono (fun j _ hj => ⟨hj.imp id (fun e => by omega), fun e => by subst e; rcases hj with e | e; rw [hsd] at e; cases e; omega⟩)) | (rw [← hp9]; exact ((Ts.over PL U27 hlt (by rw [hp9, hq1]; exact a3)).mono (fun j _ hj => ⟨hj.imp id (fun e => by omega), fun e => by subst e; rcases hj with e | e; rw [hsd] at e; cases e; omega⟩)))), (fun r hr => by obtain ⟨j, q1, q2⟩ := hO r hr; exact ⟨j, by omega, q2⟩), (hL_set hL hgw (by rw [spW_p hmx, spW_tag hmx, hp9])), (by omega), ((w434).ext T434), kr, kr, kr, kr, kr, kr, kr, kr, kr, kr⟩
      ·
       obtain ⟨bb, jj, rfl, hji, hgj, hkk⟩ := hL _ _ hk9
       have hbx : bb < x := by
         have e1 := congrArg Prod.fst hkk
         have e2 := congrArg (fun z : Int × Int × Int => z.2.1) hkk
         have e3 := congrArg (fun z : Int × Int × Int => z.2.2) hkk
         dsimp only at e1 e2 e3
         refine PL.later Q spW_r2 hgj hgw hji ?_ ?_ ?_
         · rw [spW_p hmx]; omega
         · rw [hp9]; omega
         · rw [spW_tag hmx]; exact e3.symm
       refine W_rg 1 kr (L_ld _ rfl rfl kr (Cl.allN (n := 3) c428 rfl kr) (L_lk _ rfl rfl kr kr (lk9) (L_g 5 kr (L_nil (W_sg 4 kr (L_want kr (L_i ((bb : Int)) ((x : Int)) (.bool false) rfl rfl kr kr rfl (by simp; omega) (L_g 1 kr ?_))))))))
       refine L_nil ?_
       refine W_cond false kr (fun e => by cases e) (fun _ => ?_)
       refine W_skip (W_drawn kr (D_e (e := 6) (l := [0,1,2,3,4,5]) (s' := [2,3,4]) kr kr rfl kr Rk_nil (NS_b 3 kr (NS_ld _ rfl rfl kr kr kr (Cl.allN (n := 3) c428 rfl kr) (NS_b 1 kr ?_)))))
       obtain ⟨bwU, ewU, lwU, iwU, vwU⟩ := AtX.row (T := 40) (el := 4) (i := x) kr kr kr (W4.a1 ((w423).ext T432)) hx
       refine NS_ix _ rfl rfl kr kr kr kr (iwU) (NS_nil ?_)
       obtain ⟨h435, e435, A435, t435, n435⟩ := AtX.put (el := 4) (x := .bool true) kr rfl rfl (W4.a1 ((w423).ext T432)) hx bwU ewU
       rw [ups_tb hgw] at A435
       have lbt := Wx.lt (w423) (k := 1) (fun e => by cases e) (show vbx vt = some bwU by rw [ewU]; rfl)
       refine L_st _ rfl rfl rfl kr kr (e435) ?_
       have w435 := W4.up1 ((w423).ext T432) A435 (t435.mono fun c hc => ⟨(fun e => by cases e), by rw [ewU, hc]; rfl⟩) (fun b hb => .inl ⟨(fun e => by cases e), hb⟩)
       replace c428 := c428.sn t435
       replace c416 := c416
       replace c424 := c424
       replace c426 := c426
       replace c428 := c428
       have T435 : Sm Nix h435 h435 := .refl
       refine L_nil ⟨rfl, ?_⟩
       refine D_e (e := 7) (l := []) (s' := []) kr kr rfl kr (Rk_1 rfl rfl (Rk_ld _ rfl rfl rfl kr (Cl.allN (n := 3) c428 rfl kr) kr (Rk_1 rfl rfl Rk_nil))) (NS_nil ?_)
       obtain ⟨h436, bm, e436, m436, v436, t436⟩ := upd3 (x := nv (x : Int)) (((mx.p % n : Nat) : Int), ((m.p % n : Nat) : Int), tgO mx) (W4.a3 ((w435).ext T435))
       refine L_mu _ rfl rfl rfl kr kr kr (e436) ?_
       have w436 := W4.up3 ((w435).ext T435) m436 (t436.mono fun c hc => ⟨(fun e => by cases e), by rw [hc]; exact v436⟩) (fun b hb => .inl ⟨(fun e => by cases e), hb⟩)
       replace c428 := c428
       have T436 : Sm Nix h436 h436 := .refl
       refine L_nil ⟨rfl, ?_⟩
       refine D_l (l := []) kr kr Rk_nil (NS_nil (W_region (L_i ((i : Int)) (1) (nv ((i + 1 : Nat) : Int)) rfl rfl kr kr rfl (inc_ok (by omega)) (L_g 1 kr (L_nil ?_)))))
       exact ⟨l.length - (i + 1), by omega, i + 1, _, _, om, _, (kset lm (((mx.p % n : Nat) : Int), ((m.p % n : Nat) : Int), tgO mx) (nv (x : Int))), vt, vm, rfl, by omega, (by first | exact ((Ts.over PL U27 hlt (by rw [hp9, hq1]; exact a3)).mono (fun j _ hj => ⟨hj.imp id (fun e => by omega), fun e => by subst e; rcases hj with e | e; rw [hsd] at e; cases e; omega⟩)) | (rw [← hp9]; exact ((Ts.over PL U27 hlt (by rw [hp9, hq1]; exact a3)).mono (fun j _ hj => ⟨hj.imp id (fun e => by omega), fun e => by subst e; rcases hj with e | e; rw [hsd] at e; cases e; omega⟩)))), (fun r hr => by obtain ⟨j, q1, q2⟩ := hO r hr; exact ⟨j, by omega, q2⟩), (hL_set hL hgw (by rw [spW_p hmx, spW_tag hmx, hp9])), (by omega), ((w436).ext T436), kr, kr, kr, kr, kr, kr, kr, kr, kr, kr⟩
   ·
    have hge : i = l.length := by simp at hb; omega
    subst hge
    refine W_exit ?_
    repeat with_reducible refine then_exit ?_
    refine exit_here (W_seq (W_sg 1 kr (L_ln _ rfl rfl kr (Sd.len (P := Try.prog) (T := 22) (el := 32) kr ((((w27).ext T27).O).sd Hl)) (L_g 1 kr (L_nil (W_block ?_))))))
    refine W_loop (fun mm fr hh => ∃ (i : Nat), mm = l.length - i ∧ (i ≤ l.length) ∧ (W4 h W27 G27 vr (.cl (rg (fun j => nk (no j)) l.length)) vt (.cl (rg (fun j => Value.bool (tb (gw Γ (spW n l)) l.length j)) l.length)) vo (.gr 6 om.length (om.flatMap mo6)) vm (.m3 lm) hh) ∧ fr 3 = sv ∧ fr 11 = nv (n : Int) ∧ fr 19 = vt ∧ fr 20 = vo ∧ fr 260 = sv ∧ fr 261 = nv (l.length : Int) ∧ fr 262 = nv (i : Int)) (l.length) ?_ ?_
    ·
     exact ⟨0, rfl, Nat.zero_le _, ((w27).ext T27), kr, kr, kr, kr, kr, kr, kr⟩
    rintro mm fr hh49 ⟨i, hm49, hi, w49, y493, y4911, y4919, y4920, y49260, y49261, y49262⟩
    refine W_set (k := 3) y493 (W_set (k := 11) y4911 (W_set (k := 19) y4919 (W_set (k := 20) y4920 (W_set (k := 260) y49260 (W_set (k := 261) y49261 (W_set (k := 262) y49262 ?_))))))
    have T49 : Sm Nix hh49 hh49 := .refl
    refine W_seq (W_region (L_i ((i : Int)) ((l.length : Int)) (.bool (decide ((i : Int) < (l.length : Int)))) rfl rfl kr kr rfl (rfl) (L_nil (W_seq ?_))))
    refine W_cond (decide ((i : Int) < (l.length : Int))) kr (fun hb => ?_) (fun hb => ?_)
    ·
     have hlt : i < l.length := by simp at hb; omega
     obtain ⟨m, hm⟩ : ∃ m, l[i]? = some m := ⟨_, List.getElem?_eq_getElem hlt⟩
     have hmo := hl m (List.mem_of_getElem? hm)
     obtain ⟨b9, o9, i9, l9, -, -⟩ := el_mo (w49.O.sd Hl) hm
     refine W_skip (W_seq (W_block (W_sg 1 kr (L_ix _ rfl rfl kr kr (i9) (L_ld _ rfl rfl kr (l9) (L_nwc [.int .u8 0, .int .u8 0, .bool false, .int .i8 0, .int .u8 0, .bool false] .ptr rfl rfl kr fun h437 c437 t437 n437 => ?_))))))
     have T437 := T49.ext t437
     have N437 := T437.nx
     refine L_g 1 kr ?_
     obtain ⟨h438, e438, d438, t438, n438⟩ := c437.sA 32 [.int .u8 (m.p : Int), .int .u8 (m.q : Int), .bool m.snd, .int .i8 m.tag, .int .u8 (m.size : Int), .bool m.sync]
     replace c437 := d438
     have T438 := T437.tr t438
     have N438 := T438.nx
     refine L_st _ rfl rfl rfl kr kr (e438) (L_nil (W_seq (W_seq ?_)))
     rcases (show m.snd = false ∨ (m.snd = true ∧ tb (gw Γ (spW n l)) l.length i = true) ∨ (m.snd = true ∧ tb (gw Γ (spW n l)) l.length i = false) by cases m.snd <;> cases tb (gw Γ (spW n l)) l.length i <;> simp) with hms | ⟨hms, htb⟩ | ⟨hms, htb⟩
     ·
      rw [hms] at c437
      refine W_rg 1 kr (L_ld _ rfl rfl kr (c437.ld (o := 2) kr rfl) (L_g 7 kr (L_nil ?_)))
      refine W_cond true kr (fun _ => ?_) (fun e => by cases e)
      refine W_exit ?_
      repeat with_reducible refine then_exit ?_
      refine exit_here (W_region (L_i ((i : Int)) (1) (nv ((i + 1 : Nat) : Int)) rfl rfl kr kr rfl (inc_ok (by omega)) (L_g 1 kr (L_nil ?_))))
      exact ⟨l.length - (i + 1), by omega, i + 1, rfl, by omega, ((w49).ext T438), kr, kr, kr, kr, kr, kr, kr⟩
     ·
      rw [hms] at c437
      obtain ⟨bwT, ewT, lwT, iwT, vwT⟩ := AtX.row (T := 40) (el := 4) (i := i) kr kr kr (W4.a1 ((w49).ext T438)) hlt
      rw [htb] at vwT
      refine W_rg 1 kr (L_ld _ rfl rfl kr (c437.ld (o := 2) kr rfl) (L_g 4 kr (L_want kr (L_ix _ rfl rfl kr kr (iwT) (L_want kr (L_ld _ rfl rfl kr (vwT) (L_g 1 kr (L_nil ?_))))))))
      refine W_cond true kr (fun _ => ?_) (fun e => by cases e)
      refine W_exit ?_
      repeat with_reducible refine then_exit ?_
      refine exit_here (W_region (L_i ((i : Int)) (1) (nv ((i + 1 : Nat) : Int)) rfl rfl kr kr rfl (inc_ok (by omega)) (L_g 1 kr (L_nil ?_))))
      exact ⟨l.length - (i + 1), by omega, i + 1, rfl, by omega, ((w49).ext T438), kr, kr, kr, kr, kr, kr, kr⟩
     ·
      rw [hms] at c437
      obtain ⟨bwT, ewT, lwT, iwT, vwT⟩ := AtX.row (T := 40) (el := 4) (i := i) kr kr kr (W4.a1 ((w49).ext T438)) hlt
      rw [htb] at vwT
      refine W_rg 1 kr (L_ld _ rfl rfl kr (c437.ld (o := 2) kr rfl) (L_g 4 kr (L_want kr (L_ix _ rfl rfl kr kr (iwT) (L_want kr (L_ld _ rfl rfl kr (vwT) (L_g 1 kr (L_nil ?_))))))))
      refine W_cond false kr (fun e => by cases e) (fun _ => ?_)
      refine W_skip (W_sg 1 kr (L_ln _ rfl rfl kr (Sd.len (P := Try.prog) (T := 22) (el := 32) kr (Gr.sd (W4.a2 ((w49).ext T438)))) (L_g 1 kr (L_nil (W_block ?_)))))
      refine W_loop (fun mm fr hh => ∃ (k : Nat), (k ≤ om.length) ∧ mm = om.length - k ∧ fr 3 = sv ∧ fr 11 = nv (n : Int) ∧ fr 19 = vt ∧ fr 20 = vo ∧ fr 260 = sv ∧ fr 261 = nv (l.length : Int) ∧ fr 262 = nv (i : Int) ∧ fr 35 = ptr (hh49.next) ∧ fr 276 = vo ∧ fr 277 = nv (om.length : Int) ∧ fr 278 = nv (k : Int) ∧ Sm Nix hh49 hh ∧ Cl hh (hh49.next) [.int .u8 (m.p : Int), .int .u8 (m.q : Int), .bool true, .int .i8 m.tag, .int .u8 (m.size : Int), .bool m.sync]) (om.length) ?_ ?_
      ·
       exact ⟨0, Nat.zero_le _, rfl, kr, kr, kr, kr, kr, kr, kr, kr, kr, kr, kr, T438, c437⟩
      rintro mm439 fr439 h439 ⟨k, hk, hm439, y439_3, y439_11, y439_19, y439_20, y439_260, y439_261, y439_262, y439_35, y439_276, y439_277, y439_278, T439, c437⟩
      have N439 := T439.nx
      have B439_t35 := c437.lt
      refine W_set (k := 3) y439_3 (W_set (k := 11) y439_11 (W_set (k := 19) y439_19 (W_set (k := 20) y439_20 (W_set (k := 260) y439_260 (W_set (k := 261) y439_261 (W_set (k := 262) y439_262 (W_set (k := 35) y439_35 (W_set (k := 276) y439_276 (W_set (k := 277) y439_277 (W_set (k := 278) y439_278 (W_seq ?_)))))))))))
      refine W_region (L_i ((k : Int)) ((om.length : Int)) (.bool (decide ((k : Int) < (om.length : Int)))) rfl rfl kr kr rfl (rfl) (L_nil (W_seq ?_)))
      refine W_cond (decide ((k : Int) < (om.length : Int))) kr (fun hb => ?_) (fun hb => ?_)
      ·
       have hko : k < om.length := by simp at hb; omega
       obtain ⟨r, hr⟩ : ∃ r, om[k]? = some r := ⟨_, List.getElem?_eq_getElem hko⟩
       obtain ⟨j, hj1, hj2, hj3, hj4⟩ := hO r (List.mem_of_getElem? hr)
       have hro := hl r (List.mem_of_getElem? hj2)
       obtain ⟨b7, o7, i7, l7, -, -⟩ := el_mo (Gr.sd (W4.a2 ((w49).ext T439))) hr
       have hneq : r.p % n = m.q % n → tgO r ≠ tgO m := fun e1 => by
         have := PL.none_left Q spW_r2 hlt (by rw [spW_send hm]; exact hms) hj1 (by rw [spW_send hj2]; exact hj3) (by rw [spW_p hj2, spW_s hm hms]; exact e1.trans (Int.toNat_natCast _).symm) htb hj4
         rw [spW_tag hj2, spW_tag hm] at this
         exact this
       refine W_skip (W_seq (W_block (W_seq (W_region (L_ix _ rfl rfl kr kr (i7) (L_ld _ rfl rfl kr (l7) (L_nwc [.int .u8 0, .int .u8 0, .bool false, .int .i8 0, .int .u8 0, .bool false] .ptr rfl rfl kr fun h440 c440 t440 n440 => ?_)))))))
       replace c437 := c437.ext t440
       have T440 := T439.ext t440
       have N440 := T440.nx
       obtain ⟨h441, e441, d441, t441, n441⟩ := c440.sA 32 [.int .u8 (r.p : Int), .int .u8 (r.q : Int), .bool r.snd, .int .i8 r.tag, .int .u8 (r.size : Int), .bool r.sync]
       replace c437 := c437.sn t441
       replace c440 := d441
       have T441 := T440.tr t441
       have N441 := T441.nx
       refine L_st _ rfl rfl rfl kr kr (e441) (L_nil (W_seq ?_))
       by_cases he9 : r.p % n = m.q % n
       ·
         refine W_drawn kr (D_e (e := 13) (l := [0,1,2,3,4,5,6,7,8,9,10,11,12,14]) (s' := [14]) kr kr rfl kr Rk_nil (NS_b 1 kr (NS_ld _ rfl rfl kr kr kr (c440.ld (o := 0) kr rfl) (NS_v (nv (r.p : Int)) rfl kr rfl kr (ev_conv (o := _) rfl kr (conv8 (hro.p))) (NS_b 1 kr (NS_v (nv ((r.p % n : Nat) : Int)) rfl kr rfl kr (ev_bin (o := _) rfl kr kr (rem_n hn)) (NS_b 1 kr (NS_ld _ rfl rfl kr kr kr (c437.ld (o := 1) kr rfl) (NS_v (nv (m.q : Int)) rfl kr rfl kr (ev_conv (o := _) rfl kr (conv8 (hmo.q))) (NS_b 1 kr (NS_v (nv ((m.q % n : Nat) : Int)) rfl kr rfl kr (ev_bin (o := _) rfl kr kr (rem_n hn)) ?_)))))))))))
         refine NS_i (((r.p % n : Nat) : Int)) (((m.q % n : Nat) : Int)) (.bool true) rfl rfl kr kr kr kr rfl (by simp; omega) (NS_b 1 kr (NS_ld _ rfl rfl kr kr kr (Cl.allN (n := 6) c440 rfl kr) (NS_ld _ rfl rfl kr kr kr (Cl.allN (n := 6) c437 rfl kr) (NS_nil (L_want kr (L_c rfl rfl kr (tagOf_ok hro) ?_))))))
         rintro v442 h442 ⟨e442, t442⟩
         try dsimp only at e442
         try dsimp only at t442
         subst e442
         replace c437 := c437.ext t442
         have T442 := T441.ext t442
         have N442 := T442.nx
         have M442 := t442.nx
         refine L_nil ⟨rfl, ?_⟩
         refine D_e (e := 15) (l := []) (s' := []) kr kr rfl kr (Rk_ld _ rfl rfl rfl kr (Cl.allN (n := 6) c437 rfl kr) kr Rk_nil) (NS_nil (L_want kr (L_c rfl rfl kr (tagOf_ok (m := { m with snd := true }) ⟨hmo.p, hmo.q, hmo.t0, hmo.t1, hmo.s⟩) ?_)))
         rintro v443 h443 ⟨e443, t443⟩
         try dsimp only at e443
         try dsimp only at t443
         subst e443
         replace c437 := c437.ext t443
         have T443 := T442.ext t443
         have N443 := T443.nx
         have M443 := t443.nx
         refine L_nil ⟨rfl, ?_⟩
         refine D_l (l := [16,17]) kr kr Rk_nil (NS_i ((tgO r)) ((tgO m)) (.bool false) rfl rfl kr kr kr kr rfl (by simpa using hneq he9) (NS_b 1 kr (NS_nil ?_)))
         refine W_cond false kr (fun e => by cases e) (fun _ => ?_)
         refine W_skip (W_region (L_i ((k : Int)) (1) (nv ((k + 1 : Nat) : Int)) rfl rfl kr kr rfl (inc_ok (by omega)) (L_g 1 kr (L_nil ?_))))
         exact ⟨om.length - (k + 1), by omega, k + 1, by omega, rfl, kr, kr, kr, kr, kr, kr, kr, kr, kr, kr, kr, T443, c437⟩
       ·
         refine W_drawn kr (D_e (e := 13) (l := [0,1,2,3,4,5,6,7,8,9,10,11,12,14]) (s' := [14]) kr kr rfl kr Rk_nil (NS_b 1 kr (NS_ld _ rfl rfl kr kr kr (c440.ld (o := 0) kr rfl) (NS_v (nv (r.p : Int)) rfl kr rfl kr (ev_conv (o := _) rfl kr (conv8 (hro.p))) (NS_b 1 kr (NS_v (nv ((r.p % n : Nat) : Int)) rfl kr rfl kr (ev_bin (o := _) rfl kr kr (rem_n hn)) (NS_b 1 kr (NS_ld _ rfl rfl kr kr kr (c437.ld (o := 1) kr rfl) (NS_v (nv (m.q : Int)) rfl kr rfl kr (ev_conv (o := _) rfl kr (conv8 (hmo.q))) (NS_b 1 kr (NS_v (nv ((m.q % n : Nat) : Int)) rfl kr rfl kr (ev_bin (o := _) rfl kr kr (rem_n hn)) ?_)))))))))))
         refine NS_i (((r.p % n : Nat) : Int)) (((m.q % n : Nat) : Int)) (.bool false) rfl rfl kr kr kr kr rfl (by simp; omega) (NS_b 3 kr (NS_nil (L_not kr kr ?_)))
         refine L_nil ⟨rfl, ?_⟩
         refine D_e (e := 15) (l := []) (s' := []) kr kr rfl kr (Rk_nw rfl kr Rk_nil) (NS_nil (L_not kr kr ?_))
         refine L_nil ⟨rfl, ?_⟩
         refine D_l (l := [16,17]) kr kr Rk_nil (NS_b 2 kr (NS_nil ?_))
         refine W_cond false kr (fun e => by cases e) (fun _ => ?_)
         refine W_skip (W_region (L_i ((k : Int)) (1) (nv ((k + 1 : Nat) : Int)) rfl rfl kr kr rfl (inc_ok (by omega)) (L_g 1 kr (L_nil ?_))))
         exact ⟨om.length - (k + 1), by omega, k + 1, by omega, rfl, kr, kr, kr, kr, kr, kr, kr, kr, kr, kr, kr, T441, c437⟩
      ·
       refine W_exit ?_
       repeat with_reducible refine then_exit ?_
       refine exit_here (W_region (L_i ((i : Int)) (1) (nv ((i + 1 : Nat) : Int)) rfl rfl kr kr rfl (inc_ok (by omega)) (L_g 1 kr (L_nil ?_))))
       exact ⟨l.length - (i + 1), by omega, i + 1, rfl, by omega, ((w49).ext T439), kr, kr, kr, kr, kr, kr, kr⟩
    ·
     refine W_exit ?_
     repeat with_reducible refine then_exit ?_
     refine exit_here (W_seq (W_region (L_c rfl rfl kr (works_ok) ?_)))
     rintro vw hw ew
     cases ew
     refine L_g 1 kr (L_nil (W_ret ?_))
     repeat first | with_reducible refine then_ret ?_ | with_reducible refine blk_ret ?_
     refine done_of (v := .bool true) (.inl rfl) kr ?_
     exact rfl
end
end Go.Proofs.Ytmehemeoaplepaa
