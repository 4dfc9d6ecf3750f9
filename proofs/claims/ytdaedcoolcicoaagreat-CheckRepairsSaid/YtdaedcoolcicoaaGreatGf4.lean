/- Plain laws. -/
import Derived.Test.YtdaedcoolcicoaaGreatPrf2
import Derived.Test.YtdaedcoolcicoaaGreatGf1
import Derived.Test.YtdaedcoolcicoaaGreatPure2
namespace Go.Arm
open Go Go.RowKit Go.Gf

def u (a : Nat) : U8 := ⟨(a : Int)⟩
def um (R : Mx) : List (List U8) := R.map (List.map u)
theorem idx_n {α : Type} {l : List α} {i : Nat} (h : i < l.length) : idx l (i : Int) = some l[i] := by
  unfold idx
  rw [if_pos (by omega), Int.toNat_natCast, List.getElem?_eq_getElem h]
theorem idx_u {l : Row} {i : Nat} (h : i < l.length) : idx (l.map u) (i : Int) = some (u (l.getD i 0)) := by
  rw [idx_n (by simpa using h), List.getElem_map, List.getD_eq_getElem?_getD, List.getElem?_eq_getElem h]; rfl
theorem idx_um {R : Mx} {r : Nat} (h : r < R.length) : idx (um R) (r : Int) = some ((rw_ R r).map u) := by
  unfold um
  rw [idx_n (by simpa using h), List.getElem_map, rw_lt h]
theorem um_set (R : Mx) (r : Nat) (x : Row) : (um R).set r (x.map u) = um (R.set r x) := by unfold um; rw [List.map_set]
theorem um_len (R : Mx) : (um R).length = R.length := by simp [um]

theorem bv_nat (k : Nat) (a : Nat) : (BitVec.ofInt k (a : Int)).toNat = a % 2 ^ k := by simp
theorem xorK_u8 {a b : Nat} (ha : a < 256) (hb : b < 256) : xorK .u8 (a : Int) (b : Int) = ((a ^^^ b : Nat) : Int) := by
  unfold xorK
  have e1 : (BitVec.ofInt (IntKind.bits .u8) (a : Int)).toNat = a := by show (BitVec.ofInt 8 (a : Int)).toNat = a; rw [bv_nat]; exact Nat.mod_eq_of_lt ha
  have e2 : (BitVec.ofInt (IntKind.bits .u8) (b : Int)).toNat = b := by show (BitVec.ofInt 8 (b : Int)).toNat = b; rw [bv_nat]; exact Nat.mod_eq_of_lt hb
  rw [BitVec.toNat_xor, e1, e2]
  have h := xor_lt ha hb
  simp [IntKind.wrap, IntKind.bits, IntKind.signed]
  omega
theorem xorK_i64 {a b : Nat} (ha : a < 2147483648) (hb : b < 2147483648) : xorK .i64 (a : Int) (b : Int) = ((a ^^^ b : Nat) : Int) := by
  unfold xorK
  have e1 : (BitVec.ofInt (IntKind.bits .i64) (a : Int)).toNat = a := by show (BitVec.ofInt 64 (a : Int)).toNat = a; rw [bv_nat]; exact Nat.mod_eq_of_lt (by omega)
  have e2 : (BitVec.ofInt (IntKind.bits .i64) (b : Int)).toNat = b := by show (BitVec.ofInt 64 (b : Int)).toNat = b; rw [bv_nat]; exact Nat.mod_eq_of_lt (by omega)
  rw [BitVec.toNat_xor, e1, e2]
  have h : a ^^^ b < 2 ^ 31 := Nat.xor_lt_two_pow ha hb
  exact wrap_in (by unfold inR; omega)
theorem conv_u8 {a : Nat} (h : a < 256) : convK .u8 (a : Int) = (a : Int) := by
  unfold convK
  simp [IntKind.wrap, IntKind.bits, IntKind.signed]
  omega
theorem u_n (a : Nat) : (u a).n = (a : Int) := rfl

/-! The tables. -/
theorem tab_log : ((List.range 256).all fun a => a == 0 || intOf (Go.Proofs.YtdaedcoolcicoaaGreat.box50.get (510 + a)) == (lg a : Int)) = true := by kernel_rfl
theorem tab_pow : ((List.range 510).all fun k => intOf (Go.Proofs.YtdaedcoolcicoaaGreat.box50.get k) == (ex k : Int)) = true := by kernel_rfl
theorem log_at {a : Nat} (h : a < 256) (h0 : a ≠ 0) : idx fieldT.log.l (a : Int) = some (lg a : Int) := by
  have h1 := Gf.all_of tab_log h
  simp only [Bool.or_eq_true, beq_iff_eq] at h1
  unfold fieldT
  rw [idx_n (by simpa using h)]
  simp only [List.getElem_map, List.getElem_range]
  rw [h1.resolve_left h0]
theorem pow_at {k : Nat} (h : k < 510) : idx fieldT.power.l (k : Int) = some (u (ex k)) := by
  have h1 := Gf.all_of tab_pow h
  simp only [beq_iff_eq] at h1
  unfold fieldT
  rw [idx_n (by simpa using h)]
  simp only [List.getElem_map, List.getElem_range]
  rw [h1]; rfl
theorem mul_eq (N : Nat) {a b : Nat} (ha : a < 256) (hb : b < 256) : check_field_mul N fieldT (u a) (u b) = some (u (gm a b)) := by
  unfold check_field_mul
  by_cases h1 : a = 0
  · subst h1; simp [u, zero_gm]
  · by_cases h2 : b = 0
    · subst h2; simp [u, gm_zero]
    · have e1 : ¬ ((a : Int) = 0) := by omega
      have e2 : ¬ ((b : Int) = 0) := by omega
      have l1 := (ex_lg ha h1).2
      have l2 := (ex_lg hb h2).2
      simp only [e1, e2, decide_false, Bool.false_eq_true, if_false, Option.bind_some, u_n, log_at ha h1, log_at hb h2]
      rw [chk, if_pos (by unfold inR; omega), show ((lg a : Int) + (lg b : Int)) = ((lg a + lg b : Nat) : Int) by omega, pow_at (by omega)]
      rw [gm_eq h1 h2]; rfl
theorem inv_eq (N : Nat) {a : Nat} (ha : a < 256) (h0 : a ≠ 0) : check_field_inverse N fieldT (u a) = some (u (ginv a)) := by
  unfold check_field_inverse
  have l1 := (ex_lg ha h0).2
  rw [u_n, log_at ha h0]
  simp only [Option.bind_some]
  rw [chk, if_pos (by unfold inR; omega), show ((255 : Int) - (lg a : Int)) = ((255 - lg a : Nat) : Int) by omega, pow_at (by omega), ginv_is]
  rfl

/-! The reference's product. -/
def bit (b i : Nat) : Nat := if b / 2 ^ i % 2 = 1 then 1 else 0
theorem shr_bit {b i : Nat} (hi : i < 8) : Int.tmod (shrK .i64 (b : Int) (i : Int)) 2 = ((b / 2 ^ i % 2 : Nat) : Int) := by
  unfold shrK
  have e : min ((i : Int)).toNat (IntKind.bits .i64) = i := by show min ((i : Int)).toNat 64 = i; omega
  rw [e, Int.fdiv_eq_ediv_of_nonneg _ (by exact Int.pow_nonneg (by decide))]
  have e2 : (b : Int) / 2 ^ i = ((b / 2 ^ i : Nat) : Int) := by rw [Int.natCast_ediv]; norm_cast
  rw [e2, Int.tmod_eq_emod_of_nonneg (Int.natCast_nonneg _)]
  norm_cast
theorem times_step {N m : Nat} {x o b i : Nat} (hi : i < 8) (hx : x < 256) (ho : o < 256) (hb : b < 256) :
    ref14_times_l1 N (u b) (m + 1) (x : Int) (o : Int) (i : Int) = ref14_times_l1 N (u b) m (Gf.xt x : Int) ((o ^^^ gm (bit b i) x : Nat) : Int) ((i + 1 : Nat) : Int) := by
  have hxt : Gf.xt x < 256 := by rw [← two_gm hx]; exact gm_lt _ _
  have h285 : (2 * x) ^^^ 285 < 2 ^ 9 := Nat.xor_lt_two_pow (by omega) (by decide)
  rw [ref14_times_l1.eq_2]
  simp only [show ((i : Int) < 8) by omega, decide_true, if_true]
  unfold chk
  rw [if_pos (show inR (u b).n by show inR (b : Int); unfold inR; omega), if_pos (show (0 : Int) ≤ (i : Int) by omega), if_pos (show (2 : Int) ≠ 0 by decide), u_n, shr_bit hi]
  have ex2 : (x : Int) * 2 = ((2 * x : Nat) : Int) := by omega
  have hin : inR ((x : Int) * 2) := by unfold inR; omega
  have hin2 : inR ((i : Int) + 1) := by unfold inR; omega
  have exx : (if decide (255 < (x : Int) * 2) = true then (xorK .i64 ((x : Int) * 2) 285) else (x : Int) * 2) = (Gf.xt x : Int) := by
    unfold Gf.xt
    by_cases h : 2 * x < 256
    · rw [if_neg (by simp; omega), if_pos h, ex2]
    · rw [if_pos (by simp; omega), if_neg h, ex2]
      exact xorK_i64 (a := 2 * x) (b := 285) (by omega) (by decide)
  by_cases hbit : b / 2 ^ i % 2 = 1
  · have e1 : gm (bit b i) x = x := by unfold bit; rw [if_pos hbit, gm_comm, gm_one hx]
    have e2 : xorK .i64 (o : Int) (x : Int) = ((o ^^^ x : Nat) : Int) := xorK_i64 (by omega) (by omega)
    rw [if_pos (by simp [hbit]), if_pos hin, e1, if_pos hin2, e2]
    rw [← exx]
    split <;> rfl
  · have e1 : gm (bit b i) x = 0 := by unfold bit; rw [if_neg hbit, zero_gm]
    have h0 : b / 2 ^ i % 2 = 0 := by omega
    rw [if_neg (by simp [h0]), if_pos hin, e1, if_pos hin2, Nat.xor_zero]
    rw [← exx]
    split <;> rfl
theorem bits_c : ((List.range 256).all fun b => (bit b 0) ^^^ (gmC (bit b 1) 2) ^^^ (gmC (bit b 2) 4) ^^^ (gmC (bit b 3) 8) ^^^ (gmC (bit b 4) 16) ^^^ (gmC (bit b 5) 32) ^^^ (gmC (bit b 6) 64) ^^^ (gmC (bit b 7) 128) == b) = true := by kernel_rfl
theorem bit_lt (b i : Nat) : bit b i < 256 := by unfold bit; split <;> decide
theorem times_eq {N : Nat} (hN : 10 < N) {a b : Nat} (ha : a < 256) (hb : b < 256) : ref14_times N (u a) (u b) = some (u (gm a b)) := by
  unfold ref14_times
  obtain ⟨k, hk⟩ : ∃ k, N = k + 9 := ⟨N - 9, by omega⟩
  rw [chk, if_pos (show inR (u a).n by show inR (a : Int); unfold inR; omega), u_n]
  have hx : ∀ {x : Nat}, x < 256 → Gf.xt x < 256 := fun {x} h => by rw [← two_gm h]; exact gm_lt _ _
  have h0 := ha
  have h1 := hx h0
  have h2 := hx h1
  have h3 := hx h2
  have h4 := hx h3
  have h5 := hx h4
  have h6 := hx h5
  have h7 := hx h6
  have e0 : ((0 : Int)) = ((0 : Nat) : Int) := rfl
  have hl : ∀ (m : Nat) (x o : Int), ref14_times_l1 N (u b) (m + 1) x o ((8 : Nat) : Int) = some o := fun m x o => by
    rw [ref14_times_l1.eq_2]; rfl
  have key : ref14_times_l1 N (u b) N (a : Int) 0 0 = some ((gm a b : Nat) : Int) := by
    conv => lhs; arg 3; rw [hk]
    rw [e0]
    rw [times_step (i := 0) (by decide) h0 (by decide) hb, times_step (i := 1) (by decide) h1 (xor_lt (by decide) (gm_lt _ _)) hb, times_step (i := 2) (by decide) h2 (xor_lt (xor_lt (by decide) (gm_lt _ _)) (gm_lt _ _)) hb,
      times_step (i := 3) (by decide) h3 (xor_lt (xor_lt (xor_lt (by decide) (gm_lt _ _)) (gm_lt _ _)) (gm_lt _ _)) hb, times_step (i := 4) (by decide) h4 (xor_lt (xor_lt (xor_lt (xor_lt (by decide) (gm_lt _ _)) (gm_lt _ _)) (gm_lt _ _)) (gm_lt _ _)) hb,
      times_step (i := 5) (by decide) h5 (xor_lt (xor_lt (xor_lt (xor_lt (xor_lt (by decide) (gm_lt _ _)) (gm_lt _ _)) (gm_lt _ _)) (gm_lt _ _)) (gm_lt _ _)) hb,
      times_step (i := 6) (by decide) h6 (xor_lt (xor_lt (xor_lt (xor_lt (xor_lt (xor_lt (by decide) (gm_lt _ _)) (gm_lt _ _)) (gm_lt _ _)) (gm_lt _ _)) (gm_lt _ _)) (gm_lt _ _)) hb,
      times_step (i := 7) (by decide) h7 (xor_lt (xor_lt (xor_lt (xor_lt (xor_lt (xor_lt (xor_lt (by decide) (gm_lt _ _)) (gm_lt _ _)) (gm_lt _ _)) (gm_lt _ _)) (gm_lt _ _)) (gm_lt _ _)) (gm_lt _ _)) hb, hl]
    have hb1 := Gf.all_of bits_c hb
    simp only [beq_iff_eq] at hb1
    rw [← gm_is] at hb1
    congr 2
    have hxt : ∀ {x : Nat} (y : Nat), x < 256 → gm y (Gf.xt x) = gm (gm y 2) x := fun {x} y h => by rw [← two_gm h, gm_assoc]
    rw [hxt _ h0, hxt _ h1, hxt _ h0, hxt _ h2, hxt _ h1, hxt _ h0, hxt _ h3, hxt _ h2, hxt _ h1, hxt _ h0, hxt _ h4, hxt _ h3, hxt _ h2, hxt _ h1, hxt _ h0, hxt _ h5, hxt _ h4, hxt _ h3, hxt _ h2, hxt _ h1, hxt _ h0, hxt _ h6, hxt _ h5, hxt _ h4, hxt _ h3, hxt _ h2, hxt _ h1, hxt _ h0]
    have p2 : gm 2 2 = 4 := by rw [gm_is]; decide
    have p3 : gm 4 2 = 8 := by rw [gm_is]; decide
    have p4 : gm 8 2 = 16 := by rw [gm_is]; decide
    have p5 : gm 16 2 = 32 := by rw [gm_is]; decide
    have p6 : gm 32 2 = 64 := by rw [gm_is]; decide
    have p7 : gm 64 2 = 128 := by rw [gm_is]; decide
    simp only [gm_assoc _ 2 2, gm_assoc _ 4 2, gm_assoc _ 8 2, gm_assoc _ 16 2, gm_assoc _ 32 2, gm_assoc _ 64 2, p2, p3, p4, p5, p6, p7, Nat.zero_xor]
    conv => rhs; rw [gm_comm, ← hb1]
    have q0 : bit b 0 < 256 := bit_lt _ _
    have q1 := gm_lt (bit b 1) 2
    have q2 := gm_lt (bit b 2) 4
    have q3 := gm_lt (bit b 3) 8
    have q4 := gm_lt (bit b 4) 16
    have q5 := gm_lt (bit b 5) 32
    have q6 := gm_lt (bit b 6) 64
    have q7 := gm_lt (bit b 7) 128
    rw [xor_gm ha (xor_lt (xor_lt (xor_lt (xor_lt (xor_lt (xor_lt q0 q1) q2) q3) q4) q5) q6) q7, xor_gm ha (xor_lt (xor_lt (xor_lt (xor_lt (xor_lt q0 q1) q2) q3) q4) q5) q6, xor_gm ha (xor_lt (xor_lt (xor_lt (xor_lt q0 q1) q2) q3) q4) q5,
      xor_gm ha (xor_lt (xor_lt (xor_lt q0 q1) q2) q3) q4, xor_gm ha (xor_lt (xor_lt q0 q1) q2) q3, xor_gm ha (xor_lt q0 q1) q2, xor_gm ha q0 q1]
  rw [key]
  simp only [Option.bind_some, conv_u8 (gm_lt a b)]; rfl
theorem rinv_l {N : Nat} (hN : 10 < N) {a : Nat} (ha : a < 256) (h0 : a ≠ 0) : ∀ (m i : Nat), 1 ≤ i → i ≤ ginv a → ginv a < i + m → ref14_inverse_l1 N (u a) m (i : Int) = some (.inr (u (ginv a)))
  | 0, i, _, h1, h2 => by omega
  | m + 1, i, h, h1, h2 => by
    have hg := ginv_lt a
    have hi : i < 256 := by omega
    rw [ref14_inverse_l1.eq_2]
    simp only [show ((i : Int) < 256) by omega, decide_true, if_true, conv_u8 hi]
    rw [show (⟨(i : Int)⟩ : U8) = u i from rfl, times_eq hN ha hi]
    simp only [Option.bind_some]
    by_cases e : i = ginv a
    · subst e
      rw [gm_ginv ha h0]; rfl
    · have hne : gm a i ≠ 1 := fun h => e (gm_cancel ha h0 hi hg (by rw [h, gm_ginv ha h0]))
      rw [if_neg (by simp only [decide_eq_true_eq]; show ¬ ((gm a i : Int) = 1); omega), chk, if_pos (show inR ((i : Int) + 1) by unfold inR; omega)]
      exact rinv_l hN ha h0 m (i + 1) (by omega) (by omega) (by omega)
theorem rinv_eq {N : Nat} (hN : 300 < N) {a : Nat} (ha : a < 256) (h0 : a ≠ 0) : ref14_inverse N (u a) = some (u (ginv a)) := by
  unfold ref14_inverse
  have h1 : 1 ≤ ginv a := Nat.one_le_iff_ne_zero.2 (ginv_ne a)
  have := rinv_l (by omega : 10 < N) ha h0 N 1 (by omega) h1 (by have := ginv_lt a; omega)
  have e : ref14_inverse_l1 N (u a) N 1 = _ := this
  rw [e]; rfl
end Go.Arm
namespace Go.Arm
open Go Go.RowKit Go.Gf

/-- A product by f. -/
def MulBy (m : U8 → Option U8) (f : Nat) : Prop := ∀ y, y < 256 → m (u y) = some (u (gm y f))
theorem getD_set {l : Row} {i j x : Nat} (h : i < l.length) : (l.set i x).getD j 0 = if j = i then x else l.getD j 0 := by
  rw [List.getD_eq_getElem?_getD, List.getD_eq_getElem?_getD, List.getElem?_set]
  by_cases e : i = j
  · subst e; simp [h]
  · rw [if_neg e, if_neg (fun e' => e e'.symm)]
theorem u_set (l : Row) (i x : Nat) : (l.map u).set i (u x) = (l.set i x).map u := by rw [List.map_set]
theorem ext_getD {a b : Row} (h : a.length = b.length) (k : ∀ j, j < a.length → a.getD j 0 = b.getD j 0) : a = b := by
  apply List.ext_getElem h
  intro j h1 h2
  have := k j h1
  rw [List.getD_eq_getElem?_getD, List.getD_eq_getElem?_getD, List.getElem?_eq_getElem h1, List.getElem?_eq_getElem h2] at this
  exact this

theorem scale_l {m : U8 → Option U8} {f : Nat} (hm : MulBy m f) {l0 : Row} (hl0 : ∀ x, x ∈ l0 → x < 256) (hlen : inR ((l0.length : Int) + 1)) : ∀ (n i : Nat) (l : Row), l.length = l0.length → l0.length < i + n → i ≤ l0.length →
    (∀ j, j < l0.length → l.getD j 0 = if j < i then gm (l0.getD j 0) f else l0.getD j 0) → scaleG m n (i : Int) (l.map u) = some ((scl f l0).map u)
  | 0, i, l, _, h1, h2, _ => by omega
  | n + 1, i, l, hl, h1, h2, hj => by
    rw [scaleG]
    by_cases hi : i < l.length
    · have hxi : l.getD i 0 = l0.getD i 0 := by rw [hj i (by omega), if_neg (Nat.lt_irrefl i)]
      rw [if_pos (by simp; omega), idx_u hi, Option.bind_some, hxi, hm _ (getD_lt hl0 i), Option.bind_some]
      rw [chk, if_pos (show inR ((i : Int) + 1) by unfold inR at *; omega), Int.toNat_natCast, u_set]
      refine scale_l hm hl0 hlen n (i + 1) _ (by simpa using hl) (by omega) (by omega) (fun j hjl => ?_)
      rw [getD_set hi]
      by_cases e : j = i
      · subst e; rw [if_pos rfl, if_pos (by omega)]
      · rw [if_neg e, hj j hjl]
        by_cases e2 : j < i
        · rw [if_pos e2, if_pos (by omega)]
        · rw [if_neg e2, if_neg (by omega)]
    · rw [if_neg (by simp; omega)]
      have hi2 : i = l0.length := by omega
      have : l = scl f l0 := ext_getD (by rw [scl_len]; exact hl) (fun j hjl => by rw [hj j (by omega), if_pos (by omega), scl_getD])
      rw [this]
theorem scale_eq {m : U8 → Option U8} {f N : Nat} (hm : MulBy m f) {l : Row} (hl : ∀ x, x ∈ l → x < 256) (hlen : inR ((l.length : Int) + 1)) (hN : l.length < N) : scaleG m N 0 (l.map u) = some ((scl f l).map u) :=
  scale_l hm hl hlen N 0 l rfl (by omega) (by omega) (fun j _ => by rw [if_neg (by omega)])

theorem add_l {m : U8 → Option U8} {f : Nat} (hm : MulBy m f) {l t0 : Row} (hl : ∀ x, x ∈ l → x < 256) (ht : ∀ x, x ∈ t0 → x < 256) (he : t0.length = l.length) (hlen : inR ((l.length : Int) + 1)) : ∀ (n i : Nat) (t : Row), t.length = t0.length → t0.length < i + n → i ≤ t0.length →
    (∀ j, j < t0.length → t.getD j 0 = if j < i then t0.getD j 0 ^^^ gm (l.getD j 0) f else t0.getD j 0) → addG m (l.map u) n (i : Int) (t.map u) = some ((axpy f l t0).map u) ∧ addR m (l.map u) n (i : Int) (t.map u) = some ((axpy f l t0).map u)
  | 0, i, t, _, h1, h2, _ => by omega
  | n + 1, i, t, htl, h1, h2, hj => by
    rw [addG, addR]
    by_cases hi : i < t.length
    · have hil : i < l.length := by omega
      have hxi : t.getD i 0 = t0.getD i 0 := by rw [hj i (by omega), if_neg (Nat.lt_irrefl i)]
      have c1 : decide ((i : Int) < ((l.map u).length : Int)) = true := by simp; omega
      have c2 : decide ((i : Int) < ((t.map u).length : Int)) = true := by simp; omega
      have hin : inR ((i : Int) + 1) := by unfold inR at *; omega
      have ih := add_l hm hl ht he hlen n (i + 1) (t.set i (t0.getD i 0 ^^^ gm (l.getD i 0) f)) (by simpa using htl) (by omega) (by omega) (fun j hjl => by
        rw [getD_set hi]
        by_cases e : j = i
        · subst e; rw [if_pos rfl, if_pos (by omega)]
        · rw [if_neg e, hj j hjl]
          by_cases e2 : j < i
          · rw [if_pos e2, if_pos (by omega)]
          · rw [if_neg e2, if_neg (by omega)])
      have ex : (⟨xorK .u8 (u (t0.getD i 0)).n (u (gm (l.getD i 0) f)).n⟩ : U8) = u (t0.getD i 0 ^^^ gm (l.getD i 0) f) := by
        rw [u_n, u_n, xorK_u8 (getD_lt ht i) (gm_lt _ _)]; rfl
      refine ⟨?_, ?_⟩
      · rw [if_pos c1, idx_u hil, Option.bind_some, idx_u hi, Option.bind_some, hm _ (getD_lt hl i), hxi, Option.bind_some, chk, if_pos hin, Int.toNat_natCast, ex, u_set]
        exact ih.1
      · rw [if_pos c2, idx_u hil, Option.bind_some, idx_u hi, Option.bind_some, hm _ (getD_lt hl i), hxi, Option.bind_some, chk, if_pos hin, Int.toNat_natCast, ex, u_set]
        exact ih.2
    · have c1 : ¬ (decide ((i : Int) < ((l.map u).length : Int)) = true) := by simp; omega
      have c2 : ¬ (decide ((i : Int) < ((t.map u).length : Int)) = true) := by simp; omega
      rw [if_neg c1, if_neg c2]
      have : t = axpy f l t0 := ext_getD (by rw [axpy_len he]; exact htl) (fun j hjl => by rw [hj j (by omega), if_pos (by omega), axpy_getD he])
      rw [this]; exact ⟨rfl, rfl⟩
theorem add_eq {m : U8 → Option U8} {f N : Nat} (hm : MulBy m f) {l t : Row} (hl : ∀ x, x ∈ l → x < 256) (ht : ∀ x, x ∈ t → x < 256) (he : t.length = l.length) (hlen : inR ((l.length : Int) + 1)) (hN : l.length < N) :
    addG m (l.map u) N 0 (t.map u) = some ((axpy f l t).map u) ∧ addR m (l.map u) N 0 (t.map u) = some ((axpy f l t).map u) :=
  add_l hm hl ht he hlen N 0 t rfl (by omega) (by omega) (fun j _ => by rw [if_neg (by omega)])

theorem mulP (N : Nat) {f : Nat} (hf : f < 256) : MulBy (fun y => check_field_mul N fieldT y (u f)) f := fun _ hy => mul_eq N hy hf
theorem mulR {N : Nat} (hN : 10 < N) {f : Nat} (hf : f < 256) : MulBy (fun y => ref14_times N y (u f)) f := fun _ hy => times_eq hN hy hf

theorem swap_eq {R : Mx} {p c : Nat} (hp : p < R.length) (hc : c < R.length) : swapG (um R) (p : Int) (c : Int) = some (um (swp R p c)) := by
  unfold swapG
  rw [idx_um hp, Option.bind_some, idx_um hc, Option.bind_some, Int.toNat_natCast, Int.toNat_natCast, um_set, um_set]; rfl
theorem axpy_zero {l t : Row} (h : t.length = l.length) : axpy 0 l t = t :=
  ext_getD (by rw [axpy_len h]) (fun j _ => by rw [axpy_getD h, gm_zero, Nat.xor_zero])
theorem set_same {R : Mx} {r : Nat} (h : r < R.length) : R.set r (rw_ R r) = R := by
  apply List.ext_getElem (by simp)
  intro j h1 h2
  rw [List.getElem_set]
  split
  · rename_i e; subst e; rw [rw_lt h]
  · rfl
theorem en_idx {k s : Nat} {R : Mx} (h : Shape k s R) {r c : Nat} (hr : r < k) (hc : c < s) : idx ((rw_ R r).map u) (c : Int) = some (u (en R r c)) := idx_u (by rw [(h.2 r hr).1]; exact hc)

theorem len_in {k : Nat} (h : k ≤ 70000) : inR ((k : Int) + 1) := by unfold inR; omega
theorem elim_eq {N k s c : Nat} (hk : k ≤ 16) (hs : s ≤ 70000) (hc : c < k) (hN : 70000 < N) : ∀ (n m r : Nat) (R L : Mx), n < m → r + n = k → Shape k k R → Shape k s L →
    elimG N fieldT (c : Int) (k : Int) m (r : Int) (um R) (um L) = some (um (elimS c n r R L).1, um (elimS c n r R L).2) ∧ elimR N (c : Int) (k : Int) m (r : Int) (um R) (um L) = some (um (elimS c n r R L).1, um (elimS c n r R L).2)
  | _, 0, _, _, _, h, _, _, _ => absurd h (Nat.not_lt_zero _)
  | 0, m + 1, r, R, L, _, h, _, _ => by
    have c1 : ¬ (decide ((r : Int) < (k : Int)) = true) := by simp; omega
    rw [elimG, elimR, if_neg c1, if_neg c1]
    exact ⟨rfl, rfl⟩
  | n + 1, m + 1, r, R, L, hm, h, hR, hL => by
    have hr : r < k := by omega
    have hr1 : ((r : Int) + 1) = ((r + 1 : Nat) : Int) := by omega
    have hin : inR ((r : Int) + 1) := by unfold inR; omega
    have c1 : decide ((r : Int) < (k : Int)) = true := by simp; omega
    rw [elimG, elimR, if_pos c1, if_pos c1]
    unfold elimS
    by_cases e : r = c
    · have ec : ¬ ((!decide ((r : Int) = (c : Int))) = true) := by rw [e]; simp
      have ih := elim_eq hk hs hc hN n m (r + 1) R L (by omega) (by omega) hR hL
      rw [if_pos e]
      refine ⟨?_, ?_⟩
      · rw [if_neg ec, Option.bind_some, if_neg (by simp), chk, if_pos hin, hr1]
        exact ih.1
      · rw [if_neg ec, chk, if_pos hin, hr1]
        exact ih.2
    · have ec : (!decide ((r : Int) = (c : Int))) = true := by simp; omega
      have f256 := hR.en_lt hr c
      have lR := hR.1
      have lL := hL.1
      have lrR : r < R.length := by omega
      have lcR : c < R.length := by omega
      have lrL : r < L.length := by omega
      have lcL : c < L.length := by omega
      have k1 : inR (((rw_ R c).length : Int) + 1) := by rw [(hR.2 c hc).1]; exact len_in (by omega)
      have k2 : inR (((rw_ L c).length : Int) + 1) := by rw [(hL.2 c hc).1]; exact len_in hs
      have z1 : (rw_ R c).length < N := by rw [(hR.2 c hc).1]; omega
      have z2 : (rw_ L c).length < N := by rw [(hL.2 c hc).1]; omega
      have a1 := (add_eq (N := N) (mulP N f256) (hR.2 c hc).2 (hR.2 r hr).2 (by rw [(hR.2 r hr).1, (hR.2 c hc).1]) k1 z1).1
      have a2 := (add_eq (N := N) (mulP N f256) (hL.2 c hc).2 (hL.2 r hr).2 (by rw [(hL.2 r hr).1, (hL.2 c hc).1]) k2 z2).1
      have b1 := (add_eq (N := N) (mulR (N := N) (by omega) f256) (hR.2 c hc).2 (hR.2 r hr).2 (by rw [(hR.2 r hr).1, (hR.2 c hc).1]) k1 z1).2
      have b2 := (add_eq (N := N) (mulR (N := N) (by omega) f256) (hL.2 c hc).2 (hL.2 r hr).2 (by rw [(hL.2 r hr).1, (hL.2 c hc).1]) k2 z2).2
      have ih := elim_eq hk hs hc hN n m (r + 1) (R.set r (axpy (en R r c) (rw_ R c) (rw_ R r))) (L.set r (axpy (en R r c) (rw_ L c) (rw_ L r))) (by omega) (by omega)
        (hR.set hr (hR.axpy_ok hr hc).1 (hR.axpy_ok hr hc).2) (hL.set hr (hL.axpy_ok hr hc).1 (hL.axpy_ok hr hc).2)
      rw [if_neg e]
      refine ⟨?_, ?_⟩
      · rw [if_pos ec, idx_um lrR, Option.bind_some, en_idx hR hr hc, Option.bind_some, Option.bind_some]
        by_cases h0 : en R r c = 0
        · have hz : ¬ ((!decide ((u (en R r c)).n = 0)) = true) := by rw [h0]; simp [u]
          rw [if_neg hz, chk, if_pos hin, hr1]
          rw [h0, axpy_zero (by rw [(hR.2 r hr).1, (hR.2 c hc).1]), axpy_zero (by rw [(hL.2 r hr).1, (hL.2 c hc).1]), set_same (by omega), set_same (by omega)] at ih ⊢
          exact ih.1
        · have hz : (!decide ((u (en R r c)).n = 0)) = true := by
            show (!decide (((en R r c : Nat) : Int) = 0)) = true
            simp; exact h0
          rw [if_pos hz, Option.bind_some, en_idx hR hr hc, Option.bind_some, idx_um lcR, Option.bind_some, a1, Option.bind_some, idx_um lrL, Option.bind_some, idx_um lcL, Option.bind_some, a2, Option.bind_some, chk, if_pos hin, hr1, Int.toNat_natCast, um_set, um_set]
          exact ih.1
      · rw [if_pos ec, idx_um lrR, Option.bind_some, en_idx hR hr hc, Option.bind_some, idx_um lcR, Option.bind_some, b1, Option.bind_some, idx_um lrL, Option.bind_some, idx_um lcL, Option.bind_some, b2, Option.bind_some, chk, if_pos hin, hr1, Int.toNat_natCast, um_set, um_set]
        exact ih.2

/-! The search for a pivot. -/
theorem solve1_eq (N : Nat) {l : Row} {c : Nat} (h : c < l.length) : check_field_solve_1 N (l.map u) (c : Int) = some (!decide (l.getD c 0 = 0)) := by
  unfold check_field_solve_1
  rw [idx_u h, Option.bind_some]
  have : decide ((u (l.getD c 0)).n = (⟨0⟩ : U8).n) = decide (l.getD c 0 = 0) := by
    show decide (((l.getD c 0 : Nat) : Int) = 0) = decide (l.getD c 0 = 0)
    rw [decide_eq_decide]; omega
  rw [this]
theorem cut_um {R : Mx} {c : Nat} (h : c ≤ R.length) : cut (um R) (c : Int) ((um R).length : Int) = some (um (R.drop c)) := by
  unfold cut
  rw [if_pos ⟨by omega, by rw [um_len]; omega, by omega⟩, Int.toNat_natCast, Int.toNat_natCast, List.take_length]
  simp [um, List.map_drop]
theorem ixf_l {N k c p : Nat} {R : Mx} (hR : Shape k k R) (hk : k ≤ 16) (hc : c < k) (hp : p < k) (hne : en R p c ≠ 0) (hz : ∀ q, c ≤ q → q < p → en R q c = 0) : ∀ (m i : Nat), c + i ≤ p → p < c + i + m →
    slices_IndexFunc_LLbyte_Lbyte_l1 N (um (R.drop c)) (fun x => check_field_solve_1 N x (c : Int)) m (i : Int) = some (.inr ((p - c : Nat) : Int))
  | 0, i, h1, h2 => by omega
  | m + 1, i, h1, h2 => by
    have hlen := hR.1
    have hi : i < (R.drop c).length := by simp; omega
    have hrow : rw_ (R.drop c) i = rw_ R (c + i) := by
      rw [rw_lt hi, rw_lt (show c + i < R.length by omega)]; simp
    have c1 : decide ((i : Int) < ((um (R.drop c)).length : Int)) = true := by rw [um_len]; simp only [decide_eq_true_eq]; omega
    rw [slices_IndexFunc_LLbyte_Lbyte_l1.eq_2, if_pos c1, idx_um hi, hrow, Option.bind_some, solve1_eq N (by rw [(hR.2 (c + i) (by omega)).1]; exact hc), Option.bind_some]
    by_cases e : c + i = p
    · have hb : (!decide ((rw_ R (c + i)).getD c 0 = 0)) = true := by
        rw [e]; simp only [Bool.not_eq_true', decide_eq_false_iff_not]; exact hne
      rw [if_pos hb, show (i : Int) = ((p - c : Nat) : Int) by omega]
    · have hb : ¬ ((!decide ((rw_ R (c + i)).getD c 0 = 0)) = true) := by
        simp only [Bool.not_eq_true', decide_eq_false_iff_not, Decidable.not_not]; exact hz (c + i) (by omega) (by omega)
      rw [if_neg hb, chk, if_pos (show inR ((i : Int) + 1) by unfold inR; omega)]
      exact ixf_l hR hk hc hp hne hz m (i + 1) (by omega) (by omega)
theorem ixf_eq {N k c p : Nat} {R : Mx} (hR : Shape k k R) (hk : k ≤ 16) (hc : c < k) (hcp : c ≤ p) (hp : p < k) (hne : en R p c ≠ 0) (hz : ∀ q, c ≤ q → q < p → en R q c = 0) (hN : 100 < N) :
    slices_IndexFunc_LLbyte_Lbyte N (um (R.drop c)) (fun x => check_field_solve_1 N x (c : Int)) = some ((p - c : Nat) : Int) := by
  unfold slices_IndexFunc_LLbyte_Lbyte
  have e : slices_IndexFunc_LLbyte_Lbyte_l1 N (um (R.drop c)) (fun x => check_field_solve_1 N x (c : Int)) N 0 = _ := ixf_l hR hk hc hp hne hz N 0 (by omega) (by omega)
  rw [e]; rfl
theorem findR_l {k c p : Nat} {R : Mx} (hR : Shape k k R) (hk : k ≤ 16) (hc : c < k) (hp : p < k) (hne : en R p c ≠ 0) (hz : ∀ q, c ≤ q → q < p → en R q c = 0) : ∀ (m i : Nat), c ≤ i → i ≤ p → p < i + m →
    findR (um R) (c : Int) m (i : Int) = some (p : Int)
  | 0, i, _, h1, h2 => by omega
  | m + 1, i, h0, h1, h2 => by
    have hlen := hR.1
    rw [findR, idx_um (show i < R.length by omega), Option.bind_some, en_idx hR (show i < k by omega) hc, Option.bind_some]
    by_cases e : i = p
    · subst e
      have hb : ¬ (decide ((u (en R i c)).n = 0) = true) := by simp only [decide_eq_true_eq]; show ¬ (((en R i c : Nat) : Int) = 0); omega
      rw [if_neg hb]
    · have h3 := hz i h0 (by omega)
      have hb : decide ((u (en R i c)).n = 0) = true := by simp only [decide_eq_true_eq]; show ((en R i c : Nat) : Int) = 0; omega
      rw [if_pos hb, chk, if_pos (show inR ((i : Int) + 1) by unfold inR; omega)]
      exact findR_l hR hk hc hp hne hz m (i + 1) (by omega) (by omega) (by omega)

/-- All columns. -/
theorem solve_l {N k s : Nat} (hk : k ≤ 16) (hs : s ≤ 70000) (hN : 70000 < N) : ∀ (n m c : Nat) (R L : Mx), n < m → c + n = k → Inv k s c R L →
    stepG N fieldT (k : Int) m (c : Int) (um R) (um L) = some (um (solveS k n c R L)) ∧ stepR N (k : Int) m (c : Int) (um R) (um L) = some (um (solveS k n c R L)) ∧ Shape k s (solveS k n c R L)
  | _, 0, _, _, _, h, _, _ => absurd h (Nat.not_lt_zero _)
  | 0, m + 1, c, R, L, _, h, hI => by
    have c1 : ¬ (decide ((c : Int) < (k : Int)) = true) := by simp; omega
    rw [stepG, stepR, if_neg c1, if_neg c1]
    exact ⟨rfl, rfl, hI.sL⟩
  | n + 1, m + 1, c, R, L, hm, h, hI => by
    have hc : c < k := by omega
    obtain ⟨p1, p2, p3, p4⟩ := step_pivot hI hc
    have hst := step_ok hI hc
    have hstart := step_start hI hc p1 p2 p3
    have ih := solve_l hk hs hN n m (c + 1) _ _ (by omega) (by omega) hst
    have c1 : decide ((c : Int) < (k : Int)) = true := by simp; omega
    rw [stepG, stepR, if_pos c1, if_pos c1]
    unfold solveS
    unfold stepS at ih ⊢
    simp only at ih ⊢
    generalize hp : findS R c (k - c) c = p at *
    have lR := hI.sR.1
    have lL := hI.sL.1
    have hR1 := hI.sR.swp p2 hc
    have hL1 := hI.sL.swp p2 hc
    have lR1 := hR1.1
    have lL1 := hL1.1
    have f256 := ginv_lt (en (swp R p c) c c)
    have e256 := hR1.en_lt hc c
    have k1 : inR (((rw_ (swp R p c) c).length : Int) + 1) := by rw [(hR1.2 c hc).1]; exact len_in (by omega)
    have k2 : inR (((rw_ (swp L p c) c).length : Int) + 1) := by rw [(hL1.2 c hc).1]; exact len_in hs
    have z1 : (rw_ (swp R p c) c).length < N := by rw [(hR1.2 c hc).1]; omega
    have z2 : (rw_ (swp L p c) c).length < N := by rw [(hL1.2 c hc).1]; omega
    have s1 := scale_eq (N := N) (mulP N f256) (hR1.2 c hc).2 k1 z1
    have s2 := scale_eq (N := N) (mulP N f256) (hL1.2 c hc).2 k2 z2
    have r1 := scale_eq (N := N) (mulR (N := N) (by omega) f256) (hR1.2 c hc).2 k1 z1
    have r2 := scale_eq (N := N) (mulR (N := N) (by omega) f256) (hL1.2 c hc).2 k2 z2
    have el := elim_eq (N := N) (k := k) (s := s) (c := c) hk hs hc hN k N 0 _ _ (by omega) (by omega) hstart.2.sR hstart.2.sL
    have ecq : (c : Int) + ((p - c : Nat) : Int) = (p : Int) := by omega
    have hc1 : ((c : Int) + 1) = ((c + 1 : Nat) : Int) := by omega
    have hin : inR ((c : Int) + 1) := by unfold inR; omega
    have hinp : inR (p : Int) := by unfold inR; omega
    have wR : c < (swp R p c).length := by omega
    have wL : c < (swp L p c).length := by omega
    have sw1 := swap_eq (R := R) (p := p) (c := c) (by omega) (by omega)
    have sw2 := swap_eq (R := L) (p := p) (c := c) (by omega) (by omega)
    refine ⟨?_, ?_, ih.2.2⟩
    · have ix := ixf_eq (N := N) hI.sR hk hc p1 p2 p3 p4 (by omega)
      have e1 : elimG N fieldT (c : Int) (k : Int) N 0 _ _ = _ := el.1
      rw [cut_um (by omega), Option.bind_some, ix, Option.bind_some, chk, ecq, if_pos hinp, sw1, Option.bind_some, sw2, Option.bind_some, idx_um wR, Option.bind_some, en_idx hR1 hc hc, Option.bind_some, inv_eq N e256 hstart.1, Option.bind_some, s1, Option.bind_some, idx_um wL, Option.bind_some, s2, Option.bind_some, Int.toNat_natCast, um_set, um_set, e1, Option.bind_some, chk, if_pos hin, hc1]
      exact ih.1
    · have hf : findR (um R) (c : Int) N (c : Int) = some (p : Int) := findR_l hI.sR hk hc p2 p3 p4 N c (by omega) p1 (by omega)
      have e1 : elimR N (c : Int) (k : Int) N 0 _ _ = _ := el.2
      rw [hf, Option.bind_some, sw1, Option.bind_some, sw2, Option.bind_some, idx_um wR, Option.bind_some, en_idx hR1 hc hc, Option.bind_some, rinv_eq (by omega) e256 hstart.1, Option.bind_some, r1, Option.bind_some, idx_um wL, Option.bind_some, r2, Option.bind_some, Int.toNat_natCast, um_set, um_set, e1, Option.bind_some, chk, if_pos hin, hc1]
      exact ih.2.1
end Go.Arm
namespace Go.Arm
open Go Go.RowKit Go.Gf

def wi (ws : List Nat) : List Int := List.map (fun w : Nat => (w : Int)) ws
theorem idx_wi {ws : List Nat} {i : Nat} (h : i < ws.length) : idx (wi ws) (i : Int) = some (ws[i] : Int) := by
  unfold wi
  rw [idx_n (by simpa using h), List.getElem_map]
theorem mx_ext {a b : Mx} (h : a.length = b.length) (k : ∀ r, r < a.length → rw_ a r = rw_ b r) : a = b := by
  apply List.ext_getElem h
  intro r h1 h2
  have := k r h1
  rw [rw_lt h1, rw_lt h2] at this
  exact this
theorem row_ext {k w : Nat} {l : Row} (h : l.length = k) (hj : ∀ j, j < k → l.getD j 0 = rowE k w j) : l = rowS k w :=
  ext_getD (by simp [rowS]; exact h) (fun j hjl => by rw [hj j (by omega), rowS_getD (by omega)])
theorem toNat_cast (k : Nat) : ((k : Int).toNat : Int) = (k : Int) := by rw [Int.toNat_natCast]
theorem rep_u (k : Nat) : List.replicate k (⟨0⟩ : U8) = (List.replicate k 0).map u := by rw [List.map_replicate]; rfl
theorem rep_getD (k j : Nat) : (List.replicate k 0).getD j 0 = 0 := by
  rw [List.getD_eq_getElem?_getD, List.getElem?_replicate]
  split <;> rfl

/-- What an element of a parity block's row is the inverse of. -/
theorem arg_eq {k w i : Nat} (hw : k ≤ w) (hw2 : w < k + 16) (hi : i < 16) : (⟨convK .u8 (xorK .i64 ((w : Int) - (k : Int)) (16 + (i : Int)))⟩ : U8) = u ((w - k) ^^^ (16 + i)) ∧ (w - k) ^^^ (16 + i) < 256 ∧ (w - k) ^^^ (16 + i) ≠ 0 := by
  have h1 : (w - k) ^^^ (16 + i) < 256 := xor_lt (by omega) (by omega)
  have e1 : ((w : Int) - (k : Int)) = ((w - k : Nat) : Int) := by omega
  have e2 : (16 + (i : Int)) = ((16 + i : Nat) : Int) := by omega
  refine ⟨?_, h1, fun h => ?_⟩
  · rw [e1, e2, xorK_i64 (by omega) (by omega), conv_u8 h1]; rfl
  · have := xor_eq_zero h; omega
theorem rowP_l {N k w : Nat} (hk : k ≤ 16) (hw : k ≤ w) (hw2 : w < k + 16) : ∀ (n i : Nat) (l : Row), l.length = k → k < i + n → i ≤ k → (∀ j, j < k → l.getD j 0 = if j < i then rowE k w j else 0) →
    check_field_row_l1 N fieldT (w : Int) (k : Int) n (i : Int) (l.map u) = some ((rowS k w).map u)
  | 0, i, l, _, h1, h2, _ => by omega
  | n + 1, i, l, hl, h1, h2, hj => by
    rw [check_field_row_l1.eq_2]
    by_cases hi : i < k
    · have c1 : decide ((i : Int) < ((((k : Int)).toNat : Nat) : Int)) = true := by rw [toNat_cast]; simp; exact hi
      obtain ⟨ea, a1, a2⟩ := arg_eq hw hw2 (show i < 16 by omega)
      rw [if_pos c1, chk, if_pos (show inR ((w : Int) - (k : Int)) by unfold inR; omega), chk, if_pos (show inR (16 + (i : Int)) by unfold inR; omega), ea, inv_eq N a1 a2, Option.bind_some, idx_u (by omega), Option.bind_some, chk, if_pos (show inR ((i : Int) + 1) by unfold inR; omega), Int.toNat_natCast, u_set]
      refine rowP_l hk hw hw2 n (i + 1) _ (by simpa using hl) (by omega) (by omega) (fun j hjk => ?_)
      rw [getD_set (by omega)]
      by_cases e : j = i
      · subst e; rw [if_pos rfl, if_pos (by omega)]; unfold rowE; rw [if_neg (by omega)]
      · rw [if_neg e, hj j hjk]
        by_cases e2 : j < i
        · rw [if_pos e2, if_pos (by omega)]
        · rw [if_neg e2, if_neg (by omega)]
    · have c1 : ¬ (decide ((i : Int) < ((((k : Int)).toNat : Nat) : Int)) = true) := by rw [toNat_cast]; simp; omega
      rw [if_neg c1, row_ext hl (fun j hjk => by rw [hj j hjk, if_pos (by omega)])]
theorem row_unit {k w : Nat} (hw : w < k) : ((List.replicate k 0).set w 1) = rowS k w :=
  row_ext (by simp) (fun j hj => by
    rw [getD_set (by simpa using hw), rep_getD]
    unfold rowE
    rw [if_pos hw]
    by_cases e : j = w
    · subst e; simp
    · rw [if_neg e, if_neg (fun h => e h.symm)])
theorem rowP_eq {N k w : Nat} (hk : k ≤ 16) (hw : w < k + 16) (hN : 100 < N) : check_field_row N fieldT (w : Int) (k : Int) = some ((rowS k w).map u) := by
  unfold check_field_row
  rw [chk, if_pos ⟨by omega, by omega, by omega⟩, Int.toNat_natCast, rep_u]
  by_cases h : w < k
  · rw [if_pos (by simp; exact h), idx_u (by simpa using h), Option.bind_some, Int.toNat_natCast]
    rw [show (⟨1⟩ : U8) = u 1 from rfl, u_set, row_unit h]
  · rw [if_neg (by simp; omega)]
    have e : check_field_row_l1 N fieldT (w : Int) (k : Int) N 0 _ = _ := rowP_l (N := N) hk (by omega) hw N 0 (List.replicate k 0) (by simp) (by omega) (by omega) (fun j _ => by rw [rep_getD, if_neg (by omega)])
    rw [e]; rfl
theorem rowR_l {N k w : Nat} (hN : 300 < N) (hk : k ≤ 16) (hw2 : w < k + 16) : ∀ (n i : Nat) (l : Row), l.length = k → k < i + n → i ≤ k → (∀ j, j < k → l.getD j 0 = if j < i ∧ k ≤ w then rowE k w j else 0) →
    ref14_weights_l1 N (w : Int) (k : Int) n (i : Int) (l.map u) = some ((if k ≤ w then rowS k w else List.replicate k 0).map u)
  | 0, i, l, _, h1, h2, _ => by omega
  | n + 1, i, l, hl, h1, h2, hj => by
    rw [ref14_weights_l1.eq_2]
    by_cases hi : i < k
    · have c1 : decide ((i : Int) < (k : Int)) = true := by simp; exact hi
      rw [if_pos c1]
      by_cases hw : k ≤ w
      · obtain ⟨ea, a1, a2⟩ := arg_eq hw hw2 (show i < 16 by omega)
        rw [if_pos (by simp; exact hw), chk, if_pos (show inR ((w : Int) - (k : Int)) by unfold inR; omega)]
        unfold ref14_factor
        rw [chk, if_pos (show inR (16 + (i : Int)) by unfold inR; omega), ea, rinv_eq hN a1 a2, Option.bind_some, Option.bind_some, idx_u (by omega), Option.bind_some, chk, if_pos (show inR ((i : Int) + 1) by unfold inR; omega), Int.toNat_natCast, u_set]
        refine rowR_l hN hk hw2 n (i + 1) _ (by simpa using hl) (by omega) (by omega) (fun j hjk => ?_)
        rw [getD_set (by omega)]
        by_cases e : j = i
        · subst e; rw [if_pos rfl, if_pos ⟨by omega, hw⟩]; unfold rowE; rw [if_neg (by omega)]
        · rw [if_neg e, hj j hjk]
          by_cases e2 : j < i
          · rw [if_pos ⟨e2, hw⟩, if_pos ⟨by omega, hw⟩]
          · rw [if_neg (by omega), if_neg (by omega)]
      · rw [if_neg (by simp; omega), chk, if_pos (show inR ((i : Int) + 1) by unfold inR; omega)]
        exact rowR_l hN hk hw2 n (i + 1) l hl (by omega) (by omega) (fun j hjk => by rw [hj j hjk, if_neg (by omega), if_neg (by omega)])
    · have c1 : ¬ (decide ((i : Int) < (k : Int)) = true) := by simp; omega
      rw [if_neg c1]
      by_cases hw : k ≤ w
      · rw [if_pos hw, row_ext hl (fun j hjk => by rw [hj j hjk, if_pos ⟨by omega, hw⟩])]
      · rw [if_neg hw, show l = List.replicate k 0 from ext_getD (by simpa using hl) (fun j hjk => by rw [hj j (by omega), if_neg (by omega), rep_getD])]
theorem rowR_eq {N k w : Nat} (hk : k ≤ 16) (hw : w < k + 16) (hN : 300 < N) : ref14_weights N (w : Int) (k : Int) = some ((rowS k w).map u) := by
  unfold ref14_weights
  have e : ref14_weights_l1 N (w : Int) (k : Int) N 0 _ = _ := rowR_l (N := N) hN hk hw N 0 (List.replicate k 0) (by simp) (by omega) (by omega) (fun j _ => by rw [rep_getD, if_neg (by omega)])
  rw [chk, if_pos ⟨by omega, by omega, by omega⟩, Int.toNat_natCast, rep_u, e, Option.bind_some]
  by_cases h : w < k
  · rw [if_pos (by simp; exact h), if_neg (by omega), idx_u (by simpa using h), Option.bind_some, Int.toNat_natCast, show (⟨1⟩ : U8) = u 1 from rfl, u_set, row_unit h]
  · rw [if_neg (by simp; omega), if_pos (by omega)]

theorem maxLen_big : 100000 ≤ maxLen := by decide
theorem clone_eq (N : Nat) {d : List U8} (h : d.length ≤ 70000) : slices_Clone_Lbyte_byte N d = some d := by
  unfold slices_Clone_Lbyte_byte
  have := maxLen_big
  rw [chk, if_pos ⟨by simp; omega, by simp; omega⟩, List.nil_append]
theorem initP_l {N k s : Nat} {ws : List Nat} {K : Mx} (hk : k ≤ 16) (hs : s ≤ 70000) (hl : ws.length = k) (hb : ∀ w, w ∈ ws → w < k + 16) (hK : Shape k s K) (hN : 100 < N) : ∀ (n i : Nat) (R L : Mx), k < i + n → i ≤ k → R.length = k → L.length = k →
    (∀ r, r < i → rw_ R r = rw_ (matS k ws) r) → (∀ r, r < i → rw_ L r = rw_ K r) → initG N fieldT (wi ws) (um K) (k : Int) n (i : Int) (um R) (um L) = some (um (matS k ws), um K)
  | 0, i, R, L, h1, h2, _, _, _, _ => by omega
  | n + 1, i, R, L, h1, h2, lR, lL, hR, hL => by
    rw [initG]
    by_cases hi : i < k
    · have c1 : decide ((i : Int) < ((wi ws).length : Int)) = true := by simp [wi]; omega
      have hiw : i < ws.length := by omega
      have hiK : i < K.length := by rw [hK.1]; exact hi
      rw [if_pos c1, idx_wi hiw, Option.bind_some, rowP_eq hk (hb _ (List.getElem_mem hiw)) hN, Option.bind_some, idx_um hiK, Option.bind_some, clone_eq N (by rw [List.length_map, (hK.2 i hi).1]; exact hs), Option.bind_some,
        idx_um (show i < R.length by omega), Option.bind_some, idx_um (show i < L.length by omega), Option.bind_some, chk, if_pos (show inR ((i : Int) + 1) by unfold inR; omega), Int.toNat_natCast, um_set, um_set]
      refine initP_l hk hs hl hb hK hN n (i + 1) _ _ (by omega) (by omega) (by simpa using lR) (by simpa using lL) (fun r hr => ?_) (fun r hr => ?_)
      · rw [rw_set (by omega)]
        by_cases e : r = i
        · subst e; rw [if_pos rfl, rw_map hiw]
        · rw [if_neg e]; exact hR r (by omega)
      · rw [rw_set (by omega)]
        by_cases e : r = i
        · rw [if_pos e, e]
        · rw [if_neg e]; exact hL r (by omega)
    · have c1 : ¬ (decide ((i : Int) < ((wi ws).length : Int)) = true) := by simp [wi]; omega
      rw [if_neg c1, mx_ext (a := R) (b := matS k ws) (by rw [lR]; simp [matS, hl]) (fun r hr => hR r (by omega)), mx_ext (a := L) (b := K) (by rw [lL, hK.1]) (fun r hr => hL r (by omega))]
theorem um_snoc (R : Mx) (x : Row) : um R ++ [x.map u] = um (R ++ [x]) := by simp [um]
theorem take_snoc {R : Mx} {i : Nat} (h : i < R.length) : R.take i ++ [rw_ R i] = R.take (i + 1) := by rw [rw_lt h, List.take_succ_eq_append_getElem h]
theorem initR_l {N k s : Nat} {ws : List Nat} {K : Mx} (hk : k ≤ 16) (hs : s ≤ 70000) (hl : ws.length = k) (hb : ∀ w, w ∈ ws → w < k + 16) (hK : Shape k s K) (hN : 300 < N) : ∀ (n i : Nat), k < i + n → i ≤ k →
    initR N (wi ws) (um K) (k : Int) n (i : Int) (um ((matS k ws).take i)) (um (K.take i)) = some (um (matS k ws), um K)
  | 0, i, h1, h2 => by omega
  | n + 1, i, h1, h2 => by
    have lM : (matS k ws).length = k := by simp [matS, hl]
    have lK := hK.1
    have hmax := maxLen_big
    rw [initR]
    by_cases hi : i < k
    · have c1 : decide ((i : Int) < (k : Int)) = true := by simp; exact hi
      have hiw : i < ws.length := by omega
      have hiK : i < K.length := by omega
      have t1 : (um ((matS k ws).take i)).length = i := by rw [um_len, List.length_take]; omega
      have t2 : (um (K.take i)).length = i := by rw [um_len, List.length_take]; omega
      rw [if_pos c1, idx_wi hiw, Option.bind_some, rowR_eq hk (hb _ (List.getElem_mem hiw)) hN, Option.bind_some, chk, if_pos ⟨by omega, by omega⟩, idx_um hiK, Option.bind_some, chk, if_pos ⟨by simp only [List.length_nil, List.length_map, (hK.2 i hi).1]; omega, by simp only [List.length_nil, List.length_map, (hK.2 i hi).1]; omega⟩,
        chk, if_pos ⟨by omega, by omega⟩, chk, if_pos (show inR ((i : Int) + 1) by unfold inR; omega), um_snoc, um_snoc]
      have e1 : (matS k ws).take i ++ [rowS k ws[i]] = (matS k ws).take (i + 1) := by rw [← rw_map hiw, take_snoc (by omega)]
      rw [e1, take_snoc hiK]
      exact initR_l hk hs hl hb hK hN n (i + 1) (by omega) (by omega)
    · have c1 : ¬ (decide ((i : Int) < (k : Int)) = true) := by simp; omega
      rw [if_neg c1, List.take_of_length_le (by omega), List.take_of_length_le (by omega)]

/-- The data blocks, from k blocks of a codeword. -/
noncomputable def dataS (k : Nat) (ws : List Nat) (K : Mx) : Mx := solveS k k 0 (matS k ws) K
theorem solve_eq {N k s : Nat} {ws : List Nat} {K : Mx} (hk0 : 1 ≤ k) (hk : k ≤ 16) (hs : s ≤ 70000) (hl : ws.length = k) (nd : ws.Nodup) (hb : ∀ w, w ∈ ws → w < k + 16) (hK : Shape k s K) (hN : 70000 < N) :
    check_field_solve N fieldT (wi ws) (um K) = some (um (dataS k ws K)) ∧ ref14_solved N (wi ws) (um K) = some (um (dataS k ws K)) ∧ Shape k s (dataS k ws K) := by
  have hI : Inv k s 0 (matS k ws) K := ⟨shape_mat hl, hK, ker_init hk hl nd hb, fun r _ j hj => by omega⟩
  obtain ⟨h1, h2, h3⟩ := solve_l (N := N) hk hs hN k N 0 _ _ (by omega) (by omega) hI
  have lw : (wi ws).length = k := by simp [wi, hl]
  have lK : (um K).length = k := by rw [um_len]; exact hK.1
  have i1 : initG N fieldT (wi ws) (um K) (k : Int) N 0 _ _ = _ := initP_l (N := N) hk hs hl hb hK (by omega) N 0 (List.replicate k []) (List.replicate k []) (by omega) (by omega) (by simp) (by simp) (fun r hr => by omega) (fun r hr => by omega)
  have i2 : initR N (wi ws) (um K) (k : Int) N 0 _ _ = _ := initR_l (N := N) hk hs hl hb hK (by omega) N 0 (by omega) (by omega)
  have e0 : List.replicate k ([] : List U8) = um (List.replicate k []) := by simp [um]
  refine ⟨?_, ?_, h3⟩
  · unfold check_field_solve
    rw [lw, chk, if_pos ⟨by omega, by omega, by omega⟩, Int.toNat_natCast, e0, i1, Option.bind_some]
    exact h1
  · unfold ref14_solved
    rw [lK]
    have e1 : initR N (wi ws) (um K) (k : Int) N 0 [] [] = some (um (matS k ws), um K) := i2
    rw [e1, Option.bind_some]
    exact h2
end Go.Arm
namespace Go.Arm
open Go Go.RowKit Go.Gf

/-- The sum of blocks, each multiplied. -/
noncomputable def comb (D : Mx) (row : Row) : Nat → Nat → Row → Row
  | 0, _, o => o
  | n + 1, i, o => comb D row n (i + 1) (axpy (row.getD i 0) (rw_ D i) o)
theorem mulL {N : Nat} (hN : 10 < N) {f : Nat} (hf : f < 256) {y : Nat} (hy : y < 256) : ref14_times N (u f) (u y) = some (u (gm y f)) := by
  rw [times_eq hN hf hy, gm_comm]
theorem comb2_l {N f i k s : Nat} {row : Row} {D : Mx} {y1 : List U8} {t0 : Row} (hN : 10 < N) (hi : i < k) (hrow : row.length = k) (hfe : row.getD i 0 = f) (hf : f < 256) (hD : Shape k s D) (hy : y1.length = s) (hs : s ≤ 70000) (ht : ∀ x, x ∈ t0 → x < 256) (h0 : t0.length = s) : ∀ (n j : Nat) (t : Row), t.length = s → s < j + n → j ≤ s →
    (∀ q, q < s → t.getD q 0 = if q < j then t0.getD q 0 ^^^ gm ((rw_ D i).getD q 0) f else t0.getD q 0) → ref14_combined_l2 N (row.map u) (um D) y1 (i : Int) n (j : Int) (t.map u) = some ((axpy f (rw_ D i) t0).map u)
  | 0, j, t, _, h1, h2, _ => by omega
  | n + 1, j, t, htl, h1, h2, hj => by
    have hl := hD.2 i hi
    rw [ref14_combined_l2.eq_2, hy]
    by_cases hjs : j < s
    · have c1 : decide ((j : Int) < ((((s : Nat) : Int).toNat : Nat) : Int)) = true := by rw [toNat_cast]; simp; exact hjs
      have hxj : t.getD j 0 = t0.getD j 0 := by rw [hj j hjs, if_neg (Nat.lt_irrefl j)]
      have ex : (⟨xorK .u8 (u (t0.getD j 0)).n (u (gm ((rw_ D i).getD j 0) f)).n⟩ : U8) = u (t0.getD j 0 ^^^ gm ((rw_ D i).getD j 0) f) := by
        rw [u_n, u_n, xorK_u8 (getD_lt ht j) (gm_lt _ _)]; rfl
      rw [if_pos c1, idx_u (by omega), Option.bind_some, idx_u (by omega), Option.bind_some, idx_um (by rw [hD.1]; exact hi), Option.bind_some, idx_u (by rw [hl.1]; exact hjs), Option.bind_some, hfe, mulL hN hf (getD_lt hl.2 j), Option.bind_some, Option.bind_some,
        chk, if_pos (show inR ((j : Int) + 1) by unfold inR; omega), Int.toNat_natCast, hxj, ex, u_set]
      refine comb2_l hN hi hrow hfe hf hD hy hs ht h0 n (j + 1) _ (by simpa using htl) (by omega) (by omega) (fun q hq => ?_)
      rw [getD_set (by omega)]
      by_cases e : q = j
      · subst e; rw [if_pos rfl, if_pos (by omega)]
      · rw [if_neg e, hj q hq]
        by_cases e2 : q < j
        · rw [if_pos e2, if_pos (by omega)]
        · rw [if_neg e2, if_neg (by omega)]
    · have c1 : ¬ (decide ((j : Int) < ((((s : Nat) : Int).toNat : Nat) : Int)) = true) := by rw [toNat_cast]; simp; omega
      have he : t0.length = (rw_ D i).length := by rw [hl.1, h0]
      rw [if_neg c1, show t = axpy f (rw_ D i) t0 from ext_getD (by rw [axpy_len he, htl, h0]) (fun q hq => by rw [hj q (by omega), if_pos (by omega), axpy_getD he])]
theorem comb_l {N k s : Nat} {row : Row} {D : Mx} {y1 : List U8} (hN : 70000 < N) (hk : k ≤ 16) (hrow : row.length = k) (hr : ∀ x, x ∈ row → x < 256) (hD : Shape k s D) (hy : y1.length = s) (hs : s ≤ 70000) : ∀ (n m i : Nat) (o : Row), n < m → i + n = k → o.length = s → (∀ x, x ∈ o → x < 256) →
    (blockL N fieldT (um D) (row.map u) m (i : Int) (o.map u) = some ((comb D row n i o).map u) ∧ ref14_combined_l1 N (row.map u) (um D) y1 m (i : Int) (o.map u) = some ((comb D row n i o).map u)) ∧ (comb D row n i o).length = s ∧ ∀ x, x ∈ comb D row n i o → x < 256
  | _, 0, _, _, h, _, _, _ => absurd h (Nat.not_lt_zero _)
  | 0, m + 1, i, o, _, h, ho, hx => by
    have c1 : ¬ (decide ((i : Int) < ((row.map u).length : Int)) = true) := by simp; omega
    rw [blockL, ref14_combined_l1.eq_2, if_neg c1, if_neg c1]
    exact ⟨⟨rfl, rfl⟩, ho, hx⟩
  | n + 1, m + 1, i, o, hm, h, ho, hx => by
    have hi : i < k := by omega
    have hl := hD.2 i hi
    have c1 : decide ((i : Int) < ((row.map u).length : Int)) = true := by simp; omega
    have he : o.length = (rw_ D i).length := by rw [hl.1, ho]
    have hf : row.getD i 0 < 256 := getD_lt hr i
    have hin : inR ((i : Int) + 1) := by unfold inR; omega
    have a1 := (add_eq (N := N) (mulP N hf) (l := rw_ D i) (t := o) hl.2 hx he (by rw [hl.1]; exact len_in hs) (by rw [hl.1]; omega)).1
    have a2 : ref14_combined_l2 N (row.map u) (um D) y1 (i : Int) N 0 (o.map u) = _ := comb2_l (N := N) (by omega) hi hrow rfl hf hD hy hs hx ho N 0 o ho (by omega) (by omega) (fun q _ => by rw [if_neg (by omega)])
    obtain ⟨⟨b1, b2⟩, b3⟩ := comb_l hN hk hrow hr hD hy hs n m (i + 1) (axpy (row.getD i 0) (rw_ D i) o) (by omega) (by omega) (by rw [axpy_len he]; exact ho) (axpy_lt _ _ _ hx)
    refine ⟨⟨?_, ?_⟩, b3⟩
    · rw [blockL, if_pos c1, idx_u (by omega), Option.bind_some, idx_um (by rw [hD.1]; exact hi), Option.bind_some, a1, Option.bind_some, chk, if_pos hin]
      exact b1
    · rw [ref14_combined_l1.eq_2, if_pos c1, a2, Option.bind_some]
      dsimp only
      rw [chk, if_pos hin]
      exact b2
/-- A block of the codeword, from the data blocks. -/
noncomputable def blk (k s : Nat) (D : Mx) (w : Nat) : Row := comb D (rowS k w) k 0 (List.replicate s 0)
theorem rowS_lt (k w : Nat) : ∀ x, x ∈ rowS k w → x < 256 := by
  intro x hx
  obtain ⟨j, _, rfl⟩ := List.mem_map.1 hx
  exact rowE_lt k w j
theorem block_eq {N k s w : Nat} {D : Mx} (hN : 70000 < N) (hk0 : 1 ≤ k) (hk : k ≤ 16) (hs : s ≤ 70000) (hD : Shape k s D) (hw : w < k + 16) :
    check_field_block N fieldT (w : Int) (um D) = some ((blk k s D w).map u) ∧ ref14_weights N (w : Int) (k : Int) = some ((rowS k w).map u) ∧ ref14_combined N ((rowS k w).map u) (um D) = some ((blk k s D w).map u) := by
  have h0 : 0 < D.length := by rw [hD.1]; omega
  have d0 : idx (um D) 0 = some ((rw_ D 0).map u) := idx_um (r := 0) h0
  have l0 : (((rw_ D 0).map u).length) = s := by rw [List.length_map]; exact (hD.2 0 (by omega)).1
  have lD : (um D).length = k := by rw [um_len]; exact hD.1
  have lr : (rowS k w).length = k := by simp [rowS]
  obtain ⟨⟨b1, b2⟩, _⟩ := comb_l (y1 := (rw_ D 0).map u) hN hk lr (rowS_lt k w) hD l0 hs k N 0 (List.replicate s 0) (by omega) (by omega) (by simp) (by intro x hx; rw [List.eq_of_mem_replicate hx]; decide)
  have b1' : blockL N fieldT (um D) ((rowS k w).map u) N 0 ((List.replicate s 0).map u) = _ := b1
  have b2' : ref14_combined_l1 N ((rowS k w).map u) (um D) ((rw_ D 0).map u) N 0 ((List.replicate s 0).map u) = _ := b2
  refine ⟨?_, rowR_eq hk hw (by omega), ?_⟩
  · unfold check_field_block
    rw [d0, Option.bind_some, l0, chk, if_pos ⟨by omega, by omega, by omega⟩, lD, rowP_eq hk hw (by omega), Option.bind_some, Int.toNat_natCast, rep_u, b1']
    rfl
  · unfold ref14_combined
    rw [d0, Option.bind_some, l0, chk, if_pos ⟨by omega, by omega, by omega⟩, Int.toNat_natCast, rep_u, b2']
    rfl

/-- Whether a block is there. -/
def isT (t : List Bool) (i : Nat) : Bool := t.getD i false
theorem idx_t {t : List Bool} {i : Nat} (h : i < t.length) : idx t (i : Int) = some (isT t i) := by
  rw [idx_n h]; unfold isT; rw [List.getD_eq_getElem?_getD, List.getElem?_eq_getElem h]; rfl
def pk (t : List Bool) (i : Nat) : List Nat := (List.range i).filter (isT t)
def sel (B : Mx) (W : List Nat) : Mx := W.map (rw_ B)
theorem pk_pos {t : List Bool} {i : Nat} (h : isT t i = true) : pk t (i + 1) = pk t i ++ [i] := by
  unfold pk; rw [List.range_succ, List.filter_append]; simp [h]
theorem pk_neg {t : List Bool} {i : Nat} (h : ¬ isT t i = true) : pk t (i + 1) = pk t i := by
  unfold pk; rw [List.range_succ, List.filter_append]; simp [h]
theorem pk_len (t : List Bool) (i : Nat) : (pk t i).length ≤ i := by
  unfold pk; have := List.length_filter_le (isT t) (List.range i); simpa using this
theorem pk_lt {t : List Bool} {i w : Nat} (h : w ∈ pk t i) : w < i := List.mem_range.1 (List.mem_filter.1 h).1
theorem pk_nodup (t : List Bool) (i : Nat) : (pk t i).Nodup := List.Pairwise.filter _ List.nodup_range
theorem wi_len (W : List Nat) : (wi W).length = W.length := by simp [wi]
theorem wi_snoc (W : List Nat) (i : Nat) : wi W ++ [(i : Int)] = wi (W ++ [i]) := by simp [wi]
theorem sel_snoc (B : Mx) (W : List Nat) (i : Nat) : sel B W ++ [rw_ B i] = sel B (W ++ [i]) := by simp [sel]
theorem sel_len (B : Mx) (W : List Nat) : (sel B W).length = W.length := by simp [sel]
theorem rl1_eq {N : Nat} {B : Mx} {t : List Bool} (ht : t.length = B.length) (hB : B.length ≤ 70000) : ∀ (n i : Nat), B.length < i + n → i ≤ B.length →
    check_Repair_l1 N (um B) t n (wi (pk t i)) (um (sel B (pk t i))) (i : Int) = some (wi (pk t B.length), um (sel B (pk t B.length)))
    ∧ ref14_Repair_l1 N (um B) t n (wi (pk t i)) (um (sel B (pk t i))) (i : Int) = some (wi (pk t B.length), um (sel B (pk t B.length)))
  | 0, i, h1, h2 => by omega
  | n + 1, i, h1, h2 => by
    have hmax := maxLen_big
    rw [check_Repair_l1.eq_2, ref14_Repair_l1.eq_2]
    by_cases hi : i < B.length
    · have c1 : decide ((i : Int) < ((um B).length : Int)) = true := by rw [um_len]; simp; exact hi
      have hin : inR ((i : Int) + 1) := by unfold inR; omega
      have hpl := pk_len t i
      obtain ⟨ih1, ih2⟩ := rl1_eq (N := N) ht hB n (i + 1) (by omega) (by omega)
      rw [if_pos c1, if_pos c1, idx_um hi, Option.bind_some, idx_t (by omega), Option.bind_some, Option.bind_some]
      by_cases hp : isT t i = true
      · have k1 : ((wi (pk t i)).length + ([(i : Int)] : List Int).length) * 8 ≤ 140737488355328 ∧ (wi (pk t i)).length + ([(i : Int)] : List Int).length ≤ maxLen := by
          rw [wi_len]; exact ⟨by simp only [List.length_singleton]; omega, by simp only [List.length_singleton]; omega⟩
        have k2 : ((um (sel B (pk t i))).length + ([(rw_ B i).map u] : List (List U8)).length) * 24 ≤ 140737488355328 ∧ (um (sel B (pk t i))).length + ([(rw_ B i).map u] : List (List U8)).length ≤ maxLen := by
          rw [um_len, sel_len]; exact ⟨by simp only [List.length_singleton]; omega, by simp only [List.length_singleton]; omega⟩
        rw [pk_pos hp] at ih1 ih2
        rw [if_pos hp, if_pos hp, Option.bind_some, chk, if_pos k1, chk, if_pos k2, chk, if_pos hin, chk, if_pos k1, chk, if_pos k2, chk, if_pos hin, wi_snoc, um_snoc, sel_snoc]
        exact ⟨ih1, ih2⟩
      · rw [pk_neg hp] at ih1 ih2
        rw [if_neg hp, if_neg hp, chk, if_pos hin, chk, if_pos hin]
        exact ⟨ih1, ih2⟩
    · have c1 : ¬ (decide ((i : Int) < ((um B).length : Int)) = true) := by rw [um_len]; simp; omega
      have : i = B.length := by omega
      rw [if_neg c1, if_neg c1, this]
      exact ⟨rfl, rfl⟩

theorem even_l {N : Nat} {X : Mx} (hX : 0 < X.length) (hl : X.length ≤ 70000) : ∀ (n i : Nat), X.length < i + n → i ≤ X.length →
    ((∀ j, i ≤ j → j < X.length → (rw_ X j).length = (rw_ X 0).length) ∧ slices_IndexFunc_LLbyte_Lbyte_l1 N (um X) (fun x => check_sized_1 N x (um X)) n (i : Int) = some (.inl ()) ∧ ref14_Repair_l2 N (um X) n (i : Int) = some (.inl ()))
    ∨ ∃ j : Nat, slices_IndexFunc_LLbyte_Lbyte_l1 N (um X) (fun x => check_sized_1 N x (um X)) n (i : Int) = some (.inr (j : Int)) ∧ ref14_Repair_l2 N (um X) n (i : Int) = some (.inr ([], 26))
  | 0, i, h1, h2 => by omega
  | n + 1, i, h1, h2 => by
    have d0 : idx (um X) 0 = some ((rw_ X 0).map u) := idx_um (r := 0) hX
    rw [slices_IndexFunc_LLbyte_Lbyte_l1.eq_2, ref14_Repair_l2.eq_2]
    by_cases hi : i < X.length
    · have c1 : decide ((i : Int) < ((um X).length : Int)) = true := by rw [um_len]; simp; exact hi
      have hin : inR ((i : Int) + 1) := by unfold inR; omega
      rw [if_pos c1, if_pos c1, idx_um hi, Option.bind_some]
      have q1 : check_sized_1 N ((rw_ X i).map u) (um X) = some (!decide ((((rw_ X i).map u).length : Int) = (((rw_ X 0).map u).length : Int))) := by
        unfold check_sized_1; rw [d0, Option.bind_some]
      rw [q1, Option.bind_some, Option.bind_some, d0, Option.bind_some]
      by_cases he : (rw_ X i).length = (rw_ X 0).length
      · have c2 : ¬ ((!decide ((((rw_ X i).map u).length : Int) = (((rw_ X 0).map u).length : Int))) = true) := by simp [he]
        rw [if_neg c2, if_neg c2, chk, if_pos hin, chk, if_pos hin]
        rcases even_l (N := N) hX hl n (i + 1) (by omega) (by omega) with ⟨a, b⟩ | b
        · refine Or.inl ⟨fun j hj1 hj2 => ?_, b⟩
          by_cases e : j = i
          · rw [e]; exact he
          · exact a j (by omega) hj2
        · exact Or.inr b
      · have c2 : (!decide ((((rw_ X i).map u).length : Int) = (((rw_ X 0).map u).length : Int))) = true := by
          simp only [List.length_map, Bool.not_eq_true', decide_eq_false_iff_not]; omega
        rw [if_pos c2, if_pos c2]
        exact Or.inr ⟨i, rfl, rfl⟩
    · have c1 : ¬ (decide ((i : Int) < ((um X).length : Int)) = true) := by rw [um_len]; simp; omega
      rw [if_neg c1, if_neg c1]
      exact Or.inl ⟨fun j h3 h4 => by omega, rfl, rfl⟩
end Go.Arm
namespace Go.Arm
open Go Go.RowKit Go.Gf

/-- Blocks of bytes that one law looks at. -/
structure Okb (B : Mx) : Prop where
  len : B.length ≤ 40
  row : ∀ i, i < B.length → ∀ x, x ∈ rw_ B i → x < 256
/-- What Repair returns: an error, or the blocks, all of one length. -/
def Good (k : Int) (r : List (List U8) × Int) : Prop :=
  (r.2 ≠ 0 ∧ r.1 = []) ∨ (r.2 = 0 ∧ ∃ (M : Mx) (kn s : Nat), k = kn ∧ r.1 = um M ∧ 1 ≤ kn ∧ kn ≤ 16 ∧ kn ≤ M.length ∧ M.length ≤ 40 ∧ s ≤ 65536 ∧ Shape M.length s M)
theorem bad {k e : Int} (h : e ≠ 0) : Good k ([], e) := .inl ⟨h, rfl⟩
theorem blk_ok {k s w : Nat} {D : Mx} (hk : k ≤ 16) (hs : s ≤ 70000) (hD : Shape k s D) (hk0 : 1 ≤ k) : (blk k s D w).length = s ∧ ∀ x, x ∈ blk k s D w → x < 256 := by
  have l0 : (((rw_ D 0).map u).length) = s := by rw [List.length_map]; exact (hD.2 0 (by omega)).1
  have lr : (rowS k w).length = k := by simp [rowS]
  exact (comb_l (N := 70001) (y1 := (rw_ D 0).map u) (by omega) hk lr (rowS_lt k w) hD l0 hs k 70001 0 (List.replicate s 0) (by omega) (by omega) (by simp) (by intro x hx; rw [List.eq_of_mem_replicate hx]; decide)).2
theorem blks_ok {k s n : Nat} {D : Mx} (hk : k ≤ 16) (hs : s ≤ 70000) (hD : Shape k s D) (hk0 : 1 ≤ k) : Shape n s ((List.range n).map (blk k s D)) :=
  ⟨by simp, fun r hr => by rw [rw_lt (by simpa using hr), List.getElem_map]; exact blk_ok hk hs hD hk0⟩
theorem range_snoc {β : Type} (f : Nat → β) (i : Nat) : (List.range i).map f ++ [f i] = (List.range (i + 1)).map f := by rw [List.range_succ, List.map_append]; rfl
theorem loop_eq {N k s : Nat} {B D : Mx} {t : List Bool} (hN : 70000 < N) (hk0 : 1 ≤ k) (hk : k ≤ 16) (hs : s ≤ 70000) (hD : Shape k s D) (hB : B.length ≤ 40) (hBk : B.length ≤ k + 16) (ht : t.length = B.length) : ∀ (n i : Nat) (A : Mx), B.length < i + n → i ≤ B.length → A.length = B.length → (∀ j, j < i → rw_ A j = blk k s D j) →
    ∃ r, check_Repair_l2 N (um B) t fieldT (um D) n (i : Int) (um A) = some r ∧ ref14_Repair_l3 N (um B) t (k : Int) (um D) n (um ((List.range i).map (blk k s D))) (i : Int) = some r ∧ (r = .inr ([], 20) ∨ r = .inl (um ((List.range B.length).map (blk k s D))))
  | 0, i, A, h1, h2, _, _ => by omega
  | n + 1, i, A, h1, h2, hA, hj => by
    have hmax := maxLen_big
    rw [check_Repair_l2.eq_2, ref14_Repair_l3.eq_2]
    by_cases hi : i < B.length
    · have c1 : decide ((i : Int) < ((((um B).length : Int).toNat : Nat) : Int)) = true := by rw [toNat_cast, um_len]; simp; exact hi
      have c2 : decide ((i : Int) < ((um B).length : Int)) = true := by rw [um_len]; simp; exact hi
      have hin : inR ((i : Int) + 1) := by unfold inR; omega
      obtain ⟨b1, b2, b3⟩ := block_eq hN hk0 hk hs hD (show i < k + 16 by omega)
      have hset : ∀ j, j < i + 1 → rw_ (A.set i (blk k s D i)) j = blk k s D j := fun j hji => by
        rw [rw_set (by omega)]
        by_cases e : j = i
        · rw [if_pos e, e]
        · rw [if_neg e]; exact hj j (by omega)
      have i1 : idx (um (A.set i (blk k s D i))) (i : Int) = some ((blk k s D i).map u) := by rw [idx_um (by simp; omega), hset i (by omega)]
      have k2 : ((um ((List.range i).map (blk k s D))).length + ([(blk k s D i).map u] : List (List U8)).length) * 24 ≤ 140737488355328 ∧ (um ((List.range i).map (blk k s D))).length + ([(blk k s D i).map u] : List (List U8)).length ≤ maxLen := by
        rw [um_len]; simp only [List.length_map, List.length_range, List.length_singleton]; exact ⟨by omega, by omega⟩
      rw [if_pos c1, if_pos c2, b1, b2, Option.bind_some, Option.bind_some, b3, Option.bind_some, idx_um (show i < A.length by omega), Option.bind_some, idx_t (by omega), Option.bind_some, Option.bind_some, Int.toNat_natCast, um_set]
      have ih := loop_eq (N := N) hN hk0 hk hs hD hB hBk ht n (i + 1) (A.set i (blk k s D i)) (by omega) (by omega) (by simpa using hA) hset
      by_cases hp : isT t i = true
      · rw [if_pos hp, if_pos hp, i1, Option.bind_some, idx_um hi, Option.bind_some]
        unfold bytes_Equal ref14_same
        rw [Option.bind_some, Option.bind_some, Option.bind_some, Option.bind_some, Option.bind_some]
        dsimp only
        by_cases he : txtOf ((blk k s D i).map u) = txtOf ((rw_ B i).map u)
        · have c3 : ¬ ((!decide (txtOf ((blk k s D i).map u) = txtOf ((rw_ B i).map u))) = true) := by simp [he]
          rw [if_neg c3, if_neg c3, chk, if_pos hin, chk, if_pos k2, chk, if_pos hin, um_snoc, range_snoc]
          exact ih
        · have c3 : (!decide (txtOf ((blk k s D i).map u) = txtOf ((rw_ B i).map u))) = true := by simp [he]
          rw [if_pos c3, if_pos c3]
          exact ⟨_, rfl, rfl, .inl rfl⟩
      · rw [if_neg hp, if_neg hp, Option.bind_some, Option.bind_some]
        dsimp only
        rw [if_neg (by simp), if_neg (by simp), chk, if_pos hin, chk, if_pos k2, chk, if_pos hin, um_snoc, range_snoc]
        exact ih
    · have c1 : ¬ (decide ((i : Int) < ((((um B).length : Int).toNat : Nat) : Int)) = true) := by rw [toNat_cast, um_len]; simp; omega
      have c2 : ¬ (decide ((i : Int) < ((um B).length : Int)) = true) := by rw [um_len]; simp; omega
      have e : i = B.length := by omega
      rw [if_neg c1, if_neg c2]
      rw [mx_ext (a := A) (b := (List.range i).map (blk k s D)) (by simp; omega) (fun r hr => by rw [hj r (by omega), rw_lt (by simp; omega)]; simp)]
      exact ⟨_, rfl, rfl, .inr (by rw [e])⟩
theorem rng (k : Int) (L : Nat) (_hL : L ≤ 70000) : (if decide (k < 1) then
  (some (true))
  else
  (if decide (16 < k) then
  (some (true))
  else
  (if decide ((L : Int) < k) then
  (some (true))
  else
  (chk (inR (k + 16)) <|
  some (decide ((k + 16) < (L : Int))))))) = some (decide (k < 1 ∨ 16 < k ∨ (L : Int) < k ∨ k + 16 < (L : Int))) := by
  by_cases h1 : k < 1
  · rw [if_pos (decide_eq_true h1), decide_eq_true (.inl h1)]
  · rw [if_neg (by simpa using h1)]
    by_cases h2 : 16 < k
    · rw [if_pos (decide_eq_true h2), decide_eq_true (.inr (.inl h2))]
    · rw [if_neg (by simpa using h2)]
      by_cases h3 : (L : Int) < k
      · rw [if_pos (decide_eq_true h3), decide_eq_true (.inr (.inr (.inl h3)))]
      · rw [if_neg (by simpa using h3), chk, if_pos (show inR (k + 16) by unfold inR; omega)]
        congr 1
        simp [h1, h2, h3]
theorem cut_wi {W : List Nat} {k : Nat} (h : k ≤ W.length) : cut (wi W) 0 (k : Int) = some (wi (W.take k)) := by
  unfold cut
  rw [if_pos ⟨by omega, by omega, by rw [wi_len]; omega⟩]
  simp [wi, List.map_take]
theorem cut_um0 {X : Mx} {k : Nat} (h : k ≤ X.length) : cut (um X) 0 (k : Int) = some (um (X.take k)) := by
  unfold cut
  rw [if_pos ⟨by omega, by omega, by rw [um_len]; omega⟩]
  simp [um, List.map_take]
theorem rw_take {X : Mx} {k r : Nat} (h : r < k) (hk : k ≤ X.length) : rw_ (X.take k) r = rw_ X r := by
  rw [rw_lt (by simp; omega), rw_lt (by omega)]; simp
theorem rw_sel {B : Mx} {W : List Nat} {r : Nat} (h : r < W.length) : rw_ (sel B W) r = rw_ B W[r] := by
  rw [rw_lt (by simpa [sel] using h)]; simp [sel]
theorem repair_eq {N : Nat} {B : Mx} (hB : Okb B) (t : List Bool) (k : Int) (hN : 70000 < N) :
    ∃ r, check_Repair N (um B) t k = some r ∧ ref14_Repair N (um B) t k = some r ∧ Good k r := by
  have hlen := hB.len
  unfold check_Repair ref14_Repair
  rw [um_len, rng k B.length (by omega), Option.bind_some, Option.bind_some]
  dsimp only
  by_cases hr : k < 1 ∨ 16 < k ∨ (B.length : Int) < k ∨ k + 16 < (B.length : Int)
  · rw [decide_eq_true hr, if_pos rfl, if_pos rfl, Option.bind_some]
    exact ⟨_, rfl, rfl, bad (by decide)⟩
  rw [decide_eq_false hr, if_neg Bool.false_ne_true, if_neg Bool.false_ne_true]
  by_cases ht : t.length = B.length
  case neg =>
    have c : (!decide ((t.length : Int) = (B.length : Int))) = true := by simp only [Bool.not_eq_true', decide_eq_false_iff_not]; omega
    rw [if_pos c, if_pos c, Option.bind_some]
    exact ⟨_, rfl, rfl, bad (by decide)⟩
  have c : ¬ ((!decide ((t.length : Int) = (B.length : Int))) = true) := by simp [ht]
  rw [if_neg c, if_neg c, Option.bind_some]
  dsimp only
  obtain ⟨kn, rfl⟩ : ∃ kn : Nat, k = (kn : Int) := ⟨k.toNat, by omega⟩
  obtain ⟨l1, l2⟩ := rl1_eq (N := N) ht (by omega) N 0 (by omega) (by omega)
  have l1' : check_Repair_l1 N (um B) t N [] [] 0 = _ := l1
  have l2' : ref14_Repair_l1 N (um B) t N [] [] 0 = _ := l2
  rw [l1', l2', Option.bind_some, Option.bind_some]
  dsimp only
  generalize hW : pk t B.length = W
  have Wn : W.Nodup := hW ▸ pk_nodup t B.length
  have Wl : ∀ w, w ∈ W → w < B.length := fun w hw => pk_lt (hW ▸ hw)
  have WL : W.length ≤ B.length := hW ▸ pk_len t B.length
  rw [um_len, sel_len]
  by_cases hlost : (W.length : Int) < (kn : Int)
  · rw [if_pos (decide_eq_true hlost), if_pos (decide_eq_true hlost)]
    exact ⟨_, rfl, rfl, bad (by decide)⟩
  rw [if_neg (by simpa using hlost), if_neg (by simpa using hlost)]
  have hW0 : 0 < W.length := by omega
  have hX0 : 0 < (sel B W).length := by rw [sel_len]; exact hW0
  have d0 : idx (um (sel B W)) 0 = some ((rw_ (sel B W) 0).map u) := idx_um (r := 0) hX0
  have row : ∀ r, r < W.length → ∀ x, x ∈ rw_ (sel B W) r → x < 256 := fun r hr => by
    rw [rw_sel hr]; exact hB.row _ (Wl _ (List.getElem_mem hr))
  by_cases h8 : 65536 < (rw_ (sel B W) 0).length
  · have c8 : decide ((65536 : Int) < (((rw_ (sel B W) 0).map u).length : Int)) = true := by simp; omega
    have sz8 : check_sized N (um (sel B W)) = some 8 := by
      unfold check_sized
      rw [d0, Option.bind_some, if_pos c8]
    rw [sz8, d0, Option.bind_some, Option.bind_some, if_pos c8]
    exact ⟨_, rfl, rfl, bad (by decide)⟩
  have c8 : ¬ (decide ((65536 : Int) < (((rw_ (sel B W) 0).map u).length : Int)) = true) := by simp; omega
  have sz0 : slices_IndexFunc_LLbyte_Lbyte_l1 N (um (sel B W)) (fun x => check_sized_1 N x (um (sel B W))) N 0 = some (.inl ()) → check_sized N (um (sel B W)) = some 0 := fun ho => by
    unfold check_sized
    rw [d0, Option.bind_some, if_neg c8]
    unfold slices_ContainsFunc_LLbyte_Lbyte slices_IndexFunc_LLbyte_Lbyte
    rw [ho, Option.bind_some]
    rfl
  have sz1 : ∀ j : Nat, slices_IndexFunc_LLbyte_Lbyte_l1 N (um (sel B W)) (fun x => check_sized_1 N x (um (sel B W))) N 0 = some (.inr (j : Int)) → check_sized N (um (sel B W)) = some 26 := fun j ho => by
    unfold check_sized
    rw [d0, Option.bind_some, if_neg c8]
    unfold slices_ContainsFunc_LLbyte_Lbyte slices_IndexFunc_LLbyte_Lbyte
    rw [ho, Option.bind_some]
    show (Option.bind (some (decide (0 ≤ (j : Int)))) fun y17 => if y17 then some 26 else some 0) = _
    rw [Option.bind_some, if_pos (by simp)]
  rw [d0, Option.bind_some, if_neg c8]
  rcases even_l (N := N) hX0 (by rw [sel_len]; omega) N 0 (by rw [sel_len]; omega) (by omega) with ⟨ev, e1, e2⟩ | ⟨j, e1, e2⟩
  case inr =>
    have e1' : slices_IndexFunc_LLbyte_Lbyte_l1 N (um (sel B W)) (fun x => check_sized_1 N x (um (sel B W))) N 0 = _ := e1
    have e2' : ref14_Repair_l2 N (um (sel B W)) N 0 = _ := e2
    rw [sz1 j e1', e2', Option.bind_some, Option.bind_some]
    dsimp only
    exact ⟨_, rfl, rfl, bad (by decide)⟩
  have e1' : slices_IndexFunc_LLbyte_Lbyte_l1 N (um (sel B W)) (fun x => check_sized_1 N x (um (sel B W))) N 0 = _ := e1
  have e2' : ref14_Repair_l2 N (um (sel B W)) N 0 = _ := e2
  have hkW : kn ≤ W.length := by omega
  have hkX : kn ≤ (sel B W).length := by rw [sel_len]; exact hkW
  rw [sz0 e1', e2', Option.bind_some, Option.bind_some]
  dsimp only
  have c9 : ¬ ((!decide ((0 : Int) = 0)) = true) := by simp
  rw [if_neg c9, cut_wi hkW, cut_um0 hkX]
  unfold check_newField
  rw [Option.bind_some, Option.bind_some, Option.bind_some, Option.bind_some, Option.bind_some]
  have hs : (rw_ (sel B W) 0).length ≤ 70000 := by omega
  have hK : Shape kn (rw_ (sel B W) 0).length ((sel B W).take kn) := ⟨by rw [List.length_take]; omega, fun r hr => by
    rw [rw_take hr hkX]; exact ⟨ev r (by omega) (by omega), row r (by omega)⟩⟩
  obtain ⟨s1, s2, hD⟩ := solve_eq (N := N) (k := kn) (s := (rw_ (sel B W) 0).length) (ws := W.take kn) (K := (sel B W).take kn) (by omega) (by omega) hs (by rw [List.length_take]; omega) (Wn.sublist (List.take_sublist _ _)) (fun w hw => by have := Wl w (List.mem_of_mem_take hw); omega) hK hN
  rw [s1, s2, Option.bind_some, Option.bind_some, chk, if_pos ⟨by omega, by omega, by omega⟩, Int.toNat_natCast]
  obtain ⟨r, r1, r2, r3⟩ := loop_eq (N := N) (t := t) (B := B) hN (by omega) (by omega) hs hD (by omega) (by omega) ht N 0 (List.replicate B.length []) (by omega) (by omega) (by simp) (fun j hj => by omega)
  have e0 : List.replicate B.length ([] : List U8) = um (List.replicate B.length []) := by simp [um]
  have r1' : check_Repair_l2 N (um B) t fieldT (um (dataS kn (W.take kn) ((sel B W).take kn))) N 0 (um (List.replicate B.length [])) = _ := r1
  have r2' : ref14_Repair_l3 N (um B) t (kn : Int) (um (dataS kn (W.take kn) ((sel B W).take kn))) N [] 0 = _ := r2
  rw [e0, r1', r2', Option.bind_some]
  rcases r3 with rfl | rfl
  · exact ⟨_, rfl, rfl, bad (by decide)⟩
  · exact ⟨_, rfl, rfl, .inr ⟨rfl, _, kn, (rw_ (sel B W) 0).length, rfl, rfl, by omega, by omega, by simp; omega, by simp; omega, by omega, by rw [List.length_map, List.length_range]; exact blks_ok (by omega) hs hD (by omega)⟩⟩
theorem blocks_um (a : List (List U8)) (h : ∀ x ∈ a, ∀ y ∈ x, (Lit.int .u8 y.n).wf = true) : ∃ B : Mx, a = um B ∧ ∀ i, i < B.length → ∀ x, x ∈ rw_ B i → x < 256 := by
  have key : ∀ y : U8, (Lit.int .u8 y.n).wf = true → u y.n.toNat = y ∧ y.n.toNat < 256 := fun y hy => by
    have h1 : 0 ≤ y.n ∧ y.n < 256 := by
      have a1 : IntKind.u8.min = 0 := by decide
      have a2 : IntKind.u8.max = 255 := by decide
      simp only [Lit.wf, a1, a2, Bool.and_eq_true, decide_eq_true_eq] at hy
      omega
    refine ⟨?_, by omega⟩
    unfold u
    rw [Int.toNat_of_nonneg h1.1]
  refine ⟨a.map (List.map fun y => y.n.toNat), ?_, fun i hi x hx => ?_⟩
  · unfold um
    rw [List.map_map]
    apply List.ext_getElem (by simp)
    intro i h1 h2
    rw [List.getElem_map]
    simp only [Function.comp, List.map_map]
    apply List.ext_getElem (by simp)
    intro j h3 h4
    rw [List.getElem_map]
    simp only [Function.comp]
    exact (key _ (h _ (List.getElem_mem h1) _ (List.getElem_mem h3))).1.symm
  · rw [rw_lt hi, List.getElem_map] at hx
    obtain ⟨y, hy, rfl⟩ := List.mem_map.1 hx
    exact (key y (h _ (List.getElem_mem (by simpa using hi)) y hy)).2
end Go.Arm
namespace Go.Arm
open Go Go.RowKit Go.Gf

theorem or_i64 {a b : Nat} (ha : a < 4294967296) (hb : b < 4294967296) : orK .i64 (a : Int) (b : Int) = ((a ||| b : Nat) : Int) := by
  unfold orK
  have e1 : (BitVec.ofInt (IntKind.bits .i64) (a : Int)).toNat = a := by show (BitVec.ofInt 64 (a : Int)).toNat = a; rw [bv_nat]; exact Nat.mod_eq_of_lt (by omega)
  have e2 : (BitVec.ofInt (IntKind.bits .i64) (b : Int)).toNat = b := by show (BitVec.ofInt 64 (b : Int)).toNat = b; rw [bv_nat]; exact Nat.mod_eq_of_lt (by omega)
  rw [BitVec.toNat_or, e1, e2]
  have h : a ||| b < 2 ^ 32 := Nat.or_lt_two_pow ha hb
  exact wrap_in (by unfold inR; omega)
theorem shl_i64 {a : Nat} (ha : a < 256) {i : Nat} (hi : i ≤ 24) : shlK .i64 (a : Int) (i : Int) = ((2 ^ i * a : Nat) : Int) := by
  unfold shlK
  have e : min ((i : Int)).toNat (IntKind.bits .i64) = i := by show min ((i : Int)).toNat 64 = i; omega
  rw [e]
  have h1 : (2 : Nat) ^ i ≤ 2 ^ 24 := Nat.pow_le_pow_right (by decide) hi
  have h2 : 2 ^ i * a ≤ 2 ^ 24 * 255 := Nat.mul_le_mul h1 (by omega)
  have h3 : (a : Int) * 2 ^ i = ((2 ^ i * a : Nat) : Int) := by rw [Int.mul_comm]; norm_cast
  rw [h3]
  exact wrap_in (by unfold inR; omega)
theorem or_add {i b : Nat} (h : b < 2 ^ i) (a : Nat) : 2 ^ i * a ||| b = 2 ^ i * a + b := (Nat.two_pow_add_eq_or_of_lt h a).symm
/-- The number that four bytes say. -/
def num4 (a b c d : Nat) : Nat := a * 16777216 + b * 65536 + c * 256 + d
theorem head4 {a b c d : Nat} (ha : a < 256) (hb : b < 256) (hc : c < 256) (hd : d < 256) :
    orK .i64 (orK .i64 (orK .i64 (shlK .i64 (a : Int) 24) (shlK .i64 (b : Int) 16)) (shlK .i64 (c : Int) 8)) (d : Int) = (num4 a b c d : Int) := by
  have s1 : shlK .i64 (a : Int) 24 = _ := shl_i64 ha (i := 24) (by decide)
  have s2 : shlK .i64 (b : Int) 16 = _ := shl_i64 hb (i := 16) (by decide)
  have s3 : shlK .i64 (c : Int) 8 = _ := shl_i64 hc (i := 8) (by decide)
  rw [s1, s2, s3, or_i64 (by omega) (by omega), or_add (by omega), show 2 ^ 24 * a + 2 ^ 16 * b = 2 ^ 16 * (256 * a + b) by omega, or_i64 (by omega) (by omega), or_add (by omega), show 2 ^ 16 * (256 * a + b) + 2 ^ 8 * c = 2 ^ 8 * (65536 * a + 256 * b + c) by omega, or_i64 (by omega) (by omega), or_add (by omega)]
  unfold num4
  congr 1
  omega

theorem flat_succ {X : Mx} {i : Nat} (h : i < X.length) : (X.take (i + 1)).flatten = (X.take i).flatten ++ rw_ X i := by
  rw [← take_snoc h, List.flatten_append, List.flatten_singleton]
theorem flat_len {X : Mx} {s : Nat} (hs : Shape X.length s X) : ∀ i, i ≤ X.length → (X.take i).flatten.length = i * s
  | 0, _ => by simp
  | i + 1, h => by rw [flat_succ (by omega), List.length_append, flat_len hs i (by omega), (hs.2 i (by omega)).1, Nat.succ_mul]
theorem um_app (a b : Row) : a.map u ++ b.map u = (a ++ b).map u := by rw [List.map_append]
theorem le_blk {i s : Nat} (hi : i ≤ 40) (hs : s ≤ 65536) : i * s ≤ 2621440 := by
  have := Nat.mul_le_mul hi hs
  omega
theorem con1 {N s : Nat} {X : Mx} (hs : Shape X.length s X) (hs6 : s ≤ 65536) (hX : X.length ≤ 40) : ∀ (n i : Nat), X.length < i + n → i ≤ X.length → slices_Concat_Lbyte_byte_l1 N (um X) n (((X.take i).flatten.length : Nat) : Int) (i : Int) = some (X.flatten.length : Int)
  | 0, i, h1, h2 => by omega
  | n + 1, i, h1, h2 => by
    rw [slices_Concat_Lbyte_byte_l1.eq_2]
    by_cases hi : i < X.length
    · have c1 : decide ((i : Int) < ((um X).length : Int)) = true := by rw [um_len]; simp; exact hi
      have e : (((X.take i).flatten.length : Nat) : Int) + (((rw_ X i).map u).length : Int) = (((X.take (i + 1)).flatten.length : Nat) : Int) := by
        rw [flat_succ hi, List.length_append, List.length_map]; omega
      have hl := flat_len hs (i + 1) (by omega)
      have hb := le_blk (i := i + 1) (s := s) (by omega) hs6
      rw [if_pos c1, idx_um hi, Option.bind_some, e, chk, if_pos (show inR _ by unfold inR; omega), if_neg (by simp), chk, if_pos (show inR ((i : Int) + 1) by unfold inR; omega)]
      exact con1 hs hs6 hX n (i + 1) (by omega) (by omega)
    · have c1 : ¬ (decide ((i : Int) < ((um X).length : Int)) = true) := by rw [um_len]; simp; omega
      rw [if_neg c1, List.take_of_length_le (by omega)]
theorem con2 {N s : Nat} {X : Mx} (hs : Shape X.length s X) (hs6 : s ≤ 65536) (hX : X.length ≤ 40) : ∀ (n i : Nat), X.length < i + n → i ≤ X.length → slices_Concat_Lbyte_byte_l2 N (um X) n ((X.take i).flatten.map u) (i : Int) = some (X.flatten.map u)
  | 0, i, h1, h2 => by omega
  | n + 1, i, h1, h2 => by
    have hmax : 2 ^ 60 ≤ maxLen := by decide
    rw [slices_Concat_Lbyte_byte_l2.eq_2]
    by_cases hi : i < X.length
    · have c1 : decide ((i : Int) < ((um X).length : Int)) = true := by rw [um_len]; simp; exact hi
      have hl := flat_len hs i (by omega)
      have hb := le_blk (i := i) (s := s) (by omega) hs6
      have hr := (hs.2 i hi).1
      rw [if_pos c1, idx_um hi, Option.bind_some, chk, if_pos ⟨by simp only [List.length_map]; omega, by simp only [List.length_map]; omega⟩, chk, if_pos (show inR ((i : Int) + 1) by unfold inR; omega), um_app, ← flat_succ hi]
      exact con2 hs hs6 hX n (i + 1) (by omega) (by omega)
    · have c1 : ¬ (decide ((i : Int) < ((um X).length : Int)) = true) := by rw [um_len]; simp; omega
      rw [if_neg c1, List.take_of_length_le (by omega)]
theorem grow_eq {N k : Nat} (hk : k ≤ 2621440) : slices_Grow_Lbyte_byte N (k : Int) = some [] := by
  have hmax : 2 ^ 60 ≤ maxLen := by decide
  unfold slices_Grow_Lbyte_byte
  have e : (k : Int) - (0 - ((0 : Nat) : Int)) = (k : Int) := by omega
  rw [e, if_neg (by simp), chk, if_pos (by decide), chk, if_pos (show inR (k : Int) by unfold inR; omega)]
  by_cases h : 0 < (k : Int)
  · rw [if_pos (decide_eq_true h), chk, if_pos rfl, chk, if_pos ⟨h, by omega, by omega⟩, chk, if_pos (show ((0 : Nat) : Int) = (0 : Int) from rfl)]
  · rw [if_neg (by simpa using h)]
theorem concat_eq {N s : Nat} {X : Mx} (hs : Shape X.length s X) (hs6 : s ≤ 65536) (hX : X.length ≤ 40) (hN : 100 < N) : slices_Concat_Lbyte_byte N (um X) = some (X.flatten.map u) := by
  have h1 : slices_Concat_Lbyte_byte_l1 N (um X) N 0 0 = _ := con1 (N := N) hs hs6 hX N 0 (by omega) (by omega)
  have h2 : slices_Concat_Lbyte_byte_l2 N (um X) N [] 0 = _ := con2 (N := N) hs hs6 hX N 0 (by omega) (by omega)
  have hl := flat_len hs X.length (Nat.le_refl _)
  rw [List.take_length] at hl
  have hb := le_blk (i := X.length) (s := s) hX hs6
  unfold slices_Concat_Lbyte_byte
  rw [h1, Option.bind_some]
  dsimp only
  rw [grow_eq (by omega), Option.bind_some, h2]
  rfl
theorem con3 {N k s : Nat} {M : Mx} {e : Int} (hs : Shape M.length s M) (hs6 : s ≤ 65536) (hX : M.length ≤ 40) (hk : k ≤ M.length) : ∀ (n i : Nat), k < i + n → i ≤ k → ref14_Unite_l1 N (k : Int) (um M, e) n ((M.take i).flatten.map u) (i : Int) = some ((M.take k).flatten.map u)
  | 0, i, h1, h2 => by omega
  | n + 1, i, h1, h2 => by
    have hmax : 2 ^ 60 ≤ maxLen := by decide
    rw [ref14_Unite_l1.eq_2]
    by_cases hi : i < k
    · have c1 : decide ((i : Int) < (k : Int)) = true := by simp; exact hi
      have hl := flat_len hs i (by omega)
      have hb := le_blk (i := i) (s := s) (by omega) hs6
      have hr := (hs.2 i (by omega)).1
      rw [if_pos c1]
      dsimp only
      rw [idx_um (by omega), Option.bind_some, chk, if_pos ⟨by simp only [List.length_map]; omega, by simp only [List.length_map]; omega⟩, chk, if_pos (show inR ((i : Int) + 1) by unfold inR; omega), um_app, ← flat_succ (by omega)]
      exact con3 hs hs6 hX hk n (i + 1) (by omega) (by omega)
    · have c1 : ¬ (decide ((i : Int) < (k : Int)) = true) := by simp; omega
      rw [if_neg c1, show i = k by omega]
end Go.Arm
namespace Go.Arm
open Go Go.RowKit Go.Gf

/-- How many bytes are added. -/
def padN (x k : Nat) : Nat := (k - x % k) % k
theorem pad_spec {x k : Nat} (hk : 0 < k) : (x + padN x k) % k = 0 ∧ padN x k < k ∧ ∀ q, q < padN x k → (x + q) % k ≠ 0 := by
  unfold padN
  have h1 := Nat.div_add_mod x k
  have h2 := Nat.mod_lt x hk
  by_cases h0 : x % k = 0
  · rw [h0, Nat.sub_zero, Nat.mod_self]
    exact ⟨by rw [Nat.add_zero]; exact h0, hk, fun q hq => by omega⟩
  · rw [Nat.mod_eq_of_lt (show k - x % k < k by omega)]
    refine ⟨?_, by omega, fun q hq => ?_⟩
    · rw [show x + (k - x % k) = k * (x / k) + k by omega, Nat.mul_add_mod, Nat.mod_self]
    · rw [show x + q = k * (x / k) + (x % k + q) by omega, Nat.mul_add_mod, Nat.mod_eq_of_lt (by omega)]
      omega
theorem pad_only {x k q : Nat} (hk : 0 < k) (hq : q < k) (h : (x + q) % k = 0) : padN x k = q := by
  obtain ⟨h1, h2, h3⟩ := pad_spec (x := x) hk
  rcases Nat.lt_trichotomy q (padN x k) with h4 | h4 | h4
  · exact absurd h (h3 q h4)
  · exact h4.symm
  · exfalso
    have e := Nat.div_add_mod (x + padN x k) k
    rw [h1] at e
    have e2 : x + q = k * ((x + padN x k) / k) + (q - padN x k) := by omega
    rw [e2, Nat.mul_add_mod, Nat.mod_eq_of_lt (by omega)] at h
    omega
theorem tmod_nat (a b : Nat) : Int.tmod (a : Int) (b : Int) = ((a % b : Nat) : Int) := by
  rw [Int.tmod_eq_emod_of_nonneg (Int.natCast_nonneg _)]; norm_cast
theorem tdiv_nat (a b : Nat) : Int.tdiv (a : Int) (b : Int) = ((a / b : Nat) : Int) := by
  rw [Int.tdiv_eq_ediv_of_nonneg (Int.natCast_nonneg _)]; norm_cast
theorem div1 {N k : Nat} (hk : 0 < k) : ∀ (p m : Nat) (l : Row), p < m → l.length + p ≤ 100000000 → (l.length + p) % k = 0 → (∀ q, q < p → (l.length + q) % k ≠ 0) → ref14_Divide_l1 N (k : Int) m (l.map u) = some ((l ++ List.replicate p 0).map u)
  | _, 0, _, h, _, _, _ => absurd h (Nat.not_lt_zero _)
  | 0, m + 1, l, _, _, h1, _ => by
    have c1 : ¬ ((!decide (Int.tmod ((l.map u).length : Int) (k : Int) = 0)) = true) := by
      rw [List.length_map, tmod_nat]
      rw [Nat.add_zero] at h1
      rw [h1]; simp
    rw [ref14_Divide_l1.eq_2, chk, if_pos (show (k : Int) ≠ 0 by omega), if_neg c1]
    simp
  | p + 1, m + 1, l, h, hb, h1, h2 => by
    have hmax : 2 ^ 60 ≤ maxLen := by decide
    have c1 : (!decide (Int.tmod ((l.map u).length : Int) (k : Int) = 0)) = true := by
      rw [List.length_map, tmod_nat]
      have := h2 0 (by omega)
      rw [Nat.add_zero] at this
      simp only [Bool.not_eq_true', decide_eq_false_iff_not]; omega
    have e : [(⟨0⟩ : U8)] = ([0] : Row).map u := rfl
    rw [ref14_Divide_l1.eq_2, chk, if_pos (show (k : Int) ≠ 0 by omega), if_pos c1, chk, if_pos ⟨by simp only [List.length_map, List.length_singleton]; omega, by simp only [List.length_map, List.length_singleton]; omega⟩, e, um_app]
    rw [div1 hk p m (l ++ [0]) (by omega) (by simp; omega) (by simp only [List.length_append, List.length_singleton]; rw [show l.length + 1 + p = l.length + (p + 1) by omega]; exact h1) (fun q hq => by
      simp only [List.length_append, List.length_singleton]; rw [show l.length + 1 + q = l.length + (q + 1) by omega]; exact h2 (q + 1) (by omega))]
    rw [List.append_assoc]; rfl
/-- A part of some bytes. -/
def part (l : Row) (sz i : Nat) : Row := (l.take ((i + 1) * sz)).drop (i * sz)
theorem div2 {N k sz : Nat} {l : Row} (hk : k ≤ 16) (hk0 : 0 < k) (hl : l.length = k * sz) (hb : l.length ≤ 100000000) : ∀ (n i : Nat), k < i + n → i ≤ k → ref14_Divide_l2 N (k : Int) (l.map u) n (um ((List.range i).map (part l sz))) (i : Int) = some (um ((List.range k).map (part l sz)))
  | 0, i, h1, h2 => by omega
  | n + 1, i, h1, h2 => by
    have hmax : 2 ^ 60 ≤ maxLen := by decide
    rw [ref14_Divide_l2.eq_2]
    by_cases hi : i < k
    · have c1 : decide ((i : Int) < (k : Int)) = true := by simp; exact hi
      have e1 : Int.tdiv ((l.map u).length : Int) (k : Int) = (sz : Int) := by rw [List.length_map, tdiv_nat, hl, Nat.mul_div_cancel_left _ hk0]
      have b1 : (i + 1) * sz ≤ k * sz := Nat.mul_le_mul_right _ (by omega)
      have b2 : (i + 1) * sz = i * sz + sz := Nat.succ_mul i sz
      have e2 : (i : Int) * (sz : Int) = ((i * sz : Nat) : Int) := by norm_cast
      have e3 : ((i : Int) + 1) * (sz : Int) = (((i + 1) * sz : Nat) : Int) := by norm_cast
      have e4 : cut (l.map u) ((i * sz : Nat) : Int) (((i + 1) * sz : Nat) : Int) = some ((part l sz i).map u) := by
        unfold cut part
        rw [if_pos ⟨by omega, by omega, by rw [List.length_map]; omega⟩, Int.toNat_natCast, Int.toNat_natCast, List.map_drop, List.map_take]
      rw [if_pos c1, e1, e2, e3, chk, if_pos (show inR _ by unfold inR; omega), chk, if_pos (show inR ((i : Int) + 1) by unfold inR; omega), chk, if_pos (show inR _ by unfold inR; omega), e4, Option.bind_some,
        chk, if_pos ⟨by rw [um_len]; simp only [List.length_map, List.length_range, List.length_singleton]; omega, by rw [um_len]; simp only [List.length_map, List.length_range, List.length_singleton]; omega⟩, chk, if_pos (show inR ((i : Int) + 1) by unfold inR; omega), um_snoc, range_snoc]
      exact div2 hk hk0 hl hb n (i + 1) (by omega) (by omega)
    · have c1 : ¬ (decide ((i : Int) < (k : Int)) = true) := by simp; omega
      rw [if_neg c1, show i = k by omega]
theorem par1 {N k sz : Nat} {C : Mx} (hC : Shape k sz C) (hk : k ≤ 16) (hk0 : 0 < k) : ∀ (n i : Nat), k < i + n → i ≤ k → ref14_Parity_l1 N (um C) n (i : Int) = some (.inl ())
  | 0, i, h1, h2 => by omega
  | n + 1, i, h1, h2 => by
    have lC := hC.1
    have d0 : idx (um C) 0 = some ((rw_ C 0).map u) := idx_um (r := 0) (by omega)
    rw [ref14_Parity_l1.eq_2]
    by_cases hi : i < k
    · have c1 : decide ((i : Int) < ((um C).length : Int)) = true := by rw [um_len]; simp; omega
      have c2 : ¬ ((!decide ((((rw_ C i).map u).length : Int) = (((rw_ C 0).map u).length : Int))) = true) := by
        rw [List.length_map, List.length_map, (hC.2 i hi).1, (hC.2 0 hk0).1]; simp
      rw [if_pos c1, idx_um (by omega), Option.bind_some, d0, Option.bind_some, if_neg c2, chk, if_pos (show inR ((i : Int) + 1) by unfold inR; omega)]
      exact par1 hC hk hk0 n (i + 1) (by omega) (by omega)
    · have c1 : ¬ (decide ((i : Int) < ((um C).length : Int)) = true) := by rw [um_len]; simp; omega
      rw [if_neg c1]
theorem par0 {N k sz : Nat} {C : Mx} (hC : Shape k sz C) (hk : k ≤ 16) (hk0 : 0 < k) (hN : 100 < N) : ∃ e, ref14_Parity N (um C) 0 = some ([], e) := by
  have lC := hC.1
  have d0 : idx (um C) 0 = some ((rw_ C 0).map u) := idx_um (r := 0) (by omega)
  have p1 : ref14_Parity_l1 N (um C) N 0 = _ := par1 (N := N) hC hk hk0 N 0 (by omega) (by omega)
  obtain ⟨n, rfl⟩ : ∃ n, N = n + 1 := ⟨N - 1, by omega⟩
  unfold ref14_Parity
  rw [um_len, if_neg (by simp; omega), if_neg (by simp; omega), if_neg (by simp), Option.bind_some]
  dsimp only
  rw [if_neg (by simp), d0, Option.bind_some]
  by_cases h : decide ((65536 : Int) < (((rw_ C 0).map u).length : Int)) = true
  · rw [if_pos h]; exact ⟨_, rfl⟩
  · rw [if_neg h, p1, Option.bind_some]
    dsimp only
    rw [ref14_Parity_l2.eq_2, if_neg (by simp), Option.bind_some]
    exact ⟨_, rfl⟩
end Go.Arm
namespace Go.Arm
open Go Go.RowKit Go.Gf

theorem conv_mod (x : Nat) : (⟨convK .u8 (x : Int)⟩ : U8) = u (x % 256) := by
  unfold convK u
  simp [IntKind.wrap, IntKind.bits, IntKind.signed]
/-- The bytes as the reference divides them again. -/
def again (n0 n1 n2 n3 : Nat) (rest : Row) (v k : Nat) : Row := (n0 :: n1 :: n2 :: n3 :: rest.take v) ++ List.replicate (padN (4 + v) k) 0
theorem again_len {n0 n1 n2 n3 v k : Nat} {rest : Row} (hv : v ≤ rest.length) : (again n0 n1 n2 n3 rest v k).length = 4 + v + padN (4 + v) k := by
  unfold again
  simp only [List.length_append, List.length_cons, List.length_take, List.length_replicate]
  omega
theorem again_lt {n0 n1 n2 n3 v k : Nat} {rest : Row} (h0 : n0 < 256) (h1 : n1 < 256) (h2 : n2 < 256) (h3 : n3 < 256) (hr : ∀ x ∈ rest, x < 256) : ∀ x, x ∈ again n0 n1 n2 n3 rest v k → x < 256 := by
  intro x hx
  unfold again at hx
  rcases List.mem_append.1 hx with hx | hx
  · simp only [List.mem_cons] at hx
    rcases hx with rfl | rfl | rfl | rfl | hx
    · exact h0
    · exact h1
    · exact h2
    · exact h3
    · exact hr x (List.mem_of_mem_take hx)
  · rw [List.eq_of_mem_replicate hx]; decide
theorem part_mem {l : Row} {sz i x : Nat} (h : x ∈ part l sz i) : x ∈ l := by unfold part at h; exact List.mem_of_mem_take (List.mem_of_mem_drop h)
theorem divide_eq {N k n0 n1 n2 n3 v sz : Nat} {rest : Row} (h0 : n0 < 256) (h1 : n1 < 256) (h2 : n2 < 256) (h3 : n3 < 256) (hrb : ∀ x ∈ rest, x < 256) (hv : num4 n0 n1 n2 n3 = v) (hvl : v ≤ rest.length) (hk0 : 1 ≤ k) (hk : k ≤ 16) (hkl : rest.length + 4 ≤ k * 65536) (hN : 200 < N)
    (hsz : 4 + v + padN (4 + v) k = k * sz) : ∃ e, ref14_Divide N ((rest.take v).map u) (k : Int) 0 = some (um ((List.range k).map (part (again n0 n1 n2 n3 rest v k) sz)), e) := by
  have hmax : 2 ^ 60 ≤ maxLen := by decide
  have hl : ((rest.take v).map u).length = v := by rw [List.length_map, List.length_take]; omega
  obtain ⟨a1, a2, a3⟩ := pad_spec (x := 4 + v) (k := k) (by omega)
  have hA := again_len (n0 := n0) (n1 := n1) (n2 := n2) (n3 := n3) (k := k) hvl
  have hlen : (again n0 n1 n2 n3 rest v k).length = k * sz := by rw [hA, hsz]
  have e0 : (⟨convK .u8 (Int.tdiv (v : Int) 16777216)⟩ : U8) = u n0 := by
    have : Int.tdiv (v : Int) 16777216 = ((v / 16777216 : Nat) : Int) := tdiv_nat v 16777216
    rw [this, conv_mod]; unfold num4 at hv; congr 1; omega
  have e1 : (⟨convK .u8 (Int.tdiv (v : Int) 65536)⟩ : U8) = u n1 := by
    have : Int.tdiv (v : Int) 65536 = ((v / 65536 : Nat) : Int) := tdiv_nat v 65536
    rw [this, conv_mod]; unfold num4 at hv; congr 1; omega
  have e2 : (⟨convK .u8 (Int.tdiv (v : Int) 256)⟩ : U8) = u n2 := by
    have : Int.tdiv (v : Int) 256 = ((v / 256 : Nat) : Int) := tdiv_nat v 256
    rw [this, conv_mod]; unfold num4 at hv; congr 1; omega
  have e3 : (⟨convK .u8 (v : Int)⟩ : U8) = u n3 := by rw [conv_mod]; unfold num4 at hv; congr 1; omega
  have i0 : inR (Int.tdiv (v : Int) 16777216) := by rw [show Int.tdiv (v : Int) 16777216 = ((v / 16777216 : Nat) : Int) from tdiv_nat v 16777216]; unfold inR; omega
  have i1 : inR (Int.tdiv (v : Int) 65536) := by rw [show Int.tdiv (v : Int) 65536 = ((v / 65536 : Nat) : Int) from tdiv_nat v 65536]; unfold inR; omega
  have i2 : inR (Int.tdiv (v : Int) 256) := by rw [show Int.tdiv (v : Int) 256 = ((v / 256 : Nat) : Int) from tdiv_nat v 256]; unfold inR; omega
  have d1 : ref14_Divide_l1 N (k : Int) N ([u n0, u n1, u n2, u n3] ++ (rest.take v).map u) = some ((again n0 n1 n2 n3 rest v k).map u) := by
    have lt : (n0 :: n1 :: n2 :: n3 :: rest.take v).length = 4 + v := by simp only [List.length_cons, List.length_take]; omega
    have := div1 (N := N) (k := k) (by omega) (padN (4 + v) k) N (n0 :: n1 :: n2 :: n3 :: rest.take v) (by omega) (by rw [lt]; omega) (by rw [lt]; exact a1) (by rw [lt]; exact a3)
    exact this
  have d2 : ref14_Divide_l2 N (k : Int) ((again n0 n1 n2 n3 rest v k).map u) N [] 0 = _ := div2 (N := N) hk (by omega) hlen (by omega) N 0 (by omega) (by omega)
  have sC : Shape k sz ((List.range k).map (part (again n0 n1 n2 n3 rest v k) sz)) := ⟨by simp, fun r hr => by
    rw [rw_lt (by simpa using hr), List.getElem_map, List.getElem_range]
    have b1 : (r + 1) * sz ≤ k * sz := Nat.mul_le_mul_right _ (by omega)
    have b2 : (r + 1) * sz = r * sz + sz := Nat.succ_mul r sz
    refine ⟨by unfold part; rw [List.length_drop, List.length_take]; omega, fun x hx => ?_⟩
    exact again_lt h0 h1 h2 h3 hrb x (part_mem hx)⟩
  obtain ⟨e, he⟩ := par0 (N := N) sC hk (by omega) (by omega)
  unfold ref14_Divide
  rw [hl, if_neg (by simp; omega), if_neg (by simp; omega), if_neg (by simp), Option.bind_some]
  dsimp only
  rw [if_neg (by simp), chk, if_pos (show inR ((v : Int) + 4) by unfold inR; omega), chk, if_pos (show inR ((k : Int) * 65536) by unfold inR; omega), if_neg (by simp; omega), chk, if_pos ⟨by decide, i0⟩, chk, if_pos ⟨by decide, i1⟩, chk, if_pos ⟨by decide, i2⟩, e0, e1, e2, e3,
    chk, if_pos ⟨by simp only [List.length_cons, List.length_nil]; omega, by simp only [List.length_cons, List.length_nil]; omega⟩, d1, Option.bind_some]
  have i3 : Int.tdiv (((again n0 n1 n2 n3 rest v k).map u).length : Int) (k : Int) = (sz : Int) := by rw [List.length_map, tdiv_nat, hlen, Nat.mul_div_cancel_left _ (by omega)]
  have hszb : sz ≤ k * sz := Nat.le_mul_of_pos_left _ (by omega)
  rw [i3, chk, if_pos ⟨by omega, by unfold inR; omega⟩, d2, Option.bind_some, he, Option.bind_some]
  dsimp only
  rw [chk, if_pos ⟨by simp only [um_len, List.length_map, List.length_range, List.length_nil]; omega, by simp only [um_len, List.length_map, List.length_range, List.length_nil]; omega⟩, List.append_nil]
  exact ⟨e, rfl⟩
theorem nz_l {N : Nat} {l : Row} (hb : l.length ≤ 100000000) : ∀ (n i : Nat), l.length < i + n → i ≤ l.length →
    ((∀ j, i ≤ j → j < l.length → l.getD j 0 = 0) ∧ slices_IndexFunc_Lbyte_byte_l1 N (l.map u) (fun x => check_Unite_1 N x) n (i : Int) = some (.inl ())) ∨
    ((∃ q, q < l.length ∧ l.getD q 0 ≠ 0) ∧ ∃ j : Nat, slices_IndexFunc_Lbyte_byte_l1 N (l.map u) (fun x => check_Unite_1 N x) n (i : Int) = some (.inr (j : Int)))
  | 0, i, h1, h2 => by omega
  | n + 1, i, h1, h2 => by
    rw [slices_IndexFunc_Lbyte_byte_l1.eq_2]
    by_cases hi : i < l.length
    · have c1 : decide ((i : Int) < ((l.map u).length : Int)) = true := by simp; exact hi
      rw [if_pos c1, idx_u hi, Option.bind_some]
      unfold check_Unite_1
      rw [Option.bind_some, u_n]
      by_cases h0 : l.getD i 0 = 0
      · have c2 : ¬ ((!decide (((l.getD i 0 : Nat) : Int) = (⟨0⟩ : U8).n)) = true) := by rw [h0]; simp
        rw [if_neg c2, chk, if_pos (show inR ((i : Int) + 1) by unfold inR; omega)]
        rcases nz_l (N := N) hb n (i + 1) (by omega) (by omega) with ⟨a, b⟩ | b
        · refine .inl ⟨fun j hj1 hj2 => ?_, b⟩
          by_cases e : j = i
          · rw [e]; exact h0
          · exact a j (by omega) hj2
        · exact .inr b
      · have c2 : (!decide (((l.getD i 0 : Nat) : Int) = (⟨0⟩ : U8).n)) = true := by
          show (!decide (((l.getD i 0 : Nat) : Int) = 0)) = true
          simp only [Bool.not_eq_true', decide_eq_false_iff_not]; omega
        rw [if_pos c2]
        exact .inr ⟨⟨i, hi, h0⟩, i, rfl⟩
    · have c1 : ¬ (decide ((i : Int) < ((l.map u).length : Int)) = true) := by simp; omega
      rw [if_neg c1]
      exact .inl ⟨fun j h3 h4 => by omega, rfl⟩
theorem nz_eq {N : Nat} {l : Row} (hb : l.length ≤ 100000000) (hN : 100000000 < N) :
    ((∀ j, j < l.length → l.getD j 0 = 0) ∧ slices_ContainsFunc_Lbyte_byte N (l.map u) (fun x => check_Unite_1 N x) = some false) ∨
    ((∃ q, q < l.length ∧ l.getD q 0 ≠ 0) ∧ slices_ContainsFunc_Lbyte_byte N (l.map u) (fun x => check_Unite_1 N x) = some true) := by
  unfold slices_ContainsFunc_Lbyte_byte slices_IndexFunc_Lbyte_byte
  rcases nz_l (N := N) hb N 0 (by omega) (by omega) with ⟨a, b⟩ | ⟨a, j, b⟩
  · have b' : slices_IndexFunc_Lbyte_byte_l1 N (l.map u) (fun x => check_Unite_1 N x) N 0 = _ := b
    rw [b']
    exact .inl ⟨fun j hj => a j (Nat.zero_le _) hj, rfl⟩
  · have b' : slices_IndexFunc_Lbyte_byte_l1 N (l.map u) (fun x => check_Unite_1 N x) N 0 = _ := b
    rw [b']
    refine .inr ⟨a, ?_⟩
    show Option.bind (some (j : Int)) (fun y1 => some (decide (0 ≤ y1))) = some true
    rw [Option.bind_some]; simp
theorem txt_inj {a b : Row} (ha : ∀ x ∈ a, x < 256) (hb : ∀ x ∈ b, x < 256) (h : txtOf (a.map u) = txtOf (b.map u)) : a = b := by
  unfold txtOf at h
  have h1 : (a.map u).map (fun x => UInt8.ofNat x.n.toNat) = (b.map u).map (fun x => UInt8.ofNat x.n.toNat) := by injection h
  rw [List.map_map, List.map_map] at h1
  have hl : a.length = b.length := by simpa using congrArg List.length h1
  apply List.ext_getElem hl
  intro i i1 i2
  have h2 := congrArg (fun l => l[i]?) h1
  simp only [List.getElem?_map, List.getElem?_eq_getElem i1, List.getElem?_eq_getElem i2, Option.map_some, Option.some.injEq, Function.comp, u_n, Int.toNat_natCast] at h2
  have h3 := congrArg UInt8.toNat h2
  rw [UInt8.toNat_ofNat', UInt8.toNat_ofNat', Nat.mod_eq_of_lt (ha _ (List.getElem_mem i1)), Nat.mod_eq_of_lt (hb _ (List.getElem_mem i2))] at h3
  exact h3
theorem cmp_l {N k : Nat} {M C : Mx} {d e : Int} (hM : k ≤ M.length) (hC : k ≤ C.length) (hk : k ≤ 16) : ∀ (n i : Nat), k < i + n → i ≤ k →
    ((∀ j, i ≤ j → j < k → txtOf ((rw_ C j).map u) = txtOf ((rw_ M j).map u)) ∧ ref14_Unite_l2 N (k : Int) (um M, d) (um C, e) n (i : Int) = some (.inl ())) ∨
    ((∃ j, j < k ∧ txtOf ((rw_ C j).map u) ≠ txtOf ((rw_ M j).map u)) ∧ ref14_Unite_l2 N (k : Int) (um M, d) (um C, e) n (i : Int) = some (.inr ([], 7)))
  | 0, i, h1, h2 => by omega
  | n + 1, i, h1, h2 => by
    rw [ref14_Unite_l2.eq_2]
    by_cases hi : i < k
    · have c1 : decide ((i : Int) < (k : Int)) = true := by simp; exact hi
      rw [if_pos c1]
      dsimp only
      rw [idx_um (by omega), Option.bind_some, idx_um (by omega), Option.bind_some]
      unfold ref14_same
      rw [Option.bind_some]
      by_cases he : txtOf ((rw_ C i).map u) = txtOf ((rw_ M i).map u)
      · have c2 : ¬ ((!decide (txtOf ((rw_ C i).map u) = txtOf ((rw_ M i).map u))) = true) := by simp [he]
        rw [if_neg c2, chk, if_pos (show inR ((i : Int) + 1) by unfold inR; omega)]
        rcases cmp_l (N := N) (d := d) (e := e) hM hC hk n (i + 1) (by omega) (by omega) with ⟨a, b⟩ | b
        · refine .inl ⟨fun j hj1 hj2 => ?_, b⟩
          by_cases e : j = i
          · rw [e]; exact he
          · exact a j (by omega) hj2
        · exact .inr b
      · have c2 : (!decide (txtOf ((rw_ C i).map u) = txtOf ((rw_ M i).map u))) = true := by simp [he]
        rw [if_pos c2]
        exact .inr ⟨⟨i, hi, he⟩, rfl⟩
    · have c1 : ¬ (decide ((i : Int) < (k : Int)) = true) := by simp; omega
      rw [if_neg c1]
      exact .inl ⟨fun j h3 h4 => by omega, rfl⟩
theorem flat_getD {s : Nat} : ∀ {X : Mx} {i j : Nat}, (∀ r, r < X.length → (rw_ X r).length = s) → i < X.length → j < s → X.flatten.getD (i * s + j) 0 = (rw_ X i).getD j 0
  | [], i, j, _, h, _ => absurd h (Nat.not_lt_zero _)
  | x :: X, 0, j, hs, _, hj => by
    have hx : x.length = s := hs 0 (by simp)
    rw [List.flatten_cons, Nat.zero_mul, Nat.zero_add, List.getD_eq_getElem?_getD, List.getElem?_append_left (by omega), ← List.getD_eq_getElem?_getD]
    rfl
  | x :: X, i + 1, j, hs, h, hj => by
    have hx : x.length = s := hs 0 (by simp)
    have := flat_getD (X := X) (i := i) (j := j) (fun r hr => hs (r + 1) (by simp; exact hr)) (by simpa using h) hj
    rw [List.flatten_cons, List.getD_eq_getElem?_getD, List.getElem?_append_right (by rw [Nat.succ_mul]; omega), hx, show (i + 1) * s + j - s = i * s + j by rw [Nat.succ_mul]; omega, ← List.getD_eq_getElem?_getD, this]
    rfl
theorem part_getD {l : Row} {sz i j : Nat} (hj : j < sz) : (part l sz i).getD j 0 = l.getD (i * sz + j) 0 := by
  unfold part
  rw [List.getD_eq_getElem?_getD, List.getElem?_drop, List.getElem?_take, if_pos (by rw [Nat.succ_mul]; omega), ← List.getD_eq_getElem?_getD]
end Go.Arm
namespace Go.Arm
open Go Go.RowKit Go.Gf

theorem four {b : Row} (h : 4 ≤ b.length) : ∃ n0 n1 n2 n3 rest, b = n0 :: n1 :: n2 :: n3 :: rest := by
  match b, h with
  | n0 :: n1 :: n2 :: n3 :: rest, _ => exact ⟨n0, n1, n2, n3, rest, rfl⟩
theorem num4_lt {a b c d : Nat} (ha : a < 256) (hb : b < 256) (hc : c < 256) (hd : d < 256) : num4 a b c d < 4294967296 := by unfold num4; omega
theorem num4_int (a b c d : Nat) : (u a).n * 16777216 + (u b).n * 65536 + (u c).n * 256 + (u d).n = (num4 a b c d : Int) := by
  simp only [u_n]
  unfold num4
  omega
/-- Both tests of the rest, one law. -/
theorem rest_law {k s v n0 n1 n2 n3 sz : Nat} {X : Mx} {rest : Row} (hX : Shape k s X) (hk : 1 ≤ k) (hf : X.flatten = n0 :: n1 :: n2 :: n3 :: rest) (hv : v ≤ rest.length) (hl : 4 + rest.length = k * s) (hsz : 4 + v + padN (4 + v) k = k * sz) :
    (∀ i, i < k → part (again n0 n1 n2 n3 rest v k) sz i = rw_ X i) ↔ (rest.length - v < k ∧ ∀ j, j < (rest.drop v).length → (rest.drop v).getD j 0 = 0) := by
  have hs0 : 0 < s := by
    rcases Nat.eq_zero_or_pos s with h | h
    · subst h; omega
    · exact h
  have hXs : ∀ r, r < X.length → (rw_ X r).length = s := fun r hr => (hX.2 r (by rw [← hX.1]; exact hr)).1
  have hA := again_len (n0 := n0) (n1 := n1) (n2 := n2) (n3 := n3) (k := k) hv
  obtain ⟨p1, p2, p3⟩ := pad_spec (x := 4 + v) (k := k) (by omega)
  constructor
  · intro h
    have hlp : (part (again n0 n1 n2 n3 rest v k) sz 0).length = sz := by
      unfold part
      have : (0 + 1) * sz ≤ k * sz := Nat.mul_le_mul_right _ (by omega)
      rw [List.length_drop, List.length_take]; omega
    have hss : sz = s := by rw [← hlp, h 0 (by omega)]; exact hXs 0 (by rw [hX.1]; omega)
    subst hss
    refine ⟨by omega, fun j hj => ?_⟩
    have hj' : j < rest.length - v := by simpa using hj
    obtain ⟨q, hq⟩ : ∃ q, q = 4 + v + j := ⟨_, rfl⟩
    have hqk : q < k * sz := by omega
    have hi : q / sz < k := Nat.div_lt_of_lt_mul (by rw [Nat.mul_comm]; exact hqk)
    have hm : q % sz < sz := Nat.mod_lt _ hs0
    have hd : q / sz * sz + q % sz = q := by rw [Nat.mul_comm]; exact Nat.div_add_mod q sz
    have g1 := flat_getD (X := X) hXs (i := q / sz) (by rw [hX.1]; exact hi) hm
    have g2 := part_getD (l := again n0 n1 n2 n3 rest v k) (i := q / sz) hm
    rw [h _ hi] at g2
    rw [hd, hf] at g1
    rw [hd] at g2
    have g3 : (again n0 n1 n2 n3 rest v k).getD q 0 = 0 := by
      unfold again
      rw [List.getD_eq_getElem?_getD, List.getElem?_append_right (by simp only [List.length_cons, List.length_take]; omega), List.getElem?_replicate]
      split <;> rfl
    have g4 : (n0 :: n1 :: n2 :: n3 :: rest).getD q 0 = (rest.drop v).getD j 0 := by
      rw [hq, List.getD_eq_getElem?_getD, List.getD_eq_getElem?_getD, List.getElem?_drop, show 4 + v + j = v + j + 1 + 1 + 1 + 1 by omega]
      rfl
    rw [← g4, g1, g2, g3]
  · rintro ⟨h1, h2⟩ i hi
    have hp : padN (4 + v) k = rest.length - v := pad_only (by omega) h1 (by rw [show 4 + v + (rest.length - v) = k * s by omega]; exact Nat.mul_mod_right k s)
    have hss : sz = s := by
      have : k * sz = k * s := by omega
      exact Nat.eq_of_mul_eq_mul_left (by omega) this
    subst hss
    have hz : rest.drop v = List.replicate (rest.length - v) 0 := ext_getD (by simp) (fun j hj => by rw [h2 j hj, rep_getD])
    have ha : again n0 n1 n2 n3 rest v k = X.flatten := by
      unfold again
      rw [hf, hp, ← hz]
      show n0 :: n1 :: n2 :: n3 :: (rest.take v ++ rest.drop v) = _
      rw [List.take_append_drop]
    rw [ha]
    have hlen : X.flatten.length = k * sz := by rw [hf]; simp only [List.length_cons]; omega
    refine ext_getD ?_ (fun j hj => ?_)
    · unfold part
      have b1 : (i + 1) * sz ≤ k * sz := Nat.mul_le_mul_right _ (by omega)
      have b2 : (i + 1) * sz = i * sz + sz := Nat.succ_mul i sz
      rw [List.length_drop, List.length_take, hXs i (by rw [hX.1]; exact hi)]; omega
    · have hjs : j < sz := by
        unfold part at hj
        have b2 : (i + 1) * sz = i * sz + sz := Nat.succ_mul i sz
        rw [List.length_drop, List.length_take] at hj; omega
      rw [part_getD hjs, flat_getD hXs (by rw [hX.1]; exact hi) hjs]
theorem unite_p0 {N : Nat} {B : Mx} {t : List Bool} {M : Mx} {kn s : Nat} (hN : 100000000 < N) (hk1 : 1 ≤ kn) (hk16 : kn ≤ 16) (hkM : kn ≤ M.length) (_hM : M.length ≤ 40) (hs : s ≤ 65536) (hS : Shape M.length s M) (r1 : check_Repair N (um B) t (kn : Int) = some (um M, 0)) (h4 : (M.take kn).flatten.length < 4) : check_Unite N (um B) t (kn : Int) = some ([], 7) := by
  have hmax : 2 ^ 60 ≤ maxLen := by decide
  have c : ¬ ((!decide ((0 : Int) = 0)) = true) := by simp
  unfold check_Unite
  rw [r1, Option.bind_some]
  dsimp only
  rw [if_neg c, cut_um0 hkM, Option.bind_some]
  have hX : Shape kn s (M.take kn) := ⟨by rw [List.length_take]; omega, fun r hr => by rw [rw_take hr hkM]; exact hS.2 r (by omega)⟩
  have hX' : Shape (M.take kn).length s (M.take kn) := by rw [hX.1]; exact hX
  have b1 := concat_eq (N := N) hX' hs (by rw [hX.1]; omega) (by omega)
  have hfl := flat_len hX' (M.take kn).length (Nat.le_refl _)
  rw [List.take_length, hX.1] at hfl
  have hby : ∀ x ∈ (M.take kn).flatten, x < 256 := fun x hx => by
    obtain ⟨l, hl, hxl⟩ := List.mem_flatten.1 hx
    obtain ⟨i, hi, rfl⟩ := List.mem_iff_getElem.1 hl
    have := (hX'.2 i hi).2
    rw [rw_lt hi] at this
    exact this x hxl
  rw [b1, Option.bind_some]
  have hks := le_blk (i := kn) (s := s) (by omega) hs
  have c4 : decide ((((M.take kn).flatten.map u).length : Int) < 4) = true := by simp only [List.length_map, decide_eq_true_eq]; omega
  rw [if_pos c4]
theorem unite_p1 {N : Nat} {B : Mx} {t : List Bool} {M : Mx} {kn s : Nat} (hN : 100000000 < N) (hk1 : 1 ≤ kn) (hk16 : kn ≤ 16) (hkM : kn ≤ M.length) (_hM : M.length ≤ 40) (hs : s ≤ 65536) (hS : Shape M.length s M) {n0 n1 n2 n3 v : Nat} {rest : Row} (hf : (M.take kn).flatten = n0 :: n1 :: n2 :: n3 :: rest) (hv : num4 n0 n1 n2 n3 = v) (r1 : check_Repair N (um B) t (kn : Int) = some (um M, 0)) (hA : rest.length < v) : check_Unite N (um B) t (kn : Int) = some ([], 7) := by
  have hmax : 2 ^ 60 ≤ maxLen := by decide
  have c : ¬ ((!decide ((0 : Int) = 0)) = true) := by simp
  unfold check_Unite
  rw [r1, Option.bind_some]
  dsimp only
  rw [if_neg c, cut_um0 hkM, Option.bind_some]
  have hX : Shape kn s (M.take kn) := ⟨by rw [List.length_take]; omega, fun r hr => by rw [rw_take hr hkM]; exact hS.2 r (by omega)⟩
  have hX' : Shape (M.take kn).length s (M.take kn) := by rw [hX.1]; exact hX
  have b1 := concat_eq (N := N) hX' hs (by rw [hX.1]; omega) (by omega)
  have hfl := flat_len hX' (M.take kn).length (Nat.le_refl _)
  rw [List.take_length, hX.1] at hfl
  have hby : ∀ x ∈ (M.take kn).flatten, x < 256 := fun x hx => by
    obtain ⟨l, hl, hxl⟩ := List.mem_flatten.1 hx
    obtain ⟨i, hi, rfl⟩ := List.mem_iff_getElem.1 hl
    have := (hX'.2 i hi).2
    rw [rw_lt hi] at this
    exact this x hxl
  rw [b1, Option.bind_some]
  have hks := le_blk (i := kn) (s := s) (by omega) hs
  rw [hf] at hby hfl ⊢
  have h0 : n0 < 256 := hby n0 (by simp)
  have h1 : n1 < 256 := hby n1 (by simp)
  have h2 : n2 < 256 := hby n2 (by simp)
  have h3 : n3 < 256 := hby n3 (by simp)
  have hrb : ∀ x ∈ rest, x < 256 := fun x hx => hby x (by simp [hx])
  have hlr : 4 + rest.length = kn * s := by simp only [List.length_cons] at hfl; omega
  have hll : ((((n0 :: n1 :: n2 :: n3 :: rest).map u).length : Nat) : Int) = ((4 + rest.length : Nat) : Int) := by simp only [List.length_map, List.length_cons]; omega
  have i0 : idx ((n0 :: n1 :: n2 :: n3 :: rest).map u) 0 = some (u n0) := rfl
  have i1 : idx ((n0 :: n1 :: n2 :: n3 :: rest).map u) 1 = some (u n1) := rfl
  have i2 : idx ((n0 :: n1 :: n2 :: n3 :: rest).map u) 2 = some (u n2) := rfl
  have i3 : idx ((n0 :: n1 :: n2 :: n3 :: rest).map u) 3 = some (u n3) := rfl
  have c4 : ¬ (decide ((((n0 :: n1 :: n2 :: n3 :: rest).map u).length : Int) < 4) = true) := by rw [hll]; simp only [decide_eq_true_eq]; omega
  rw [if_neg c4]
  have q0 : inR (u n0).n := by rw [u_n]; unfold inR; omega
  have q1 : inR (u n1).n := by rw [u_n]; unfold inR; omega
  have q2 : inR (u n2).n := by rw [u_n]; unfold inR; omega
  have q3 : inR (u n3).n := by rw [u_n]; unfold inR; omega
  have hv0 : num4 n0 n1 n2 n3 < 4294967296 := num4_lt h0 h1 h2 h3
  have hd : orK .i64 (orK .i64 (orK .i64 (shlK .i64 (u n0).n (⟨24⟩ : U64).n) (shlK .i64 (u n1).n (⟨16⟩ : U64).n)) (shlK .i64 (u n2).n (⟨8⟩ : U64).n)) (u n3).n = (num4 n0 n1 n2 n3 : Int) := by
    rewrite [u_n, u_n, u_n, u_n]
    exact head4 h0 h1 h2 h3
  rw [hv] at hd hv0
  rewrite [i0, i1, i2, i3, Option.bind_some, Option.bind_some, Option.bind_some, Option.bind_some, hd, hll]
  clear hd
  have hsub : ((4 + rest.length : Nat) : Int) - 4 = (rest.length : Int) := by omega
  rewrite [hsub]
  have qr : inR (rest.length : Int) := by unfold inR; omega
  have cA : decide ((rest.length : Int) < (v : Int)) = true := by simp only [decide_eq_true_eq]; omega
  rewrite [chk, if_pos q0, chk, if_pos (show (0 : Int) ≤ (⟨24⟩ : U64).n by decide), chk, if_pos q1, chk, if_pos (show (0 : Int) ≤ (⟨16⟩ : U64).n by decide), chk, if_pos q2, chk, if_pos (show (0 : Int) ≤ (⟨8⟩ : U64).n by decide), chk, if_pos q3]
  rewrite [chk, if_pos qr, if_pos cA, Option.bind_some]
  rfl
theorem unite_p2 {N : Nat} {B : Mx} {t : List Bool} {M : Mx} {kn s : Nat} (hN : 100000000 < N) (hk1 : 1 ≤ kn) (hk16 : kn ≤ 16) (hkM : kn ≤ M.length) (_hM : M.length ≤ 40) (hs : s ≤ 65536) (hS : Shape M.length s M) {n0 n1 n2 n3 v : Nat} {rest : Row} (hf : (M.take kn).flatten = n0 :: n1 :: n2 :: n3 :: rest) (hv : num4 n0 n1 n2 n3 = v) (r1 : check_Repair N (um B) t (kn : Int) = some (um M, 0)) (hvl : v ≤ rest.length) (o : List U8 × Int) (hz : rest.length - v < kn → (∀ j, j < (rest.drop v).length → (rest.drop v).getD j 0 = 0) → o = ((rest.take v).map u, 0)) (hnz : ¬ (rest.length - v < kn ∧ ∀ j, j < (rest.drop v).length → (rest.drop v).getD j 0 = 0) → o = ([], 7)) : check_Unite N (um B) t (kn : Int) = some o := by
  have hmax : 2 ^ 60 ≤ maxLen := by decide
  have c : ¬ ((!decide ((0 : Int) = 0)) = true) := by simp
  unfold check_Unite
  rw [r1, Option.bind_some]
  dsimp only
  rw [if_neg c, cut_um0 hkM, Option.bind_some]
  have hX : Shape kn s (M.take kn) := ⟨by rw [List.length_take]; omega, fun r hr => by rw [rw_take hr hkM]; exact hS.2 r (by omega)⟩
  have hX' : Shape (M.take kn).length s (M.take kn) := by rw [hX.1]; exact hX
  have b1 := concat_eq (N := N) hX' hs (by rw [hX.1]; omega) (by omega)
  have hfl := flat_len hX' (M.take kn).length (Nat.le_refl _)
  rw [List.take_length, hX.1] at hfl
  have hby : ∀ x ∈ (M.take kn).flatten, x < 256 := fun x hx => by
    obtain ⟨l, hl, hxl⟩ := List.mem_flatten.1 hx
    obtain ⟨i, hi, rfl⟩ := List.mem_iff_getElem.1 hl
    have := (hX'.2 i hi).2
    rw [rw_lt hi] at this
    exact this x hxl
  rw [b1, Option.bind_some]
  have hks := le_blk (i := kn) (s := s) (by omega) hs
  rw [hf] at hby hfl ⊢
  have h0 : n0 < 256 := hby n0 (by simp)
  have h1 : n1 < 256 := hby n1 (by simp)
  have h2 : n2 < 256 := hby n2 (by simp)
  have h3 : n3 < 256 := hby n3 (by simp)
  have hrb : ∀ x ∈ rest, x < 256 := fun x hx => hby x (by simp [hx])
  have hlr : 4 + rest.length = kn * s := by simp only [List.length_cons] at hfl; omega
  have hll : ((((n0 :: n1 :: n2 :: n3 :: rest).map u).length : Nat) : Int) = ((4 + rest.length : Nat) : Int) := by simp only [List.length_map, List.length_cons]; omega
  have i0 : idx ((n0 :: n1 :: n2 :: n3 :: rest).map u) 0 = some (u n0) := rfl
  have i1 : idx ((n0 :: n1 :: n2 :: n3 :: rest).map u) 1 = some (u n1) := rfl
  have i2 : idx ((n0 :: n1 :: n2 :: n3 :: rest).map u) 2 = some (u n2) := rfl
  have i3 : idx ((n0 :: n1 :: n2 :: n3 :: rest).map u) 3 = some (u n3) := rfl
  have c4 : ¬ (decide ((((n0 :: n1 :: n2 :: n3 :: rest).map u).length : Int) < 4) = true) := by rw [hll]; simp only [decide_eq_true_eq]; omega
  rw [if_neg c4]
  have q0 : inR (u n0).n := by rw [u_n]; unfold inR; omega
  have q1 : inR (u n1).n := by rw [u_n]; unfold inR; omega
  have q2 : inR (u n2).n := by rw [u_n]; unfold inR; omega
  have q3 : inR (u n3).n := by rw [u_n]; unfold inR; omega
  have hv0 : num4 n0 n1 n2 n3 < 4294967296 := num4_lt h0 h1 h2 h3
  have hd : orK .i64 (orK .i64 (orK .i64 (shlK .i64 (u n0).n (⟨24⟩ : U64).n) (shlK .i64 (u n1).n (⟨16⟩ : U64).n)) (shlK .i64 (u n2).n (⟨8⟩ : U64).n)) (u n3).n = (num4 n0 n1 n2 n3 : Int) := by
    rewrite [u_n, u_n, u_n, u_n]
    exact head4 h0 h1 h2 h3
  rw [hv] at hd hv0
  rewrite [i0, i1, i2, i3, Option.bind_some, Option.bind_some, Option.bind_some, Option.bind_some, hd, hll]
  clear hd
  have hsub : ((4 + rest.length : Nat) : Int) - 4 = (rest.length : Int) := by omega
  rewrite [hsub]
  have qr : inR (rest.length : Int) := by unfold inR; omega
  have cA : ¬ (decide ((rest.length : Int) < (v : Int)) = true) := by simp only [decide_eq_true_eq]; omega
  have q4v : inR (4 + (v : Int)) := by unfold inR; omega
  have qrv : inR ((rest.length : Int) - (v : Int)) := by unfold inR; omega
  have hlt : (rest.take v).length = v := by rw [List.length_take]; omega
  have cut1 : cut ((n0 :: n1 :: n2 :: n3 :: rest).map u) 4 (4 + (v : Int)) = some ((rest.take v).map u) := by
    unfold cut
    have e4 : (4 + (v : Int)).toNat = v + 1 + 1 + 1 + 1 := by omega
    rw [if_pos ⟨by omega, by omega, by rw [hll]; omega⟩, e4, List.map_take]
    rfl
  have cut2 : cut ((n0 :: n1 :: n2 :: n3 :: rest).map u) (4 + (v : Int)) ((4 + rest.length : Nat) : Int) = some ((rest.drop v).map u) := by
    unfold cut
    have e4 : (4 + (v : Int)).toNat = v + 1 + 1 + 1 + 1 := by omega
    rw [if_pos ⟨by omega, by omega, by rw [hll]; omega⟩, e4, Int.toNat_natCast, List.take_of_length_le (by simp only [List.length_map, List.length_cons]; omega), List.map_drop]
    rfl
  have cl : slices_Clone_Lbyte_byte N ((rest.take v).map u) = some ((rest.take v).map u) := by
    unfold slices_Clone_Lbyte_byte
    rw [chk, if_pos ⟨by simp only [List.length_nil, List.length_map, hlt]; omega, by simp only [List.length_nil, List.length_map, hlt]; omega⟩, List.nil_append]
  have nz := nz_eq (N := N) (l := rest.drop v) (by rw [List.length_drop]; omega) hN
  rewrite [chk, if_pos q0, chk, if_pos (show (0 : Int) ≤ (⟨24⟩ : U64).n by decide), chk, if_pos q1, chk, if_pos (show (0 : Int) ≤ (⟨16⟩ : U64).n by decide), chk, if_pos q2, chk, if_pos (show (0 : Int) ≤ (⟨8⟩ : U64).n by decide), chk, if_pos q3]
  rewrite [chk, if_pos qr, if_neg cA, chk, if_pos qr, chk, if_pos qrv]
  by_cases hB2 : (kn : Int) ≤ (rest.length : Int) - (v : Int)
  · rewrite [if_pos (decide_eq_true hB2), Option.bind_some, hnz (fun h => by omega)]
    rfl
  · have cB : ¬ (decide ((kn : Int) ≤ (rest.length : Int) - (v : Int)) = true) := by simpa using hB2
    rcases nz with ⟨z, b⟩ | ⟨⟨q, hq, hne⟩, b⟩
    · rewrite [if_neg cB, chk, if_pos q4v, cut2, Option.bind_some, b, Option.bind_some, Option.bind_some, if_neg Bool.false_ne_true, cut1, Option.bind_some, cl, Option.bind_some, chk, if_pos q4v, hz (by omega) z]
      rfl
    · rewrite [if_neg cB, chk, if_pos q4v, cut2, Option.bind_some, b, Option.bind_some, Option.bind_some, hnz (fun h => hne (h.2 q hq))]
      rfl
theorem unite_r0 {N : Nat} {B : Mx} {t : List Bool} {M : Mx} {kn s : Nat} (hN : 100000000 < N) (hk1 : 1 ≤ kn) (hk16 : kn ≤ 16) (hkM : kn ≤ M.length) (hM : M.length ≤ 40) (hs : s ≤ 65536) (hS : Shape M.length s M) (r1 : ref14_Repair N (um B) t (kn : Int) = some (um M, 0)) (h4 : (M.take kn).flatten.length < 4) : ref14_Unite N (um B) t (kn : Int) = some ([], 7) := by
  have hmax : 2 ^ 60 ≤ maxLen := by decide
  have c : ¬ ((!decide ((0 : Int) = 0)) = true) := by simp
  unfold ref14_Unite
  rw [r1, Option.bind_some]
  dsimp only
  rw [if_neg c]
  have hX : Shape kn s (M.take kn) := ⟨by rw [List.length_take]; omega, fun r hr => by rw [rw_take hr hkM]; exact hS.2 r (by omega)⟩
  have hX' : Shape (M.take kn).length s (M.take kn) := by rw [hX.1]; exact hX
  have b2 : ref14_Unite_l1 N (kn : Int) (um M, 0) N [] 0 = _ := con3 (N := N) (e := 0) hS hs hM hkM N 0 (by omega) (by omega)
  have hfl := flat_len hX' (M.take kn).length (Nat.le_refl _)
  rw [List.take_length, hX.1] at hfl
  have hby : ∀ x ∈ (M.take kn).flatten, x < 256 := fun x hx => by
    obtain ⟨l, hl, hxl⟩ := List.mem_flatten.1 hx
    obtain ⟨i, hi, rfl⟩ := List.mem_iff_getElem.1 hl
    have := (hX'.2 i hi).2
    rw [rw_lt hi] at this
    exact this x hxl
  rw [b2, Option.bind_some]
  have hks := le_blk (i := kn) (s := s) (by omega) hs
  have c4 : decide ((((M.take kn).flatten.map u).length : Int) < 4) = true := by simp only [List.length_map, decide_eq_true_eq]; omega
  rw [if_pos c4]
theorem unite_r1 {N : Nat} {B : Mx} {t : List Bool} {M : Mx} {kn s : Nat} (hN : 100000000 < N) (hk1 : 1 ≤ kn) (hk16 : kn ≤ 16) (hkM : kn ≤ M.length) (hM : M.length ≤ 40) (hs : s ≤ 65536) (hS : Shape M.length s M) {n0 n1 n2 n3 v : Nat} {rest : Row} (hf : (M.take kn).flatten = n0 :: n1 :: n2 :: n3 :: rest) (hv : num4 n0 n1 n2 n3 = v) (r1 : ref14_Repair N (um B) t (kn : Int) = some (um M, 0)) (hA : rest.length < v) : ref14_Unite N (um B) t (kn : Int) = some ([], 7) := by
  have hmax : 2 ^ 60 ≤ maxLen := by decide
  have c : ¬ ((!decide ((0 : Int) = 0)) = true) := by simp
  unfold ref14_Unite
  rw [r1, Option.bind_some]
  dsimp only
  rw [if_neg c]
  have hX : Shape kn s (M.take kn) := ⟨by rw [List.length_take]; omega, fun r hr => by rw [rw_take hr hkM]; exact hS.2 r (by omega)⟩
  have hX' : Shape (M.take kn).length s (M.take kn) := by rw [hX.1]; exact hX
  have b2 : ref14_Unite_l1 N (kn : Int) (um M, 0) N [] 0 = _ := con3 (N := N) (e := 0) hS hs hM hkM N 0 (by omega) (by omega)
  have hfl := flat_len hX' (M.take kn).length (Nat.le_refl _)
  rw [List.take_length, hX.1] at hfl
  have hby : ∀ x ∈ (M.take kn).flatten, x < 256 := fun x hx => by
    obtain ⟨l, hl, hxl⟩ := List.mem_flatten.1 hx
    obtain ⟨i, hi, rfl⟩ := List.mem_iff_getElem.1 hl
    have := (hX'.2 i hi).2
    rw [rw_lt hi] at this
    exact this x hxl
  rw [b2, Option.bind_some]
  have hks := le_blk (i := kn) (s := s) (by omega) hs
  rw [hf] at hby hfl ⊢
  have h0 : n0 < 256 := hby n0 (by simp)
  have h1 : n1 < 256 := hby n1 (by simp)
  have h2 : n2 < 256 := hby n2 (by simp)
  have h3 : n3 < 256 := hby n3 (by simp)
  have hrb : ∀ x ∈ rest, x < 256 := fun x hx => hby x (by simp [hx])
  have hlr : 4 + rest.length = kn * s := by simp only [List.length_cons] at hfl; omega
  have hll : ((((n0 :: n1 :: n2 :: n3 :: rest).map u).length : Nat) : Int) = ((4 + rest.length : Nat) : Int) := by simp only [List.length_map, List.length_cons]; omega
  have i0 : idx ((n0 :: n1 :: n2 :: n3 :: rest).map u) 0 = some (u n0) := rfl
  have i1 : idx ((n0 :: n1 :: n2 :: n3 :: rest).map u) 1 = some (u n1) := rfl
  have i2 : idx ((n0 :: n1 :: n2 :: n3 :: rest).map u) 2 = some (u n2) := rfl
  have i3 : idx ((n0 :: n1 :: n2 :: n3 :: rest).map u) 3 = some (u n3) := rfl
  have c4 : ¬ (decide ((((n0 :: n1 :: n2 :: n3 :: rest).map u).length : Int) < 4) = true) := by rw [hll]; simp only [decide_eq_true_eq]; omega
  rw [if_neg c4]
  have q0 : inR (u n0).n := by rw [u_n]; unfold inR; omega
  have q1 : inR (u n1).n := by rw [u_n]; unfold inR; omega
  have q2 : inR (u n2).n := by rw [u_n]; unfold inR; omega
  have q3 : inR (u n3).n := by rw [u_n]; unfold inR; omega
  have q4 : inR ((u n0).n * 16777216) := by rw [u_n]; unfold inR; omega
  have q5 : inR ((u n1).n * 65536) := by rw [u_n]; unfold inR; omega
  have q6 : inR ((u n2).n * 256) := by rw [u_n]; unfold inR; omega
  have q7 : inR ((u n0).n * 16777216 + (u n1).n * 65536) := by rw [u_n, u_n]; unfold inR; omega
  have q8 : inR ((u n0).n * 16777216 + (u n1).n * 65536 + (u n2).n * 256) := by rw [u_n, u_n, u_n]; unfold inR; omega
  have hv0 : num4 n0 n1 n2 n3 < 4294967296 := num4_lt h0 h1 h2 h3
  have hr := num4_int n0 n1 n2 n3
  rw [hv] at hr hv0
  rewrite [i0, i1, i2, i3, Option.bind_some, Option.bind_some, Option.bind_some, Option.bind_some, hr, hll]
  clear hr
  have q9 : inR (v : Int) := by unfold inR; omega
  have hsub : ((4 + rest.length : Nat) : Int) - 4 = (rest.length : Int) := by omega
  rewrite [hsub]
  have qr : inR (rest.length : Int) := by unfold inR; omega
  have cA : decide ((rest.length : Int) < (v : Int)) = true := by simp only [decide_eq_true_eq]; omega
  rewrite [chk, if_pos q0, chk, if_pos q4, chk, if_pos q1, chk, if_pos q5, chk, if_pos q7, chk, if_pos q2, chk, if_pos q6, chk, if_pos q8, chk, if_pos q3, chk, if_pos q9, chk, if_pos qr]
  rewrite [if_pos cA]
  rfl
theorem unite_r2 {N : Nat} {B : Mx} {t : List Bool} {M : Mx} {kn s : Nat} (hN : 100000000 < N) (hk1 : 1 ≤ kn) (hk16 : kn ≤ 16) (hkM : kn ≤ M.length) (hM : M.length ≤ 40) (hs : s ≤ 65536) (hS : Shape M.length s M) {n0 n1 n2 n3 v : Nat} {rest : Row} (hf : (M.take kn).flatten = n0 :: n1 :: n2 :: n3 :: rest) (hv : num4 n0 n1 n2 n3 = v) (r1 : ref14_Repair N (um B) t (kn : Int) = some (um M, 0)) (hvl : v ≤ rest.length) (o : List U8 × Int) (hz : rest.length - v < kn → (∀ j, j < (rest.drop v).length → (rest.drop v).getD j 0 = 0) → o = ((rest.take v).map u, 0)) (hnz : ¬ (rest.length - v < kn ∧ ∀ j, j < (rest.drop v).length → (rest.drop v).getD j 0 = 0) → o = ([], 7)) : ref14_Unite N (um B) t (kn : Int) = some o := by
  have hmax : 2 ^ 60 ≤ maxLen := by decide
  have c : ¬ ((!decide ((0 : Int) = 0)) = true) := by simp
  unfold ref14_Unite
  rw [r1, Option.bind_some]
  dsimp only
  rw [if_neg c]
  have hX : Shape kn s (M.take kn) := ⟨by rw [List.length_take]; omega, fun r hr => by rw [rw_take hr hkM]; exact hS.2 r (by omega)⟩
  have hX' : Shape (M.take kn).length s (M.take kn) := by rw [hX.1]; exact hX
  have b2 : ref14_Unite_l1 N (kn : Int) (um M, 0) N [] 0 = _ := con3 (N := N) (e := 0) hS hs hM hkM N 0 (by omega) (by omega)
  have hfl := flat_len hX' (M.take kn).length (Nat.le_refl _)
  rw [List.take_length, hX.1] at hfl
  have hby : ∀ x ∈ (M.take kn).flatten, x < 256 := fun x hx => by
    obtain ⟨l, hl, hxl⟩ := List.mem_flatten.1 hx
    obtain ⟨i, hi, rfl⟩ := List.mem_iff_getElem.1 hl
    have := (hX'.2 i hi).2
    rw [rw_lt hi] at this
    exact this x hxl
  rw [b2, Option.bind_some]
  have hks := le_blk (i := kn) (s := s) (by omega) hs
  rw [hf] at hby hfl ⊢
  have h0 : n0 < 256 := hby n0 (by simp)
  have h1 : n1 < 256 := hby n1 (by simp)
  have h2 : n2 < 256 := hby n2 (by simp)
  have h3 : n3 < 256 := hby n3 (by simp)
  have hrb : ∀ x ∈ rest, x < 256 := fun x hx => hby x (by simp [hx])
  have hlr : 4 + rest.length = kn * s := by simp only [List.length_cons] at hfl; omega
  have hll : ((((n0 :: n1 :: n2 :: n3 :: rest).map u).length : Nat) : Int) = ((4 + rest.length : Nat) : Int) := by simp only [List.length_map, List.length_cons]; omega
  have i0 : idx ((n0 :: n1 :: n2 :: n3 :: rest).map u) 0 = some (u n0) := rfl
  have i1 : idx ((n0 :: n1 :: n2 :: n3 :: rest).map u) 1 = some (u n1) := rfl
  have i2 : idx ((n0 :: n1 :: n2 :: n3 :: rest).map u) 2 = some (u n2) := rfl
  have i3 : idx ((n0 :: n1 :: n2 :: n3 :: rest).map u) 3 = some (u n3) := rfl
  have c4 : ¬ (decide ((((n0 :: n1 :: n2 :: n3 :: rest).map u).length : Int) < 4) = true) := by rw [hll]; simp only [decide_eq_true_eq]; omega
  rw [if_neg c4]
  have q0 : inR (u n0).n := by rw [u_n]; unfold inR; omega
  have q1 : inR (u n1).n := by rw [u_n]; unfold inR; omega
  have q2 : inR (u n2).n := by rw [u_n]; unfold inR; omega
  have q3 : inR (u n3).n := by rw [u_n]; unfold inR; omega
  have q4 : inR ((u n0).n * 16777216) := by rw [u_n]; unfold inR; omega
  have q5 : inR ((u n1).n * 65536) := by rw [u_n]; unfold inR; omega
  have q6 : inR ((u n2).n * 256) := by rw [u_n]; unfold inR; omega
  have q7 : inR ((u n0).n * 16777216 + (u n1).n * 65536) := by rw [u_n, u_n]; unfold inR; omega
  have q8 : inR ((u n0).n * 16777216 + (u n1).n * 65536 + (u n2).n * 256) := by rw [u_n, u_n, u_n]; unfold inR; omega
  have hv0 : num4 n0 n1 n2 n3 < 4294967296 := num4_lt h0 h1 h2 h3
  have hr := num4_int n0 n1 n2 n3
  rw [hv] at hr hv0
  rewrite [i0, i1, i2, i3, Option.bind_some, Option.bind_some, Option.bind_some, Option.bind_some, hr, hll]
  clear hr
  have q9 : inR (v : Int) := by unfold inR; omega
  have hsub : ((4 + rest.length : Nat) : Int) - 4 = (rest.length : Int) := by omega
  rewrite [hsub]
  have qr : inR (rest.length : Int) := by unfold inR; omega
  have cA : ¬ (decide ((rest.length : Int) < (v : Int)) = true) := by simp only [decide_eq_true_eq]; omega
  have q4v : inR (4 + (v : Int)) := by unfold inR; omega
  have hlt : (rest.take v).length = v := by rw [List.length_take]; omega
  have cut1 : cut ((n0 :: n1 :: n2 :: n3 :: rest).map u) 4 (4 + (v : Int)) = some ((rest.take v).map u) := by
    unfold cut
    have e4 : (4 + (v : Int)).toNat = v + 1 + 1 + 1 + 1 := by omega
    rw [if_pos ⟨by omega, by omega, by rw [hll]; omega⟩, e4, List.map_take]
    rfl
  have ck : (([] : List U8).length + ((rest.take v).map u).length) * 1 ≤ 140737488355328 ∧ ([] : List U8).length + ((rest.take v).map u).length ≤ maxLen := ⟨by simp only [List.length_nil, List.length_map, hlt]; omega, by simp only [List.length_nil, List.length_map, hlt]; omega⟩
  obtain ⟨p1, p2, p3⟩ := pad_spec (x := 4 + v) (k := kn) (by omega)
  obtain ⟨sz, hsz⟩ : ∃ sz, 4 + v + padN (4 + v) kn = kn * sz := Nat.dvd_of_mod_eq_zero p1
  obtain ⟨e, he⟩ := divide_eq (N := N) h0 h1 h2 h3 hrb hv hvl hk1 hk16 (by have := Nat.mul_le_mul_left kn hs; omega) (by omega) hsz
  have law := rest_law hX hk1 hf hvl hlr hsz
  generalize hC : (List.range kn).map (part (again n0 n1 n2 n3 rest v kn) sz) = C at he
  have lC : C.length = kn := by rw [← hC]; simp
  have rC : ∀ j, j < kn → rw_ C j = part (again n0 n1 n2 n3 rest v kn) sz j := fun j hj => by
    rw [← hC, rw_lt (by simpa using hj), List.getElem_map, List.getElem_range]
  have cmp := cmp_l (N := N) (M := M) (C := C) (d := 0) (e := e) hkM (by omega) hk16 N 0 (by omega) (by omega)
  have cmpT : ref14_Unite_l2 N (kn : Int) (um M, 0) (um C, e) N 0 = some (if (∀ i, i < kn → part (again n0 n1 n2 n3 rest v kn) sz i = rw_ (M.take kn) i) then .inl () else .inr ([], 7)) := by
    rcases cmp with ⟨a, b⟩ | ⟨⟨j, hj, hne⟩, b⟩
    · have b' : ref14_Unite_l2 N (kn : Int) (um M, 0) (um C, e) N 0 = _ := b
      rw [b', if_pos (fun i hi => ?_)]
      have := a i (Nat.zero_le _) hi
      rw [rC i hi] at this
      rw [rw_take hi hkM]
      exact txt_inj (fun x hx => again_lt h0 h1 h2 h3 hrb x (part_mem hx)) (hS.2 i (by omega)).2 this
    · have b' : ref14_Unite_l2 N (kn : Int) (um M, 0) (um C, e) N 0 = _ := b
      rw [b', if_neg (fun h => ?_)]
      apply hne
      rw [rC j hj, h j hj, rw_take hj hkM]
  rewrite [chk, if_pos q0, chk, if_pos q4, chk, if_pos q1, chk, if_pos q5, chk, if_pos q7, chk, if_pos q2, chk, if_pos q6, chk, if_pos q8, chk, if_pos q3, chk, if_pos q9, chk, if_pos qr]
  rewrite [if_neg cA, chk, if_pos q4v, cut1, Option.bind_some, chk, if_pos ck, List.nil_append, he, Option.bind_some, cmpT, Option.bind_some]
  by_cases hcond : ∀ i, i < kn → part (again n0 n1 n2 n3 rest v kn) sz i = rw_ (M.take kn) i
  · obtain ⟨z1, z2⟩ := law.1 hcond
    rw [if_pos hcond, hz (by omega) z2]
  · rw [if_neg hcond, hnz (fun h => hcond (law.2 ⟨by omega, h.2⟩))]
theorem unite_eq {N : Nat} {B : Mx} (hB : Okb B) (t : List Bool) (k : Int) (hN : 100000000 < N) :
    ∃ r, check_Unite N (um B) t k = some r ∧ ref14_Unite N (um B) t k = some r := by
  obtain ⟨r, r1, r2, r3⟩ := repair_eq (N := N) hB t k (by omega)
  rcases r3 with ⟨e1, e2⟩ | ⟨e1, M, kn, s, rfl, e2, hk1, hk16, hkM, hM, hs, hS⟩
  · unfold check_Unite ref14_Unite
    rw [r1, r2, Option.bind_some, Option.bind_some]
    have c : (!decide (r.2 = 0)) = true := by simp [e1]
    rw [if_pos c, if_pos c]
    exact ⟨_, rfl, rfl⟩
  obtain ⟨L, e⟩ := r
  simp only at e1 e2
  subst e1 e2
  by_cases h4 : (M.take kn).flatten.length < 4
  · exact ⟨_, unite_p0 hN hk1 hk16 hkM hM hs hS r1 h4, unite_r0 hN hk1 hk16 hkM hM hs hS r2 h4⟩
  obtain ⟨n0, n1, n2, n3, rest, hf⟩ := four (b := (M.take kn).flatten) (by omega)
  by_cases hA : rest.length < num4 n0 n1 n2 n3
  · exact ⟨_, unite_p1 hN hk1 hk16 hkM hM hs hS hf rfl r1 hA, unite_r1 hN hk1 hk16 hkM hM hs hS hf rfl r2 hA⟩
  by_cases hz : rest.length - num4 n0 n1 n2 n3 < kn ∧ ∀ j, j < (rest.drop (num4 n0 n1 n2 n3)).length → (rest.drop (num4 n0 n1 n2 n3)).getD j 0 = 0
  · exact ⟨_, unite_p2 hN hk1 hk16 hkM hM hs hS hf rfl r1 (by omega) _ (fun _ _ => rfl) (fun h => (h hz).elim), unite_r2 hN hk1 hk16 hkM hM hs hS hf rfl r2 (by omega) _ (fun _ _ => rfl) (fun h => (h hz).elim)⟩
  · exact ⟨_, unite_p2 hN hk1 hk16 hkM hM hs hS hf rfl r1 (by omega) ([], 7) (fun a b => (hz ⟨a, b⟩).elim) (fun _ => rfl), unite_r2 hN hk1 hk16 hkM hM hs hS hf rfl r2 (by omega) ([], 7) (fun a b => (hz ⟨a, b⟩).elim) (fun _ => rfl)⟩
end Go.Arm
namespace Go.Arm
open Go Go.RowKit Go.Gf

theorem few_l {N : Nat} (a : List (List U8)) (ha : a.length ≤ maxLen) : ∀ (m i : Nat) (s : Int), i ≤ a.length → a.length < i + m → ∃ r, law14_few_l1 N a m s (i : Int) = some r
  | 0, i, s, h0, h1 => by omega
  | m + 1, i, s, h0, h1 => by
    rw [law14_few_l1.eq_2]
    by_cases h : i < a.length
    · have c1 : decide ((i : Int) < (a.length : Int)) = true := by simp; exact h
      have hin : inR ((i : Int) + 1) := by simp only [maxLen] at ha; unfold inR; omega
      rw [if_pos c1, idx_n h, Option.bind_some, chk, if_pos hin]
      exact few_l a ha m (i + 1) _ (by omega) (by omega)
    · have c1 : ¬ (decide ((i : Int) < (a.length : Int)) = true) := by simp; omega
      rw [if_neg c1]
      exact ⟨s, rfl⟩
theorem equal_l {N : Nat} {L : List (List U8)} (hL : L.length ≤ 3000) : ∀ (n i : Nat), L.length < i + n → i ≤ L.length → law14_equal_l1 N L L n (i : Int) = some (.inl ())
  | 0, i, h0, h1 => by omega
  | n + 1, i, h0, h1 => by
    rw [law14_equal_l1.eq_2]
    by_cases h : i < L.length
    · have c1 : decide ((i : Int) < (L.length : Int)) = true := by simp; exact h
      have c2 : ∀ x : List U8, ¬ ((!decide (txtOf x = txtOf x)) = true) := fun x => by simp
      rw [if_pos c1, idx_n h, Option.bind_some, Option.bind_some, if_neg (c2 _), chk, if_pos (show inR ((i : Int) + 1) by unfold inR; omega)]
      exact equal_l hL n (i + 1) (by omega) (by omega)
    · have c1 : ¬ (decide ((i : Int) < (L.length : Int)) = true) := by simp; omega
      rw [if_neg c1]
theorem equal_self {N : Nat} {L : List (List U8)} (hL : L.length ≤ 3000) (hN : 3000 < N) : law14_equal N L L = some true := by
  have h : law14_equal_l1 N L L N 0 = _ := equal_l (N := N) hL N 0 (by omega) (by omega)
  unfold law14_equal
  have c : ¬ ((!decide ((L.length : Int) = (L.length : Int))) = true) := by simp
  rw [if_neg c, h]
  rfl
theorem lawR (a0 : List (List U8)) (h : a0.length ≤ maxLen ∧ ∀ x ∈ a0, x.length ≤ maxLen ∧ ∀ y ∈ x, (Lit.int .u8 y.n).wf = true) (a1 : List Bool) (_k1 : a1.length ≤ maxLen ∧ ∀ x ∈ a1, True) (a2 : Int) : ∃ N, law14_CheckRepairs N a0 a1 a2 = some true := by
  refine ⟨100000001 + a0.length, ?_⟩
  generalize hN' : 100000001 + a0.length = N
  have hN : 100000000 < N := by omega
  have hNa : a0.length < N := by omega
  clear hN'
  have hw : law14_works N = some true := rfl
  obtain ⟨r, hr⟩ := few_l (N := N) a0 h.1 N 0 0 (by omega) (by omega)
  have hr' : law14_few_l1 N a0 N 0 0 = some r := hr
  have hfew : law14_few N a0 = some (decide ((a0.length : Int) ≤ 40) && decide (r ≤ 2000)) := by
    unfold law14_few
    rw [hr', Option.bind_some]
    by_cases h4 : (a0.length : Int) ≤ 40
    · rw [if_pos (decide_eq_true h4), decide_eq_true h4]; rfl
    · rw [if_neg (by simpa using h4), decide_eq_false h4]; rfl
  unfold law14_CheckRepairs
  rw [hfew, Option.bind_some]
  by_cases hf : (decide ((a0.length : Int) ≤ 40) && decide (r ≤ 2000)) = true
  · rw [hf, if_neg (by simp), Option.bind_some]
    dsimp only
    by_cases h5 : decide ((50 : Int) < (a1.length : Int)) = true
    · rw [if_pos h5, hw]; rfl
    · rw [if_neg h5]
      have h40 : (a0.length : Int) ≤ 40 := by
        rw [Bool.and_eq_true] at hf
        exact of_decide_eq_true hf.1
      obtain ⟨B, rfl, hb⟩ := blocks_um a0 (fun x hx => (h.2 x hx).2)
      have hB : Okb B := ⟨by rw [um_len] at h40; omega, hb⟩
      obtain ⟨q, q1, q2, q3⟩ := repair_eq (N := N) hB a1 a2 (by omega)
      obtain ⟨p, p1, p2⟩ := unite_eq (N := N) hB a1 a2 hN
      have hql : q.1.length ≤ 3000 := by
        rcases q3 with ⟨_, e⟩ | ⟨_, M, kn, s, _, e, _, _, _, hM, _⟩
        · rw [e]; simp
        · rw [e, um_len]; omega
      have c : ¬ ((!true) = true) := by simp
      have c2 : (!decide (q.2 = q.2)) = false := by simp
      rw [q1, q2, Option.bind_some, Option.bind_some, equal_self hql (by omega), Option.bind_some, if_neg c, Option.bind_some]
      rw [c2, if_neg Bool.false_ne_true, p1, p2, Option.bind_some, Option.bind_some, if_pos (decide_eq_true rfl), if_pos (decide_eq_true rfl), hw]
      rfl
  · have e : (!(decide ((a0.length : Int) ≤ 40) && decide (r ≤ 2000))) = true := by rw [Bool.eq_false_iff.2 hf]; rfl
    rw [if_pos e, Option.bind_some]
    dsimp only
    rw [if_pos rfl, hw]; rfl
end Go.Arm
