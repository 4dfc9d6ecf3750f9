/- Plain laws. -/
import Derived.Test.YtdaedcoolcicoaaRef
import Derived.Test.YtdaedcoolcicoaaGf1
import Derived.Test.YtdaedcoolcicoaaHandD
import Derived.KernelRfl
namespace Go.Arm
open Go Go.RowKit Go.Gf

def u (a : Nat) : U8 := ⟨(a : Int)⟩
def um (R : Mx) : List (List U8) := R.map (List.map u)
theorem idx_n {α : Type} {l : List α} {i : Nat} (h : i < l.length) : idx l (i : Int) = some l[i] := by
  unfold idx
  rw [if_pos (by omega), Int.toNat_natCast, List.getElem?_eq_getElem h]
theorem idx_u {l : Row} {i : Nat} (h : i < l.length) : idx (l.map u) (i : Int) = some (u (l.getD i 0)) := by
  rw [idx_n (by simpa using h), List.getElem_map, List.getD_eq_getElem?_getD, List.getElem?_eq_getElem h]; rfl
theorem idx_um {R : Mx} {r : Nat} (h : r < R.length) : idx (um R) (r : Int) = some ((rw_ R r).map u) := by
  unfold um
  rw [idx_n (by simpa using h), List.getElem_map, rw_lt h]
theorem um_set (R : Mx) (r : Nat) (x : Row) : (um R).set r (x.map u) = um (R.set r x) := by unfold um; rw [List.map_set]
theorem um_len (R : Mx) : (um R).length = R.length := by simp [um]

theorem bv_nat (k : Nat) (a : Nat) : (BitVec.ofInt k (a : Int)).toNat = a % 2 ^ k := by simp
theorem xorK_u8 {a b : Nat} (ha : a < 256) (hb : b < 256) : xorK .u8 (a : Int) (b : Int) = ((a ^^^ b : Nat) : Int) := by
  unfold xorK
  have e1 : (BitVec.ofInt (IntKind.bits .u8) (a : Int)).toNat = a := by show (BitVec.ofInt 8 (a : Int)).toNat = a; rw [bv_nat]; exact Nat.mod_eq_of_lt ha
  have e2 : (BitVec.ofInt (IntKind.bits .u8) (b : Int)).toNat = b := by show (BitVec.ofInt 8 (b : Int)).toNat = b; rw [bv_nat]; exact Nat.mod_eq_of_lt hb
  rw [BitVec.toNat_xor, e1, e2]
  have h := xor_lt ha hb
  simp [IntKind.wrap, IntKind.bits, IntKind.signed]
  omega
theorem xorK_i64 {a b : Nat} (ha : a < 2147483648) (hb : b < 2147483648) : xorK .i64 (a : Int) (b : Int) = ((a ^^^ b : Nat) : Int) := by
  unfold xorK
  have e1 : (BitVec.ofInt (IntKind.bits .i64) (a : Int)).toNat = a := by show (BitVec.ofInt 64 (a : Int)).toNat = a; rw [bv_nat]; exact Nat.mod_eq_of_lt (by omega)
  have e2 : (BitVec.ofInt (IntKind.bits .i64) (b : Int)).toNat = b := by show (BitVec.ofInt 64 (b : Int)).toNat = b; rw [bv_nat]; exact Nat.mod_eq_of_lt (by omega)
  rw [BitVec.toNat_xor, e1, e2]
  have h : a ^^^ b < 2 ^ 31 := Nat.xor_lt_two_pow ha hb
  exact wrap_in (by unfold inR; omega)
theorem conv_u8 {a : Nat} (h : a < 256) : convK .u8 (a : Int) = (a : Int) := by
  unfold convK
  simp [IntKind.wrap, IntKind.bits, IntKind.signed]
  omega
theorem u_n (a : Nat) : (u a).n = (a : Int) := rfl

/-! The tables. -/
theorem tab_log : ((List.range 256).all fun a => a == 0 || intOf (Go.Proofs.Ytdaedcoolcicoaa.box37.get (510 + a)) == (lg a : Int)) = true := by kernel_rfl
theorem tab_pow : ((List.range 510).all fun k => intOf (Go.Proofs.Ytdaedcoolcicoaa.box37.get k) == (ex k : Int)) = true := by kernel_rfl
theorem log_at {a : Nat} (h : a < 256) (h0 : a ≠ 0) : idx fieldT.log.l (a : Int) = some (lg a : Int) := by
  have h1 := Gf.all_of tab_log h
  simp only [Bool.or_eq_true, beq_iff_eq] at h1
  unfold fieldT
  rw [idx_n (by simpa using h)]
  simp only [List.getElem_map, List.getElem_range]
  rw [h1.resolve_left h0]
theorem pow_at {k : Nat} (h : k < 510) : idx fieldT.power.l (k : Int) = some (u (ex k)) := by
  have h1 := Gf.all_of tab_pow h
  simp only [beq_iff_eq] at h1
  unfold fieldT
  rw [idx_n (by simpa using h)]
  simp only [List.getElem_map, List.getElem_range]
  rw [h1]; rfl
theorem mul_eq (N : Nat) {a b : Nat} (ha : a < 256) (hb : b < 256) : check_field_mul N fieldT (u a) (u b) = some (u (gm a b)) := by
  unfold check_field_mul
  by_cases h1 : a = 0
  · subst h1; simp [u, zero_gm]
  · by_cases h2 : b = 0
    · subst h2; simp [u, gm_zero]
    · have e1 : ¬ ((a : Int) = 0) := by omega
      have e2 : ¬ ((b : Int) = 0) := by omega
      have l1 := (ex_lg ha h1).2
      have l2 := (ex_lg hb h2).2
      simp only [e1, e2, decide_false, Bool.false_eq_true, if_false, Option.bind_some, u_n, log_at ha h1, log_at hb h2]
      rw [chk, if_pos (by unfold inR; omega), show ((lg a : Int) + (lg b : Int)) = ((lg a + lg b : Nat) : Int) by omega, pow_at (by omega)]
      rw [gm_eq h1 h2]; rfl
theorem inv_eq (N : Nat) {a : Nat} (ha : a < 256) (h0 : a ≠ 0) : check_field_inverse N fieldT (u a) = some (u (ginv a)) := by
  unfold check_field_inverse
  have l1 := (ex_lg ha h0).2
  rw [u_n, log_at ha h0]
  simp only [Option.bind_some]
  rw [chk, if_pos (by unfold inR; omega), show ((255 : Int) - (lg a : Int)) = ((255 - lg a : Nat) : Int) by omega, pow_at (by omega), ginv_is]
  rfl

/-! The reference's product. -/
def bit (b i : Nat) : Nat := if b / 2 ^ i % 2 = 1 then 1 else 0
theorem shr_bit {b i : Nat} (hi : i < 8) : Int.tmod (shrK .i64 (b : Int) (i : Int)) 2 = ((b / 2 ^ i % 2 : Nat) : Int) := by
  unfold shrK
  have e : min ((i : Int)).toNat (IntKind.bits .i64) = i := by show min ((i : Int)).toNat 64 = i; omega
  rw [e, Int.fdiv_eq_ediv_of_nonneg _ (by exact Int.pow_nonneg (by decide))]
  have e2 : (b : Int) / 2 ^ i = ((b / 2 ^ i : Nat) : Int) := by rw [Int.natCast_ediv]; norm_cast
  rw [e2, Int.tmod_eq_emod_of_nonneg (Int.natCast_nonneg _)]
  norm_cast
theorem times_step {N m : Nat} {x o b i : Nat} (hi : i < 8) (hx : x < 256) (ho : o < 256) (hb : b < 256) :
    ref14_times_l1 N (u b) (m + 1) (x : Int) (o : Int) (i : Int) = ref14_times_l1 N (u b) m (Gf.xt x : Int) ((o ^^^ gm (bit b i) x : Nat) : Int) ((i + 1 : Nat) : Int) := by
  have hxt : Gf.xt x < 256 := by rw [← two_gm hx]; exact gm_lt _ _
  have h285 : (2 * x) ^^^ 285 < 2 ^ 9 := Nat.xor_lt_two_pow (by omega) (by decide)
  rw [ref14_times_l1.eq_2]
  simp only [show ((i : Int) < 8) by omega, decide_true, if_true]
  unfold chk
  rw [if_pos (show inR (u b).n by show inR (b : Int); unfold inR; omega), if_pos (show (0 : Int) ≤ (i : Int) by omega), if_pos (show (2 : Int) ≠ 0 by decide), u_n, shr_bit hi]
  have ex2 : (x : Int) * 2 = ((2 * x : Nat) : Int) := by omega
  have hin : inR ((x : Int) * 2) := by unfold inR; omega
  have hin2 : inR ((i : Int) + 1) := by unfold inR; omega
  have exx : (if decide (255 < (x : Int) * 2) = true then (xorK .i64 ((x : Int) * 2) 285) else (x : Int) * 2) = (Gf.xt x : Int) := by
    unfold Gf.xt
    by_cases h : 2 * x < 256
    · rw [if_neg (by simp; omega), if_pos h, ex2]
    · rw [if_pos (by simp; omega), if_neg h, ex2]
      exact xorK_i64 (a := 2 * x) (b := 285) (by omega) (by decide)
  by_cases hbit : b / 2 ^ i % 2 = 1
  · have e1 : gm (bit b i) x = x := by unfold bit; rw [if_pos hbit, gm_comm, gm_one hx]
    have e2 : xorK .i64 (o : Int) (x : Int) = ((o ^^^ x : Nat) : Int) := xorK_i64 (by omega) (by omega)
    rw [if_pos (by simp [hbit]), if_pos hin, e1, if_pos hin2, e2]
    rw [← exx]
    split <;> rfl
  · have e1 : gm (bit b i) x = 0 := by unfold bit; rw [if_neg hbit, zero_gm]
    have h0 : b / 2 ^ i % 2 = 0 := by omega
    rw [if_neg (by simp [h0]), if_pos hin, e1, if_pos hin2, Nat.xor_zero]
    rw [← exx]
    split <;> rfl
theorem bits_c : ((List.range 256).all fun b => (bit b 0) ^^^ (gmC (bit b 1) 2) ^^^ (gmC (bit b 2) 4) ^^^ (gmC (bit b 3) 8) ^^^ (gmC (bit b 4) 16) ^^^ (gmC (bit b 5) 32) ^^^ (gmC (bit b 6) 64) ^^^ (gmC (bit b 7) 128) == b) = true := by kernel_rfl
theorem bit_lt (b i : Nat) : bit b i < 256 := by unfold bit; split <;> decide
theorem times_eq {N : Nat} (hN : 10 < N) {a b : Nat} (ha : a < 256) (hb : b < 256) : ref14_times N (u a) (u b) = some (u (gm a b)) := by
  unfold ref14_times
  obtain ⟨k, hk⟩ : ∃ k, N = k + 9 := ⟨N - 9, by omega⟩
  rw [chk, if_pos (show inR (u a).n by show inR (a : Int); unfold inR; omega), u_n]
  have hx : ∀ {x : Nat}, x < 256 → Gf.xt x < 256 := fun {x} h => by rw [← two_gm h]; exact gm_lt _ _
  have h0 := ha
  have h1 := hx h0
  have h2 := hx h1
  have h3 := hx h2
  have h4 := hx h3
  have h5 := hx h4
  have h6 := hx h5
  have h7 := hx h6
  have e0 : ((0 : Int)) = ((0 : Nat) : Int) := rfl
  have hl : ∀ (m : Nat) (x o : Int), ref14_times_l1 N (u b) (m + 1) x o ((8 : Nat) : Int) = some o := fun m x o => by
    rw [ref14_times_l1.eq_2]; rfl
  have key : ref14_times_l1 N (u b) N (a : Int) 0 0 = some ((gm a b : Nat) : Int) := by
    conv => lhs; arg 3; rw [hk]
    rw [e0]
    rw [times_step (i := 0) (by decide) h0 (by decide) hb, times_step (i := 1) (by decide) h1 (xor_lt (by decide) (gm_lt _ _)) hb, times_step (i := 2) (by decide) h2 (xor_lt (xor_lt (by decide) (gm_lt _ _)) (gm_lt _ _)) hb,
      times_step (i := 3) (by decide) h3 (xor_lt (xor_lt (xor_lt (by decide) (gm_lt _ _)) (gm_lt _ _)) (gm_lt _ _)) hb, times_step (i := 4) (by decide) h4 (xor_lt (xor_lt (xor_lt (xor_lt (by decide) (gm_lt _ _)) (gm_lt _ _)) (gm_lt _ _)) (gm_lt _ _)) hb,
      times_step (i := 5) (by decide) h5 (xor_lt (xor_lt (xor_lt (xor_lt (xor_lt (by decide) (gm_lt _ _)) (gm_lt _ _)) (gm_lt _ _)) (gm_lt _ _)) (gm_lt _ _)) hb,
      times_step (i := 6) (by decide) h6 (xor_lt (xor_lt (xor_lt (xor_lt (xor_lt (xor_lt (by decide) (gm_lt _ _)) (gm_lt _ _)) (gm_lt _ _)) (gm_lt _ _)) (gm_lt _ _)) (gm_lt _ _)) hb,
      times_step (i := 7) (by decide) h7 (xor_lt (xor_lt (xor_lt (xor_lt (xor_lt (xor_lt (xor_lt (by decide) (gm_lt _ _)) (gm_lt _ _)) (gm_lt _ _)) (gm_lt _ _)) (gm_lt _ _)) (gm_lt _ _)) (gm_lt _ _)) hb, hl]
    have hb1 := Gf.all_of bits_c hb
    simp only [beq_iff_eq] at hb1
    rw [← gm_is] at hb1
    congr 2
    have hxt : ∀ {x : Nat} (y : Nat), x < 256 → gm y (Gf.xt x) = gm (gm y 2) x := fun {x} y h => by rw [← two_gm h, gm_assoc]
    rw [hxt _ h0, hxt _ h1, hxt _ h0, hxt _ h2, hxt _ h1, hxt _ h0, hxt _ h3, hxt _ h2, hxt _ h1, hxt _ h0, hxt _ h4, hxt _ h3, hxt _ h2, hxt _ h1, hxt _ h0, hxt _ h5, hxt _ h4, hxt _ h3, hxt _ h2, hxt _ h1, hxt _ h0, hxt _ h6, hxt _ h5, hxt _ h4, hxt _ h3, hxt _ h2, hxt _ h1, hxt _ h0]
    have p2 : gm 2 2 = 4 := by rw [gm_is]; decide
    have p3 : gm 4 2 = 8 := by rw [gm_is]; decide
    have p4 : gm 8 2 = 16 := by rw [gm_is]; decide
    have p5 : gm 16 2 = 32 := by rw [gm_is]; decide
    have p6 : gm 32 2 = 64 := by rw [gm_is]; decide
    have p7 : gm 64 2 = 128 := by rw [gm_is]; decide
    simp only [gm_assoc _ 2 2, gm_assoc _ 4 2, gm_assoc _ 8 2, gm_assoc _ 16 2, gm_assoc _ 32 2, gm_assoc _ 64 2, p2, p3, p4, p5, p6, p7, Nat.zero_xor]
    conv => rhs; rw [gm_comm, ← hb1]
    have q0 : bit b 0 < 256 := bit_lt _ _
    have q1 := gm_lt (bit b 1) 2
    have q2 := gm_lt (bit b 2) 4
    have q3 := gm_lt (bit b 3) 8
    have q4 := gm_lt (bit b 4) 16
    have q5 := gm_lt (bit b 5) 32
    have q6 := gm_lt (bit b 6) 64
    have q7 := gm_lt (bit b 7) 128
    rw [xor_gm ha (xor_lt (xor_lt (xor_lt (xor_lt (xor_lt (xor_lt q0 q1) q2) q3) q4) q5) q6) q7, xor_gm ha (xor_lt (xor_lt (xor_lt (xor_lt (xor_lt q0 q1) q2) q3) q4) q5) q6, xor_gm ha (xor_lt (xor_lt (xor_lt (xor_lt q0 q1) q2) q3) q4) q5,
      xor_gm ha (xor_lt (xor_lt (xor_lt q0 q1) q2) q3) q4, xor_gm ha (xor_lt (xor_lt q0 q1) q2) q3, xor_gm ha (xor_lt q0 q1) q2, xor_gm ha q0 q1]
  rw [key]
  simp only [Option.bind_some, conv_u8 (gm_lt a b)]; rfl
theorem rinv_l {N : Nat} (hN : 10 < N) {a : Nat} (ha : a < 256) (h0 : a ≠ 0) : ∀ (m i : Nat), 1 ≤ i → i ≤ ginv a → ginv a < i + m → ref14_inverse_l1 N (u a) m (i : Int) = some (.inr (u (ginv a)))
  | 0, i, _, h1, h2 => by omega
  | m + 1, i, h, h1, h2 => by
    have hg := ginv_lt a
    have hi : i < 256 := by omega
    rw [ref14_inverse_l1.eq_2]
    simp only [show ((i : Int) < 256) by omega, decide_true, if_true, conv_u8 hi]
    rw [show (⟨(i : Int)⟩ : U8) = u i from rfl, times_eq hN ha hi]
    simp only [Option.bind_some]
    by_cases e : i = ginv a
    · subst e
      rw [gm_ginv ha h0]; rfl
    · have hne : gm a i ≠ 1 := fun h => e (gm_cancel ha h0 hi hg (by rw [h, gm_ginv ha h0]))
      rw [if_neg (by simp only [decide_eq_true_eq]; show ¬ ((gm a i : Int) = 1); omega), chk, if_pos (show inR ((i : Int) + 1) by unfold inR; omega)]
      exact rinv_l hN ha h0 m (i + 1) (by omega) (by omega) (by omega)
theorem rinv_eq {N : Nat} (hN : 300 < N) {a : Nat} (ha : a < 256) (h0 : a ≠ 0) : ref14_inverse N (u a) = some (u (ginv a)) := by
  unfold ref14_inverse
  have h1 : 1 ≤ ginv a := Nat.one_le_iff_ne_zero.2 (ginv_ne a)
  have := rinv_l (by omega : 10 < N) ha h0 N 1 (by omega) h1 (by have := ginv_lt a; omega)
  have e : ref14_inverse_l1 N (u a) N 1 = _ := this
  rw [e]; rfl
end Go.Arm
namespace Go.Arm
open Go Go.RowKit Go.Gf

/-- A product by f. -/
def MulBy (m : U8 → Option U8) (f : Nat) : Prop := ∀ y, y < 256 → m (u y) = some (u (gm y f))
theorem getD_set {l : Row} {i j x : Nat} (h : i < l.length) : (l.set i x).getD j 0 = if j = i then x else l.getD j 0 := by
  rw [List.getD_eq_getElem?_getD, List.getD_eq_getElem?_getD, List.getElem?_set]
  by_cases e : i = j
  · subst e; simp [h]
  · rw [if_neg e, if_neg (fun e' => e e'.symm)]
theorem u_set (l : Row) (i x : Nat) : (l.map u).set i (u x) = (l.set i x).map u := by rw [List.map_set]
theorem ext_getD {a b : Row} (h : a.length = b.length) (k : ∀ j, j < a.length → a.getD j 0 = b.getD j 0) : a = b := by
  apply List.ext_getElem h
  intro j h1 h2
  have := k j h1
  rw [List.getD_eq_getElem?_getD, List.getD_eq_getElem?_getD, List.getElem?_eq_getElem h1, List.getElem?_eq_getElem h2] at this
  exact this

theorem scale_l {m : U8 → Option U8} {f : Nat} (hm : MulBy m f) {l0 : Row} (hl0 : ∀ x, x ∈ l0 → x < 256) (hlen : inR ((l0.length : Int) + 1)) : ∀ (n i : Nat) (l : Row), l.length = l0.length → l0.length < i + n → i ≤ l0.length →
    (∀ j, j < l0.length → l.getD j 0 = if j < i then gm (l0.getD j 0) f else l0.getD j 0) → scaleG m n (i : Int) (l.map u) = some ((scl f l0).map u)
  | 0, i, l, _, h1, h2, _ => by omega
  | n + 1, i, l, hl, h1, h2, hj => by
    rw [scaleG]
    by_cases hi : i < l.length
    · have hxi : l.getD i 0 = l0.getD i 0 := by rw [hj i (by omega), if_neg (Nat.lt_irrefl i)]
      rw [if_pos (by simp; omega), idx_u hi, Option.bind_some, hxi, hm _ (getD_lt hl0 i), Option.bind_some]
      rw [chk, if_pos (show inR ((i : Int) + 1) by unfold inR at *; omega), Int.toNat_natCast, u_set]
      refine scale_l hm hl0 hlen n (i + 1) _ (by simpa using hl) (by omega) (by omega) (fun j hjl => ?_)
      rw [getD_set hi]
      by_cases e : j = i
      · subst e; rw [if_pos rfl, if_pos (by omega)]
      · rw [if_neg e, hj j hjl]
        by_cases e2 : j < i
        · rw [if_pos e2, if_pos (by omega)]
        · rw [if_neg e2, if_neg (by omega)]
    · rw [if_neg (by simp; omega)]
      have hi2 : i = l0.length := by omega
      have : l = scl f l0 := ext_getD (by rw [scl_len]; exact hl) (fun j hjl => by rw [hj j (by omega), if_pos (by omega), scl_getD])
      rw [this]
theorem scale_eq {m : U8 → Option U8} {f N : Nat} (hm : MulBy m f) {l : Row} (hl : ∀ x, x ∈ l → x < 256) (hlen : inR ((l.length : Int) + 1)) (hN : l.length < N) : scaleG m N 0 (l.map u) = some ((scl f l).map u) :=
  scale_l hm hl hlen N 0 l rfl (by omega) (by omega) (fun j _ => by rw [if_neg (by omega)])

theorem add_l {m : U8 → Option U8} {f : Nat} (hm : MulBy m f) {l t0 : Row} (hl : ∀ x, x ∈ l → x < 256) (ht : ∀ x, x ∈ t0 → x < 256) (he : t0.length = l.length) (hlen : inR ((l.length : Int) + 1)) : ∀ (n i : Nat) (t : Row), t.length = t0.length → t0.length < i + n → i ≤ t0.length →
    (∀ j, j < t0.length → t.getD j 0 = if j < i then t0.getD j 0 ^^^ gm (l.getD j 0) f else t0.getD j 0) → addG m (l.map u) n (i : Int) (t.map u) = some ((axpy f l t0).map u) ∧ addR m (l.map u) n (i : Int) (t.map u) = some ((axpy f l t0).map u)
  | 0, i, t, _, h1, h2, _ => by omega
  | n + 1, i, t, htl, h1, h2, hj => by
    rw [addG, addR]
    by_cases hi : i < t.length
    · have hil : i < l.length := by omega
      have hxi : t.getD i 0 = t0.getD i 0 := by rw [hj i (by omega), if_neg (Nat.lt_irrefl i)]
      have c1 : decide ((i : Int) < ((l.map u).length : Int)) = true := by simp; omega
      have c2 : decide ((i : Int) < ((t.map u).length : Int)) = true := by simp; omega
      have hin : inR ((i : Int) + 1) := by unfold inR at *; omega
      have ih := add_l hm hl ht he hlen n (i + 1) (t.set i (t0.getD i 0 ^^^ gm (l.getD i 0) f)) (by simpa using htl) (by omega) (by omega) (fun j hjl => by
        rw [getD_set hi]
        by_cases e : j = i
        · subst e; rw [if_pos rfl, if_pos (by omega)]
        · rw [if_neg e, hj j hjl]
          by_cases e2 : j < i
          · rw [if_pos e2, if_pos (by omega)]
          · rw [if_neg e2, if_neg (by omega)])
      have ex : (⟨xorK .u8 (u (t0.getD i 0)).n (u (gm (l.getD i 0) f)).n⟩ : U8) = u (t0.getD i 0 ^^^ gm (l.getD i 0) f) := by
        rw [u_n, u_n, xorK_u8 (getD_lt ht i) (gm_lt _ _)]; rfl
      refine ⟨?_, ?_⟩
      · rw [if_pos c1, idx_u hil, Option.bind_some, idx_u hi, Option.bind_some, hm _ (getD_lt hl i), hxi, Option.bind_some, chk, if_pos hin, Int.toNat_natCast, ex, u_set]
        exact ih.1
      · rw [if_pos c2, idx_u hil, Option.bind_some, idx_u hi, Option.bind_some, hm _ (getD_lt hl i), hxi, Option.bind_some, chk, if_pos hin, Int.toNat_natCast, ex, u_set]
        exact ih.2
    · have c1 : ¬ (decide ((i : Int) < ((l.map u).length : Int)) = true) := by simp; omega
      have c2 : ¬ (decide ((i : Int) < ((t.map u).length : Int)) = true) := by simp; omega
      rw [if_neg c1, if_neg c2]
      have : t = axpy f l t0 := ext_getD (by rw [axpy_len he]; exact htl) (fun j hjl => by rw [hj j (by omega), if_pos (by omega), axpy_getD he])
      rw [this]; exact ⟨rfl, rfl⟩
theorem add_eq {m : U8 → Option U8} {f N : Nat} (hm : MulBy m f) {l t : Row} (hl : ∀ x, x ∈ l → x < 256) (ht : ∀ x, x ∈ t → x < 256) (he : t.length = l.length) (hlen : inR ((l.length : Int) + 1)) (hN : l.length < N) :
    addG m (l.map u) N 0 (t.map u) = some ((axpy f l t).map u) ∧ addR m (l.map u) N 0 (t.map u) = some ((axpy f l t).map u) :=
  add_l hm hl ht he hlen N 0 t rfl (by omega) (by omega) (fun j _ => by rw [if_neg (by omega)])

theorem mulP (N : Nat) {f : Nat} (hf : f < 256) : MulBy (fun y => check_field_mul N fieldT y (u f)) f := fun _ hy => mul_eq N hy hf
theorem mulR {N : Nat} (hN : 10 < N) {f : Nat} (hf : f < 256) : MulBy (fun y => ref14_times N y (u f)) f := fun _ hy => times_eq hN hy hf

theorem swap_eq {R : Mx} {p c : Nat} (hp : p < R.length) (hc : c < R.length) : swapG (um R) (p : Int) (c : Int) = some (um (swp R p c)) := by
  unfold swapG
  rw [idx_um hp, Option.bind_some, idx_um hc, Option.bind_some, Int.toNat_natCast, Int.toNat_natCast, um_set, um_set]; rfl
theorem axpy_zero {l t : Row} (h : t.length = l.length) : axpy 0 l t = t :=
  ext_getD (by rw [axpy_len h]) (fun j _ => by rw [axpy_getD h, gm_zero, Nat.xor_zero])
theorem set_same {R : Mx} {r : Nat} (h : r < R.length) : R.set r (rw_ R r) = R := by
  apply List.ext_getElem (by simp)
  intro j h1 h2
  rw [List.getElem_set]
  split
  · rename_i e; subst e; rw [rw_lt h]
  · rfl
theorem en_idx {k s : Nat} {R : Mx} (h : Shape k s R) {r c : Nat} (hr : r < k) (hc : c < s) : idx ((rw_ R r).map u) (c : Int) = some (u (en R r c)) := idx_u (by rw [(h.2 r hr).1]; exact hc)

theorem len_in {k : Nat} (h : k ≤ 70000) : inR ((k : Int) + 1) := by unfold inR; omega
theorem elim_eq {N k s c : Nat} (hk : k ≤ 16) (hs : s ≤ 70000) (hc : c < k) (hN : 70000 < N) : ∀ (n m r : Nat) (R L : Mx), n < m → r + n = k → Shape k k R → Shape k s L →
    elimG N fieldT (c : Int) (k : Int) m (r : Int) (um R) (um L) = some (um (elimS c n r R L).1, um (elimS c n r R L).2) ∧ elimR N (c : Int) (k : Int) m (r : Int) (um R) (um L) = some (um (elimS c n r R L).1, um (elimS c n r R L).2)
  | _, 0, _, _, _, h, _, _, _ => absurd h (Nat.not_lt_zero _)
  | 0, m + 1, r, R, L, _, h, _, _ => by
    have c1 : ¬ (decide ((r : Int) < (k : Int)) = true) := by simp; omega
    rw [elimG, elimR, if_neg c1, if_neg c1]
    exact ⟨rfl, rfl⟩
  | n + 1, m + 1, r, R, L, hm, h, hR, hL => by
    have hr : r < k := by omega
    have hr1 : ((r : Int) + 1) = ((r + 1 : Nat) : Int) := by omega
    have hin : inR ((r : Int) + 1) := by unfold inR; omega
    have c1 : decide ((r : Int) < (k : Int)) = true := by simp; omega
    rw [elimG, elimR, if_pos c1, if_pos c1]
    unfold elimS
    by_cases e : r = c
    · have ec : ¬ ((!decide ((r : Int) = (c : Int))) = true) := by rw [e]; simp
      have ih := elim_eq hk hs hc hN n m (r + 1) R L (by omega) (by omega) hR hL
      rw [if_pos e]
      refine ⟨?_, ?_⟩
      · rw [if_neg ec, Option.bind_some, if_neg (by simp), chk, if_pos hin, hr1]
        exact ih.1
      · rw [if_neg ec, chk, if_pos hin, hr1]
        exact ih.2
    · have ec : (!decide ((r : Int) = (c : Int))) = true := by simp; omega
      have f256 := hR.en_lt hr c
      have lR := hR.1
      have lL := hL.1
      have lrR : r < R.length := by omega
      have lcR : c < R.length := by omega
      have lrL : r < L.length := by omega
      have lcL : c < L.length := by omega
      have k1 : inR (((rw_ R c).length : Int) + 1) := by rw [(hR.2 c hc).1]; exact len_in (by omega)
      have k2 : inR (((rw_ L c).length : Int) + 1) := by rw [(hL.2 c hc).1]; exact len_in hs
      have z1 : (rw_ R c).length < N := by rw [(hR.2 c hc).1]; omega
      have z2 : (rw_ L c).length < N := by rw [(hL.2 c hc).1]; omega
      have a1 := (add_eq (N := N) (mulP N f256) (hR.2 c hc).2 (hR.2 r hr).2 (by rw [(hR.2 r hr).1, (hR.2 c hc).1]) k1 z1).1
      have a2 := (add_eq (N := N) (mulP N f256) (hL.2 c hc).2 (hL.2 r hr).2 (by rw [(hL.2 r hr).1, (hL.2 c hc).1]) k2 z2).1
      have b1 := (add_eq (N := N) (mulR (N := N) (by omega) f256) (hR.2 c hc).2 (hR.2 r hr).2 (by rw [(hR.2 r hr).1, (hR.2 c hc).1]) k1 z1).2
      have b2 := (add_eq (N := N) (mulR (N := N) (by omega) f256) (hL.2 c hc).2 (hL.2 r hr).2 (by rw [(hL.2 r hr).1, (hL.2 c hc).1]) k2 z2).2
      have ih := elim_eq hk hs hc hN n m (r + 1) (R.set r (axpy (en R r c) (rw_ R c) (rw_ R r))) (L.set r (axpy (en R r c) (rw_ L c) (rw_ L r))) (by omega) (by omega)
        (hR.set hr (hR.axpy_ok hr hc).1 (hR.axpy_ok hr hc).2) (hL.set hr (hL.axpy_ok hr hc).1 (hL.axpy_ok hr hc).2)
      rw [if_neg e]
      refine ⟨?_, ?_⟩
      · rw [if_pos ec, idx_um lrR, Option.bind_some, en_idx hR hr hc, Option.bind_some, Option.bind_some]
        by_cases h0 : en R r c = 0
        · have hz : ¬ ((!decide ((u (en R r c)).n = 0)) = true) := by rw [h0]; simp [u]
          rw [if_neg hz, chk, if_pos hin, hr1]
          rw [h0, axpy_zero (by rw [(hR.2 r hr).1, (hR.2 c hc).1]), axpy_zero (by rw [(hL.2 r hr).1, (hL.2 c hc).1]), set_same (by omega), set_same (by omega)] at ih ⊢
          exact ih.1
        · have hz : (!decide ((u (en R r c)).n = 0)) = true := by
            show (!decide (((en R r c : Nat) : Int) = 0)) = true
            simp; exact h0
          rw [if_pos hz, Option.bind_some, en_idx hR hr hc, Option.bind_some, idx_um lcR, Option.bind_some, a1, Option.bind_some, idx_um lrL, Option.bind_some, idx_um lcL, Option.bind_some, a2, Option.bind_some, chk, if_pos hin, hr1, Int.toNat_natCast, um_set, um_set]
          exact ih.1
      · rw [if_pos ec, idx_um lrR, Option.bind_some, en_idx hR hr hc, Option.bind_some, idx_um lcR, Option.bind_some, b1, Option.bind_some, idx_um lrL, Option.bind_some, idx_um lcL, Option.bind_some, b2, Option.bind_some, chk, if_pos hin, hr1, Int.toNat_natCast, um_set, um_set]
        exact ih.2

/-! The search for a pivot. -/
theorem solve1_eq (N : Nat) {l : Row} {c : Nat} (h : c < l.length) : check_field_solve_1 N (l.map u) (c : Int) = some (!decide (l.getD c 0 = 0)) := by
  unfold check_field_solve_1
  rw [idx_u h, Option.bind_some]
  have : decide ((u (l.getD c 0)).n = (⟨0⟩ : U8).n) = decide (l.getD c 0 = 0) := by
    show decide (((l.getD c 0 : Nat) : Int) = 0) = decide (l.getD c 0 = 0)
    rw [decide_eq_decide]; omega
  rw [this]
theorem cut_um {R : Mx} {c : Nat} (h : c ≤ R.length) : cut (um R) (c : Int) ((um R).length : Int) = some (um (R.drop c)) := by
  unfold cut
  rw [if_pos ⟨by omega, by rw [um_len]; omega, by omega⟩, Int.toNat_natCast, Int.toNat_natCast, List.take_length]
  simp [um, List.map_drop]
theorem ixf_l {N k c p : Nat} {R : Mx} (hR : Shape k k R) (hk : k ≤ 16) (hc : c < k) (hp : p < k) (hne : en R p c ≠ 0) (hz : ∀ q, c ≤ q → q < p → en R q c = 0) : ∀ (m i : Nat), c + i ≤ p → p < c + i + m →
    slices_IndexFunc_LLbyte_Lbyte_l1 N (um (R.drop c)) (fun x => check_field_solve_1 N x (c : Int)) m (i : Int) = some (.inr ((p - c : Nat) : Int))
  | 0, i, h1, h2 => by omega
  | m + 1, i, h1, h2 => by
    have hlen := hR.1
    have hi : i < (R.drop c).length := by simp; omega
    have hrow : rw_ (R.drop c) i = rw_ R (c + i) := by
      rw [rw_lt hi, rw_lt (show c + i < R.length by omega)]; simp
    have c1 : decide ((i : Int) < ((um (R.drop c)).length : Int)) = true := by rw [um_len]; simp only [decide_eq_true_eq]; omega
    rw [slices_IndexFunc_LLbyte_Lbyte_l1.eq_2, if_pos c1, idx_um hi, hrow, Option.bind_some, solve1_eq N (by rw [(hR.2 (c + i) (by omega)).1]; exact hc), Option.bind_some]
    by_cases e : c + i = p
    · have hb : (!decide ((rw_ R (c + i)).getD c 0 = 0)) = true := by
        rw [e]; simp only [Bool.not_eq_true', decide_eq_false_iff_not]; exact hne
      rw [if_pos hb, show (i : Int) = ((p - c : Nat) : Int) by omega]
    · have hb : ¬ ((!decide ((rw_ R (c + i)).getD c 0 = 0)) = true) := by
        simp only [Bool.not_eq_true', decide_eq_false_iff_not, Decidable.not_not]; exact hz (c + i) (by omega) (by omega)
      rw [if_neg hb, chk, if_pos (show inR ((i : Int) + 1) by unfold inR; omega)]
      exact ixf_l hR hk hc hp hne hz m (i + 1) (by omega) (by omega)
theorem ixf_eq {N k c p : Nat} {R : Mx} (hR : Shape k k R) (hk : k ≤ 16) (hc : c < k) (hcp : c ≤ p) (hp : p < k) (hne : en R p c ≠ 0) (hz : ∀ q, c ≤ q → q < p → en R q c = 0) (hN : 100 < N) :
    slices_IndexFunc_LLbyte_Lbyte N (um (R.drop c)) (fun x => check_field_solve_1 N x (c : Int)) = some ((p - c : Nat) : Int) := by
  unfold slices_IndexFunc_LLbyte_Lbyte
  have e : slices_IndexFunc_LLbyte_Lbyte_l1 N (um (R.drop c)) (fun x => check_field_solve_1 N x (c : Int)) N 0 = _ := ixf_l hR hk hc hp hne hz N 0 (by omega) (by omega)
  rw [e]; rfl
theorem findR_l {k c p : Nat} {R : Mx} (hR : Shape k k R) (hk : k ≤ 16) (hc : c < k) (hp : p < k) (hne : en R p c ≠ 0) (hz : ∀ q, c ≤ q → q < p → en R q c = 0) : ∀ (m i : Nat), c ≤ i → i ≤ p → p < i + m →
    findR (um R) (c : Int) m (i : Int) = some (p : Int)
  | 0, i, _, h1, h2 => by omega
  | m + 1, i, h0, h1, h2 => by
    have hlen := hR.1
    rw [findR, idx_um (show i < R.length by omega), Option.bind_some, en_idx hR (show i < k by omega) hc, Option.bind_some]
    by_cases e : i = p
    · subst e
      have hb : ¬ (decide ((u (en R i c)).n = 0) = true) := by simp only [decide_eq_true_eq]; show ¬ (((en R i c : Nat) : Int) = 0); omega
      rw [if_neg hb]
    · have h3 := hz i h0 (by omega)
      have hb : decide ((u (en R i c)).n = 0) = true := by simp only [decide_eq_true_eq]; show ((en R i c : Nat) : Int) = 0; omega
      rw [if_pos hb, chk, if_pos (show inR ((i : Int) + 1) by unfold inR; omega)]
      exact findR_l hR hk hc hp hne hz m (i + 1) (by omega) (by omega) (by omega)

/-- All columns. -/
theorem solve_l {N k s : Nat} (hk : k ≤ 16) (hs : s ≤ 70000) (hN : 70000 < N) : ∀ (n m c : Nat) (R L : Mx), n < m → c + n = k → Inv k s c R L →
    stepG N fieldT (k : Int) m (c : Int) (um R) (um L) = some (um (solveS k n c R L)) ∧ stepR N (k : Int) m (c : Int) (um R) (um L) = some (um (solveS k n c R L)) ∧ Shape k s (solveS k n c R L)
  | _, 0, _, _, _, h, _, _ => absurd h (Nat.not_lt_zero _)
  | 0, m + 1, c, R, L, _, h, hI => by
    have c1 : ¬ (decide ((c : Int) < (k : Int)) = true) := by simp; omega
    rw [stepG, stepR, if_neg c1, if_neg c1]
    exact ⟨rfl, rfl, hI.sL⟩
  | n + 1, m + 1, c, R, L, hm, h, hI => by
    have hc : c < k := by omega
    obtain ⟨p1, p2, p3, p4⟩ := step_pivot hI hc
    have hst := step_ok hI hc
    have hstart := step_start hI hc p1 p2 p3
    have ih := solve_l hk hs hN n m (c + 1) _ _ (by omega) (by omega) hst
    have c1 : decide ((c : Int) < (k : Int)) = true := by simp; omega
    rw [stepG, stepR, if_pos c1, if_pos c1]
    unfold solveS
    unfold stepS at ih ⊢
    simp only at ih ⊢
    generalize hp : findS R c (k - c) c = p at *
    have lR := hI.sR.1
    have lL := hI.sL.1
    have hR1 := hI.sR.swp p2 hc
    have hL1 := hI.sL.swp p2 hc
    have lR1 := hR1.1
    have lL1 := hL1.1
    have f256 := ginv_lt (en (swp R p c) c c)
    have e256 := hR1.en_lt hc c
    have k1 : inR (((rw_ (swp R p c) c).length : Int) + 1) := by rw [(hR1.2 c hc).1]; exact len_in (by omega)
    have k2 : inR (((rw_ (swp L p c) c).length : Int) + 1) := by rw [(hL1.2 c hc).1]; exact len_in hs
    have z1 : (rw_ (swp R p c) c).length < N := by rw [(hR1.2 c hc).1]; omega
    have z2 : (rw_ (swp L p c) c).length < N := by rw [(hL1.2 c hc).1]; omega
    have s1 := scale_eq (N := N) (mulP N f256) (hR1.2 c hc).2 k1 z1
    have s2 := scale_eq (N := N) (mulP N f256) (hL1.2 c hc).2 k2 z2
    have r1 := scale_eq (N := N) (mulR (N := N) (by omega) f256) (hR1.2 c hc).2 k1 z1
    have r2 := scale_eq (N := N) (mulR (N := N) (by omega) f256) (hL1.2 c hc).2 k2 z2
    have el := elim_eq (N := N) (k := k) (s := s) (c := c) hk hs hc hN k N 0 _ _ (by omega) (by omega) hstart.2.sR hstart.2.sL
    have ecq : (c : Int) + ((p - c : Nat) : Int) = (p : Int) := by omega
    have hc1 : ((c : Int) + 1) = ((c + 1 : Nat) : Int) := by omega
    have hin : inR ((c : Int) + 1) := by unfold inR; omega
    have hinp : inR (p : Int) := by unfold inR; omega
    have wR : c < (swp R p c).length := by omega
    have wL : c < (swp L p c).length := by omega
    have sw1 := swap_eq (R := R) (p := p) (c := c) (by omega) (by omega)
    have sw2 := swap_eq (R := L) (p := p) (c := c) (by omega) (by omega)
    refine ⟨?_, ?_, ih.2.2⟩
    · have ix := ixf_eq (N := N) hI.sR hk hc p1 p2 p3 p4 (by omega)
      have e1 : elimG N fieldT (c : Int) (k : Int) N 0 _ _ = _ := el.1
      rw [cut_um (by omega), Option.bind_some, ix, Option.bind_some, chk, ecq, if_pos hinp, sw1, Option.bind_some, sw2, Option.bind_some, idx_um wR, Option.bind_some, en_idx hR1 hc hc, Option.bind_some, inv_eq N e256 hstart.1, Option.bind_some, s1, Option.bind_some, idx_um wL, Option.bind_some, s2, Option.bind_some, Int.toNat_natCast, um_set, um_set, e1, Option.bind_some, chk, if_pos hin, hc1]
      exact ih.1
    · have hf : findR (um R) (c : Int) N (c : Int) = some (p : Int) := findR_l hI.sR hk hc p2 p3 p4 N c (by omega) p1 (by omega)
      have e1 : elimR N (c : Int) (k : Int) N 0 _ _ = _ := el.2
      rw [hf, Option.bind_some, sw1, Option.bind_some, sw2, Option.bind_some, idx_um wR, Option.bind_some, en_idx hR1 hc hc, Option.bind_some, rinv_eq (by omega) e256 hstart.1, Option.bind_some, r1, Option.bind_some, idx_um wL, Option.bind_some, r2, Option.bind_some, Int.toNat_natCast, um_set, um_set, e1, Option.bind_some, chk, if_pos hin, hc1]
      exact ih.2.1
end Go.Arm
namespace Go.Arm
open Go Go.RowKit Go.Gf

def wi (ws : List Nat) : List Int := List.map (fun w : Nat => (w : Int)) ws
theorem idx_wi {ws : List Nat} {i : Nat} (h : i < ws.length) : idx (wi ws) (i : Int) = some (ws[i] : Int) := by
  unfold wi
  rw [idx_n (by simpa using h), List.getElem_map]
theorem mx_ext {a b : Mx} (h : a.length = b.length) (k : ∀ r, r < a.length → rw_ a r = rw_ b r) : a = b := by
  apply List.ext_getElem h
  intro r h1 h2
  have := k r h1
  rw [rw_lt h1, rw_lt h2] at this
  exact this
theorem row_ext {k w : Nat} {l : Row} (h : l.length = k) (hj : ∀ j, j < k → l.getD j 0 = rowE k w j) : l = rowS k w :=
  ext_getD (by simp [rowS]; exact h) (fun j hjl => by rw [hj j (by omega), rowS_getD (by omega)])
theorem toNat_cast (k : Nat) : ((k : Int).toNat : Int) = (k : Int) := by rw [Int.toNat_natCast]
theorem rep_u (k : Nat) : List.replicate k (⟨0⟩ : U8) = (List.replicate k 0).map u := by rw [List.map_replicate]; rfl
theorem rep_getD (k j : Nat) : (List.replicate k 0).getD j 0 = 0 := by
  rw [List.getD_eq_getElem?_getD, List.getElem?_replicate]
  split <;> rfl

/-- What an element of a parity block's row is the inverse of. -/
theorem arg_eq {k w i : Nat} (hw : k ≤ w) (hw2 : w < k + 16) (hi : i < 16) : (⟨convK .u8 (xorK .i64 ((w : Int) - (k : Int)) (16 + (i : Int)))⟩ : U8) = u ((w - k) ^^^ (16 + i)) ∧ (w - k) ^^^ (16 + i) < 256 ∧ (w - k) ^^^ (16 + i) ≠ 0 := by
  have h1 : (w - k) ^^^ (16 + i) < 256 := xor_lt (by omega) (by omega)
  have e1 : ((w : Int) - (k : Int)) = ((w - k : Nat) : Int) := by omega
  have e2 : (16 + (i : Int)) = ((16 + i : Nat) : Int) := by omega
  refine ⟨?_, h1, fun h => ?_⟩
  · rw [e1, e2, xorK_i64 (by omega) (by omega), conv_u8 h1]; rfl
  · have := xor_eq_zero h; omega
theorem rowP_l {N k w : Nat} (hk : k ≤ 16) (hw : k ≤ w) (hw2 : w < k + 16) : ∀ (n i : Nat) (l : Row), l.length = k → k < i + n → i ≤ k → (∀ j, j < k → l.getD j 0 = if j < i then rowE k w j else 0) →
    check_field_row_l1 N fieldT (w : Int) (k : Int) n (i : Int) (l.map u) = some ((rowS k w).map u)
  | 0, i, l, _, h1, h2, _ => by omega
  | n + 1, i, l, hl, h1, h2, hj => by
    rw [check_field_row_l1.eq_2]
    by_cases hi : i < k
    · have c1 : decide ((i : Int) < ((((k : Int)).toNat : Nat) : Int)) = true := by rw [toNat_cast]; simp; exact hi
      obtain ⟨ea, a1, a2⟩ := arg_eq hw hw2 (show i < 16 by omega)
      rw [if_pos c1, chk, if_pos (show inR ((w : Int) - (k : Int)) by unfold inR; omega), chk, if_pos (show inR (16 + (i : Int)) by unfold inR; omega), ea, inv_eq N a1 a2, Option.bind_some, idx_u (by omega), Option.bind_some, chk, if_pos (show inR ((i : Int) + 1) by unfold inR; omega), Int.toNat_natCast, u_set]
      refine rowP_l hk hw hw2 n (i + 1) _ (by simpa using hl) (by omega) (by omega) (fun j hjk => ?_)
      rw [getD_set (by omega)]
      by_cases e : j = i
      · subst e; rw [if_pos rfl, if_pos (by omega)]; unfold rowE; rw [if_neg (by omega)]
      · rw [if_neg e, hj j hjk]
        by_cases e2 : j < i
        · rw [if_pos e2, if_pos (by omega)]
        · rw [if_neg e2, if_neg (by omega)]
    · have c1 : ¬ (decide ((i : Int) < ((((k : Int)).toNat : Nat) : Int)) = true) := by rw [toNat_cast]; simp; omega
      rw [if_neg c1, row_ext hl (fun j hjk => by rw [hj j hjk, if_pos (by omega)])]
theorem row_unit {k w : Nat} (hw : w < k) : ((List.replicate k 0).set w 1) = rowS k w :=
  row_ext (by simp) (fun j hj => by
    rw [getD_set (by simpa using hw), rep_getD]
    unfold rowE
    rw [if_pos hw]
    by_cases e : j = w
    · subst e; simp
    · rw [if_neg e, if_neg (fun h => e h.symm)])
theorem rowP_eq {N k w : Nat} (hk : k ≤ 16) (hw : w < k + 16) (hN : 100 < N) : check_field_row N fieldT (w : Int) (k : Int) = some ((rowS k w).map u) := by
  unfold check_field_row
  rw [chk, if_pos ⟨by omega, by omega, by omega⟩, Int.toNat_natCast, rep_u]
  by_cases h : w < k
  · rw [if_pos (by simp; exact h), idx_u (by simpa using h), Option.bind_some, Int.toNat_natCast]
    rw [show (⟨1⟩ : U8) = u 1 from rfl, u_set, row_unit h]
  · rw [if_neg (by simp; omega)]
    have e : check_field_row_l1 N fieldT (w : Int) (k : Int) N 0 _ = _ := rowP_l (N := N) hk (by omega) hw N 0 (List.replicate k 0) (by simp) (by omega) (by omega) (fun j _ => by rw [rep_getD, if_neg (by omega)])
    rw [e]; rfl
theorem rowR_l {N k w : Nat} (hN : 300 < N) (hk : k ≤ 16) (hw2 : w < k + 16) : ∀ (n i : Nat) (l : Row), l.length = k → k < i + n → i ≤ k → (∀ j, j < k → l.getD j 0 = if j < i ∧ k ≤ w then rowE k w j else 0) →
    ref14_weights_l1 N (w : Int) (k : Int) n (i : Int) (l.map u) = some ((if k ≤ w then rowS k w else List.replicate k 0).map u)
  | 0, i, l, _, h1, h2, _ => by omega
  | n + 1, i, l, hl, h1, h2, hj => by
    rw [ref14_weights_l1.eq_2]
    by_cases hi : i < k
    · have c1 : decide ((i : Int) < (k : Int)) = true := by simp; exact hi
      rw [if_pos c1]
      by_cases hw : k ≤ w
      · obtain ⟨ea, a1, a2⟩ := arg_eq hw hw2 (show i < 16 by omega)
        rw [if_pos (by simp; exact hw), chk, if_pos (show inR ((w : Int) - (k : Int)) by unfold inR; omega)]
        unfold ref14_factor
        rw [chk, if_pos (show inR (16 + (i : Int)) by unfold inR; omega), ea, rinv_eq hN a1 a2, Option.bind_some, Option.bind_some, idx_u (by omega), Option.bind_some, chk, if_pos (show inR ((i : Int) + 1) by unfold inR; omega), Int.toNat_natCast, u_set]
        refine rowR_l hN hk hw2 n (i + 1) _ (by simpa using hl) (by omega) (by omega) (fun j hjk => ?_)
        rw [getD_set (by omega)]
        by_cases e : j = i
        · subst e; rw [if_pos rfl, if_pos ⟨by omega, hw⟩]; unfold rowE; rw [if_neg (by omega)]
        · rw [if_neg e, hj j hjk]
          by_cases e2 : j < i
          · rw [if_pos ⟨e2, hw⟩, if_pos ⟨by omega, hw⟩]
          · rw [if_neg (by omega), if_neg (by omega)]
      · rw [if_neg (by simp; omega), chk, if_pos (show inR ((i : Int) + 1) by unfold inR; omega)]
        exact rowR_l hN hk hw2 n (i + 1) l hl (by omega) (by omega) (fun j hjk => by rw [hj j hjk, if_neg (by omega), if_neg (by omega)])
    · have c1 : ¬ (decide ((i : Int) < (k : Int)) = true) := by simp; omega
      rw [if_neg c1]
      by_cases hw : k ≤ w
      · rw [if_pos hw, row_ext hl (fun j hjk => by rw [hj j hjk, if_pos ⟨by omega, hw⟩])]
      · rw [if_neg hw, show l = List.replicate k 0 from ext_getD (by simpa using hl) (fun j hjk => by rw [hj j (by omega), if_neg (by omega), rep_getD])]
theorem rowR_eq {N k w : Nat} (hk : k ≤ 16) (hw : w < k + 16) (hN : 300 < N) : ref14_weights N (w : Int) (k : Int) = some ((rowS k w).map u) := by
  unfold ref14_weights
  have e : ref14_weights_l1 N (w : Int) (k : Int) N 0 _ = _ := rowR_l (N := N) hN hk hw N 0 (List.replicate k 0) (by simp) (by omega) (by omega) (fun j _ => by rw [rep_getD, if_neg (by omega)])
  rw [chk, if_pos ⟨by omega, by omega, by omega⟩, Int.toNat_natCast, rep_u, e, Option.bind_some]
  by_cases h : w < k
  · rw [if_pos (by simp; exact h), if_neg (by omega), idx_u (by simpa using h), Option.bind_some, Int.toNat_natCast, show (⟨1⟩ : U8) = u 1 from rfl, u_set, row_unit h]
  · rw [if_neg (by simp; omega), if_pos (by omega)]

theorem maxLen_big : 100000 ≤ maxLen := by decide
theorem clone_eq (N : Nat) {d : List U8} (h : d.length ≤ 70000) : slices_Clone_Lbyte_byte N d = some d := by
  unfold slices_Clone_Lbyte_byte
  have := maxLen_big
  rw [chk, if_pos ⟨by simp; omega, by simp; omega⟩, List.nil_append]
theorem initP_l {N k s : Nat} {ws : List Nat} {K : Mx} (hk : k ≤ 16) (hs : s ≤ 70000) (hl : ws.length = k) (hb : ∀ w, w ∈ ws → w < k + 16) (hK : Shape k s K) (hN : 100 < N) : ∀ (n i : Nat) (R L : Mx), k < i + n → i ≤ k → R.length = k → L.length = k →
    (∀ r, r < i → rw_ R r = rw_ (matS k ws) r) → (∀ r, r < i → rw_ L r = rw_ K r) → initG N fieldT (wi ws) (um K) (k : Int) n (i : Int) (um R) (um L) = some (um (matS k ws), um K)
  | 0, i, R, L, h1, h2, _, _, _, _ => by omega
  | n + 1, i, R, L, h1, h2, lR, lL, hR, hL => by
    rw [initG]
    by_cases hi : i < k
    · have c1 : decide ((i : Int) < ((wi ws).length : Int)) = true := by simp [wi]; omega
      have hiw : i < ws.length := by omega
      have hiK : i < K.length := by rw [hK.1]; exact hi
      rw [if_pos c1, idx_wi hiw, Option.bind_some, rowP_eq hk (hb _ (List.getElem_mem hiw)) hN, Option.bind_some, idx_um hiK, Option.bind_some, clone_eq N (by rw [List.length_map, (hK.2 i hi).1]; exact hs), Option.bind_some,
        idx_um (show i < R.length by omega), Option.bind_some, idx_um (show i < L.length by omega), Option.bind_some, chk, if_pos (show inR ((i : Int) + 1) by unfold inR; omega), Int.toNat_natCast, um_set, um_set]
      refine initP_l hk hs hl hb hK hN n (i + 1) _ _ (by omega) (by omega) (by simpa using lR) (by simpa using lL) (fun r hr => ?_) (fun r hr => ?_)
      · rw [rw_set (by omega)]
        by_cases e : r = i
        · subst e; rw [if_pos rfl, rw_map hiw]
        · rw [if_neg e]; exact hR r (by omega)
      · rw [rw_set (by omega)]
        by_cases e : r = i
        · rw [if_pos e, e]
        · rw [if_neg e]; exact hL r (by omega)
    · have c1 : ¬ (decide ((i : Int) < ((wi ws).length : Int)) = true) := by simp [wi]; omega
      rw [if_neg c1, mx_ext (a := R) (b := matS k ws) (by rw [lR]; simp [matS, hl]) (fun r hr => hR r (by omega)), mx_ext (a := L) (b := K) (by rw [lL, hK.1]) (fun r hr => hL r (by omega))]
theorem um_snoc (R : Mx) (x : Row) : um R ++ [x.map u] = um (R ++ [x]) := by simp [um]
theorem take_snoc {R : Mx} {i : Nat} (h : i < R.length) : R.take i ++ [rw_ R i] = R.take (i + 1) := by rw [rw_lt h, List.take_succ_eq_append_getElem h]
theorem initR_l {N k s : Nat} {ws : List Nat} {K : Mx} (hk : k ≤ 16) (hs : s ≤ 70000) (hl : ws.length = k) (hb : ∀ w, w ∈ ws → w < k + 16) (hK : Shape k s K) (hN : 300 < N) : ∀ (n i : Nat), k < i + n → i ≤ k →
    initR N (wi ws) (um K) (k : Int) n (i : Int) (um ((matS k ws).take i)) (um (K.take i)) = some (um (matS k ws), um K)
  | 0, i, h1, h2 => by omega
  | n + 1, i, h1, h2 => by
    have lM : (matS k ws).length = k := by simp [matS, hl]
    have lK := hK.1
    have hmax := maxLen_big
    rw [initR]
    by_cases hi : i < k
    · have c1 : decide ((i : Int) < (k : Int)) = true := by simp; exact hi
      have hiw : i < ws.length := by omega
      have hiK : i < K.length := by omega
      have t1 : (um ((matS k ws).take i)).length = i := by rw [um_len, List.length_take]; omega
      have t2 : (um (K.take i)).length = i := by rw [um_len, List.length_take]; omega
      rw [if_pos c1, idx_wi hiw, Option.bind_some, rowR_eq hk (hb _ (List.getElem_mem hiw)) hN, Option.bind_some, chk, if_pos ⟨by omega, by omega⟩, idx_um hiK, Option.bind_some, chk, if_pos ⟨by simp only [List.length_nil, List.length_map, (hK.2 i hi).1]; omega, by simp only [List.length_nil, List.length_map, (hK.2 i hi).1]; omega⟩,
        chk, if_pos ⟨by omega, by omega⟩, chk, if_pos (show inR ((i : Int) + 1) by unfold inR; omega), um_snoc, um_snoc]
      have e1 : (matS k ws).take i ++ [rowS k ws[i]] = (matS k ws).take (i + 1) := by rw [← rw_map hiw, take_snoc (by omega)]
      rw [e1, take_snoc hiK]
      exact initR_l hk hs hl hb hK hN n (i + 1) (by omega) (by omega)
    · have c1 : ¬ (decide ((i : Int) < (k : Int)) = true) := by simp; omega
      rw [if_neg c1, List.take_of_length_le (by omega), List.take_of_length_le (by omega)]

/-- The data blocks, from k blocks of a codeword. -/
noncomputable def dataS (k : Nat) (ws : List Nat) (K : Mx) : Mx := solveS k k 0 (matS k ws) K
theorem solve_eq {N k s : Nat} {ws : List Nat} {K : Mx} (hk0 : 1 ≤ k) (hk : k ≤ 16) (hs : s ≤ 70000) (hl : ws.length = k) (nd : ws.Nodup) (hb : ∀ w, w ∈ ws → w < k + 16) (hK : Shape k s K) (hN : 70000 < N) :
    check_field_solve N fieldT (wi ws) (um K) = some (um (dataS k ws K)) ∧ ref14_solved N (wi ws) (um K) = some (um (dataS k ws K)) ∧ Shape k s (dataS k ws K) := by
  have hI : Inv k s 0 (matS k ws) K := ⟨shape_mat hl, hK, ker_init hk hl nd hb, fun r _ j hj => by omega⟩
  obtain ⟨h1, h2, h3⟩ := solve_l (N := N) hk hs hN k N 0 _ _ (by omega) (by omega) hI
  have lw : (wi ws).length = k := by simp [wi, hl]
  have lK : (um K).length = k := by rw [um_len]; exact hK.1
  have i1 : initG N fieldT (wi ws) (um K) (k : Int) N 0 _ _ = _ := initP_l (N := N) hk hs hl hb hK (by omega) N 0 (List.replicate k []) (List.replicate k []) (by omega) (by omega) (by simp) (by simp) (fun r hr => by omega) (fun r hr => by omega)
  have i2 : initR N (wi ws) (um K) (k : Int) N 0 _ _ = _ := initR_l (N := N) hk hs hl hb hK (by omega) N 0 (by omega) (by omega)
  have e0 : List.replicate k ([] : List U8) = um (List.replicate k []) := by simp [um]
  refine ⟨?_, ?_, h3⟩
  · unfold check_field_solve
    rw [lw, chk, if_pos ⟨by omega, by omega, by omega⟩, Int.toNat_natCast, e0, i1, Option.bind_some]
    exact h1
  · unfold ref14_solved
    rw [lK]
    have e1 : initR N (wi ws) (um K) (k : Int) N 0 [] [] = some (um (matS k ws), um K) := i2
    rw [e1, Option.bind_some]
    exact h2
end Go.Arm
namespace Go.Arm
open Go Go.RowKit Go.Gf

/-- The sum of blocks, each multiplied. -/
noncomputable def comb (D : Mx) (row : Row) : Nat → Nat → Row → Row
  | 0, _, o => o
  | n + 1, i, o => comb D row n (i + 1) (axpy (row.getD i 0) (rw_ D i) o)
theorem mulL {N : Nat} (hN : 10 < N) {f : Nat} (hf : f < 256) {y : Nat} (hy : y < 256) : ref14_times N (u f) (u y) = some (u (gm y f)) := by
  rw [times_eq hN hf hy, gm_comm]
theorem comb2_l {N f i k s : Nat} {row : Row} {D : Mx} {y1 : List U8} {t0 : Row} (hN : 10 < N) (hi : i < k) (hrow : row.length = k) (hfe : row.getD i 0 = f) (hf : f < 256) (hD : Shape k s D) (hy : y1.length = s) (hs : s ≤ 70000) (ht : ∀ x, x ∈ t0 → x < 256) (h0 : t0.length = s) : ∀ (n j : Nat) (t : Row), t.length = s → s < j + n → j ≤ s →
    (∀ q, q < s → t.getD q 0 = if q < j then t0.getD q 0 ^^^ gm ((rw_ D i).getD q 0) f else t0.getD q 0) → ref14_combined_l2 N (row.map u) (um D) y1 (i : Int) n (j : Int) (t.map u) = some ((axpy f (rw_ D i) t0).map u)
  | 0, j, t, _, h1, h2, _ => by omega
  | n + 1, j, t, htl, h1, h2, hj => by
    have hl := hD.2 i hi
    rw [ref14_combined_l2.eq_2, hy]
    by_cases hjs : j < s
    · have c1 : decide ((j : Int) < ((((s : Nat) : Int).toNat : Nat) : Int)) = true := by rw [toNat_cast]; simp; exact hjs
      have hxj : t.getD j 0 = t0.getD j 0 := by rw [hj j hjs, if_neg (Nat.lt_irrefl j)]
      have ex : (⟨xorK .u8 (u (t0.getD j 0)).n (u (gm ((rw_ D i).getD j 0) f)).n⟩ : U8) = u (t0.getD j 0 ^^^ gm ((rw_ D i).getD j 0) f) := by
        rw [u_n, u_n, xorK_u8 (getD_lt ht j) (gm_lt _ _)]; rfl
      rw [if_pos c1, idx_u (by omega), Option.bind_some, idx_u (by omega), Option.bind_some, idx_um (by rw [hD.1]; exact hi), Option.bind_some, idx_u (by rw [hl.1]; exact hjs), Option.bind_some, hfe, mulL hN hf (getD_lt hl.2 j), Option.bind_some, Option.bind_some,
        chk, if_pos (show inR ((j : Int) + 1) by unfold inR; omega), Int.toNat_natCast, hxj, ex, u_set]
      refine comb2_l hN hi hrow hfe hf hD hy hs ht h0 n (j + 1) _ (by simpa using htl) (by omega) (by omega) (fun q hq => ?_)
      rw [getD_set (by omega)]
      by_cases e : q = j
      · subst e; rw [if_pos rfl, if_pos (by omega)]
      · rw [if_neg e, hj q hq]
        by_cases e2 : q < j
        · rw [if_pos e2, if_pos (by omega)]
        · rw [if_neg e2, if_neg (by omega)]
    · have c1 : ¬ (decide ((j : Int) < ((((s : Nat) : Int).toNat : Nat) : Int)) = true) := by rw [toNat_cast]; simp; omega
      have he : t0.length = (rw_ D i).length := by rw [hl.1, h0]
      rw [if_neg c1, show t = axpy f (rw_ D i) t0 from ext_getD (by rw [axpy_len he, htl, h0]) (fun q hq => by rw [hj q (by omega), if_pos (by omega), axpy_getD he])]
theorem comb_l {N k s : Nat} {row : Row} {D : Mx} {y1 : List U8} (hN : 70000 < N) (hk : k ≤ 16) (hrow : row.length = k) (hr : ∀ x, x ∈ row → x < 256) (hD : Shape k s D) (hy : y1.length = s) (hs : s ≤ 70000) : ∀ (n m i : Nat) (o : Row), n < m → i + n = k → o.length = s → (∀ x, x ∈ o → x < 256) →
    (blockL N fieldT (um D) (row.map u) m (i : Int) (o.map u) = some ((comb D row n i o).map u) ∧ ref14_combined_l1 N (row.map u) (um D) y1 m (i : Int) (o.map u) = some ((comb D row n i o).map u)) ∧ (comb D row n i o).length = s ∧ ∀ x, x ∈ comb D row n i o → x < 256
  | _, 0, _, _, h, _, _, _ => absurd h (Nat.not_lt_zero _)
  | 0, m + 1, i, o, _, h, ho, hx => by
    have c1 : ¬ (decide ((i : Int) < ((row.map u).length : Int)) = true) := by simp; omega
    rw [blockL, ref14_combined_l1.eq_2, if_neg c1, if_neg c1]
    exact ⟨⟨rfl, rfl⟩, ho, hx⟩
  | n + 1, m + 1, i, o, hm, h, ho, hx => by
    have hi : i < k := by omega
    have hl := hD.2 i hi
    have c1 : decide ((i : Int) < ((row.map u).length : Int)) = true := by simp; omega
    have he : o.length = (rw_ D i).length := by rw [hl.1, ho]
    have hf : row.getD i 0 < 256 := getD_lt hr i
    have hin : inR ((i : Int) + 1) := by unfold inR; omega
    have a1 := (add_eq (N := N) (mulP N hf) (l := rw_ D i) (t := o) hl.2 hx he (by rw [hl.1]; exact len_in hs) (by rw [hl.1]; omega)).1
    have a2 : ref14_combined_l2 N (row.map u) (um D) y1 (i : Int) N 0 (o.map u) = _ := comb2_l (N := N) (by omega) hi hrow rfl hf hD hy hs hx ho N 0 o ho (by omega) (by omega) (fun q _ => by rw [if_neg (by omega)])
    obtain ⟨⟨b1, b2⟩, b3⟩ := comb_l hN hk hrow hr hD hy hs n m (i + 1) (axpy (row.getD i 0) (rw_ D i) o) (by omega) (by omega) (by rw [axpy_len he]; exact ho) (axpy_lt _ _ _ hx)
    refine ⟨⟨?_, ?_⟩, b3⟩
    · rw [blockL, if_pos c1, idx_u (by omega), Option.bind_some, idx_um (by rw [hD.1]; exact hi), Option.bind_some, a1, Option.bind_some, chk, if_pos hin]
      exact b1
    · rw [ref14_combined_l1.eq_2, if_pos c1, a2, Option.bind_some]
      dsimp only
      rw [chk, if_pos hin]
      exact b2
/-- A block of the codeword, from the data blocks. -/
noncomputable def blk (k s : Nat) (D : Mx) (w : Nat) : Row := comb D (rowS k w) k 0 (List.replicate s 0)
theorem rowS_lt (k w : Nat) : ∀ x, x ∈ rowS k w → x < 256 := by
  intro x hx
  obtain ⟨j, _, rfl⟩ := List.mem_map.1 hx
  exact rowE_lt k w j
theorem block_eq {N k s w : Nat} {D : Mx} (hN : 70000 < N) (hk0 : 1 ≤ k) (hk : k ≤ 16) (hs : s ≤ 70000) (hD : Shape k s D) (hw : w < k + 16) :
    check_field_block N fieldT (w : Int) (um D) = some ((blk k s D w).map u) ∧ ref14_weights N (w : Int) (k : Int) = some ((rowS k w).map u) ∧ ref14_combined N ((rowS k w).map u) (um D) = some ((blk k s D w).map u) := by
  have h0 : 0 < D.length := by rw [hD.1]; omega
  have d0 : idx (um D) 0 = some ((rw_ D 0).map u) := idx_um (r := 0) h0
  have l0 : (((rw_ D 0).map u).length) = s := by rw [List.length_map]; exact (hD.2 0 (by omega)).1
  have lD : (um D).length = k := by rw [um_len]; exact hD.1
  have lr : (rowS k w).length = k := by simp [rowS]
  obtain ⟨⟨b1, b2⟩, _⟩ := comb_l (y1 := (rw_ D 0).map u) hN hk lr (rowS_lt k w) hD l0 hs k N 0 (List.replicate s 0) (by omega) (by omega) (by simp) (by intro x hx; rw [List.eq_of_mem_replicate hx]; decide)
  have b1' : blockL N fieldT (um D) ((rowS k w).map u) N 0 ((List.replicate s 0).map u) = _ := b1
  have b2' : ref14_combined_l1 N ((rowS k w).map u) (um D) ((rw_ D 0).map u) N 0 ((List.replicate s 0).map u) = _ := b2
  refine ⟨?_, rowR_eq hk hw (by omega), ?_⟩
  · unfold check_field_block
    rw [d0, Option.bind_some, l0, chk, if_pos ⟨by omega, by omega, by omega⟩, lD, rowP_eq hk hw (by omega), Option.bind_some, Int.toNat_natCast, rep_u, b1']
    rfl
  · unfold ref14_combined
    rw [d0, Option.bind_some, l0, chk, if_pos ⟨by omega, by omega, by omega⟩, Int.toNat_natCast, rep_u, b2']
    rfl

/-- Whether a block is there. -/
def isT (t : List Bool) (i : Nat) : Bool := t.getD i false
theorem idx_t {t : List Bool} {i : Nat} (h : i < t.length) : idx t (i : Int) = some (isT t i) := by
  rw [idx_n h]; unfold isT; rw [List.getD_eq_getElem?_getD, List.getElem?_eq_getElem h]; rfl
def pk (t : List Bool) (i : Nat) : List Nat := (List.range i).filter (isT t)
def sel (B : Mx) (W : List Nat) : Mx := W.map (rw_ B)
theorem pk_pos {t : List Bool} {i : Nat} (h : isT t i = true) : pk t (i + 1) = pk t i ++ [i] := by
  unfold pk; rw [List.range_succ, List.filter_append]; simp [h]
theorem pk_neg {t : List Bool} {i : Nat} (h : ¬ isT t i = true) : pk t (i + 1) = pk t i := by
  unfold pk; rw [List.range_succ, List.filter_append]; simp [h]
theorem pk_len (t : List Bool) (i : Nat) : (pk t i).length ≤ i := by
  unfold pk; have := List.length_filter_le (isT t) (List.range i); simpa using this
theorem pk_lt {t : List Bool} {i w : Nat} (h : w ∈ pk t i) : w < i := List.mem_range.1 (List.mem_filter.1 h).1
theorem pk_nodup (t : List Bool) (i : Nat) : (pk t i).Nodup := List.Pairwise.filter _ List.nodup_range
theorem wi_len (W : List Nat) : (wi W).length = W.length := by simp [wi]
theorem wi_snoc (W : List Nat) (i : Nat) : wi W ++ [(i : Int)] = wi (W ++ [i]) := by simp [wi]
theorem sel_snoc (B : Mx) (W : List Nat) (i : Nat) : sel B W ++ [rw_ B i] = sel B (W ++ [i]) := by simp [sel]
theorem sel_len (B : Mx) (W : List Nat) : (sel B W).length = W.length := by simp [sel]
theorem rl1_eq {N : Nat} {B : Mx} {t : List Bool} (ht : t.length = B.length) (hB : B.length ≤ 70000) : ∀ (n i : Nat), B.length < i + n → i ≤ B.length →
    check_Repair_l1 N (um B) t n (wi (pk t i)) (um (sel B (pk t i))) (i : Int) = some (wi (pk t B.length), um (sel B (pk t B.length)))
    ∧ ref14_Repair_l1 N (um B) t n (wi (pk t i)) (um (sel B (pk t i))) (i : Int) = some (wi (pk t B.length), um (sel B (pk t B.length)))
  | 0, i, h1, h2 => by omega
  | n + 1, i, h1, h2 => by
    have hmax := maxLen_big
    rw [check_Repair_l1.eq_2, ref14_Repair_l1.eq_2]
    by_cases hi : i < B.length
    · have c1 : decide ((i : Int) < ((um B).length : Int)) = true := by rw [um_len]; simp; exact hi
      have hin : inR ((i : Int) + 1) := by unfold inR; omega
      have hpl := pk_len t i
      obtain ⟨ih1, ih2⟩ := rl1_eq (N := N) ht hB n (i + 1) (by omega) (by omega)
      rw [if_pos c1, if_pos c1, idx_um hi, Option.bind_some, idx_t (by omega), Option.bind_some, Option.bind_some]
      by_cases hp : isT t i = true
      · have k1 : ((wi (pk t i)).length + ([(i : Int)] : List Int).length) * 8 ≤ 140737488355328 ∧ (wi (pk t i)).length + ([(i : Int)] : List Int).length ≤ maxLen := by
          rw [wi_len]; exact ⟨by simp only [List.length_singleton]; omega, by simp only [List.length_singleton]; omega⟩
        have k2 : ((um (sel B (pk t i))).length + ([(rw_ B i).map u] : List (List U8)).length) * 24 ≤ 140737488355328 ∧ (um (sel B (pk t i))).length + ([(rw_ B i).map u] : List (List U8)).length ≤ maxLen := by
          rw [um_len, sel_len]; exact ⟨by simp only [List.length_singleton]; omega, by simp only [List.length_singleton]; omega⟩
        rw [pk_pos hp] at ih1 ih2
        rw [if_pos hp, if_pos hp, Option.bind_some, chk, if_pos k1, chk, if_pos k2, chk, if_pos hin, chk, if_pos k1, chk, if_pos k2, chk, if_pos hin, wi_snoc, um_snoc, sel_snoc]
        exact ⟨ih1, ih2⟩
      · rw [pk_neg hp] at ih1 ih2
        rw [if_neg hp, if_neg hp, chk, if_pos hin, chk, if_pos hin]
        exact ⟨ih1, ih2⟩
    · have c1 : ¬ (decide ((i : Int) < ((um B).length : Int)) = true) := by rw [um_len]; simp; omega
      have : i = B.length := by omega
      rw [if_neg c1, if_neg c1, this]
      exact ⟨rfl, rfl⟩

end Go.Arm
namespace Go.Arm
open Go Go.RowKit Go.Gf

/-- Blocks of bytes that one law looks at. -/
structure Okb (B : Mx) : Prop where
  len : B.length ≤ 40
  row : ∀ i, i < B.length → ∀ x, x ∈ rw_ B i → x < 256
/-- What Repair returns: an error, or the blocks, all of one length. -/
def Good (k : Int) (r : List (List U8) × Int) : Prop :=
  (r.2 ≠ 0 ∧ r.1 = []) ∨ (r.2 = 0 ∧ ∃ (M : Mx) (kn s : Nat), k = kn ∧ r.1 = um M ∧ 1 ≤ kn ∧ kn ≤ 16 ∧ kn ≤ M.length ∧ M.length ≤ 40 ∧ s ≤ 65536 ∧ Shape M.length s M)
theorem bad {k e : Int} (h : e ≠ 0) : Good k ([], e) := .inl ⟨h, rfl⟩
theorem blk_ok {k s w : Nat} {D : Mx} (hk : k ≤ 16) (hs : s ≤ 70000) (hD : Shape k s D) (hk0 : 1 ≤ k) : (blk k s D w).length = s ∧ ∀ x, x ∈ blk k s D w → x < 256 := by
  have l0 : (((rw_ D 0).map u).length) = s := by rw [List.length_map]; exact (hD.2 0 (by omega)).1
  have lr : (rowS k w).length = k := by simp [rowS]
  exact (comb_l (N := 70001) (y1 := (rw_ D 0).map u) (by omega) hk lr (rowS_lt k w) hD l0 hs k 70001 0 (List.replicate s 0) (by omega) (by omega) (by simp) (by intro x hx; rw [List.eq_of_mem_replicate hx]; decide)).2
theorem blks_ok {k s n : Nat} {D : Mx} (hk : k ≤ 16) (hs : s ≤ 70000) (hD : Shape k s D) (hk0 : 1 ≤ k) : Shape n s ((List.range n).map (blk k s D)) :=
  ⟨by simp, fun r hr => by rw [rw_lt (by simpa using hr), List.getElem_map]; exact blk_ok hk hs hD hk0⟩
theorem range_snoc {β : Type} (f : Nat → β) (i : Nat) : (List.range i).map f ++ [f i] = (List.range (i + 1)).map f := by rw [List.range_succ, List.map_append]; rfl
theorem rng (k : Int) (L : Nat) (_hL : L ≤ 70000) : (if decide (k < 1) then
  (some (true))
  else
  (if decide (16 < k) then
  (some (true))
  else
  (if decide ((L : Int) < k) then
  (some (true))
  else
  (chk (inR (k + 16)) <|
  some (decide ((k + 16) < (L : Int))))))) = some (decide (k < 1 ∨ 16 < k ∨ (L : Int) < k ∨ k + 16 < (L : Int))) := by
  by_cases h1 : k < 1
  · rw [if_pos (decide_eq_true h1), decide_eq_true (.inl h1)]
  · rw [if_neg (by simpa using h1)]
    by_cases h2 : 16 < k
    · rw [if_pos (decide_eq_true h2), decide_eq_true (.inr (.inl h2))]
    · rw [if_neg (by simpa using h2)]
      by_cases h3 : (L : Int) < k
      · rw [if_pos (decide_eq_true h3), decide_eq_true (.inr (.inr (.inl h3)))]
      · rw [if_neg (by simpa using h3), chk, if_pos (show inR (k + 16) by unfold inR; omega)]
        congr 1
        simp [h1, h2, h3]
theorem cut_wi {W : List Nat} {k : Nat} (h : k ≤ W.length) : cut (wi W) 0 (k : Int) = some (wi (W.take k)) := by
  unfold cut
  rw [if_pos ⟨by omega, by omega, by rw [wi_len]; omega⟩]
  simp [wi, List.map_take]
theorem cut_um0 {X : Mx} {k : Nat} (h : k ≤ X.length) : cut (um X) 0 (k : Int) = some (um (X.take k)) := by
  unfold cut
  rw [if_pos ⟨by omega, by omega, by rw [um_len]; omega⟩]
  simp [um, List.map_take]
theorem rw_take {X : Mx} {k r : Nat} (h : r < k) (hk : k ≤ X.length) : rw_ (X.take k) r = rw_ X r := by
  rw [rw_lt (by simp; omega), rw_lt (by omega)]; simp
theorem rw_sel {B : Mx} {W : List Nat} {r : Nat} (h : r < W.length) : rw_ (sel B W) r = rw_ B W[r] := by
  rw [rw_lt (by simpa [sel] using h)]; simp [sel]
theorem blocks_um (a : List (List U8)) (h : ∀ x ∈ a, ∀ y ∈ x, (Lit.int .u8 y.n).wf = true) : ∃ B : Mx, a = um B ∧ ∀ i, i < B.length → ∀ x, x ∈ rw_ B i → x < 256 := by
  have key : ∀ y : U8, (Lit.int .u8 y.n).wf = true → u y.n.toNat = y ∧ y.n.toNat < 256 := fun y hy => by
    have h1 : 0 ≤ y.n ∧ y.n < 256 := by
      have a1 : IntKind.u8.min = 0 := by decide
      have a2 : IntKind.u8.max = 255 := by decide
      simp only [Lit.wf, a1, a2, Bool.and_eq_true, decide_eq_true_eq] at hy
      omega
    refine ⟨?_, by omega⟩
    unfold u
    rw [Int.toNat_of_nonneg h1.1]
  refine ⟨a.map (List.map fun y => y.n.toNat), ?_, fun i hi x hx => ?_⟩
  · unfold um
    rw [List.map_map]
    apply List.ext_getElem (by simp)
    intro i h1 h2
    rw [List.getElem_map]
    simp only [Function.comp, List.map_map]
    apply List.ext_getElem (by simp)
    intro j h3 h4
    rw [List.getElem_map]
    simp only [Function.comp]
    exact (key _ (h _ (List.getElem_mem h1) _ (List.getElem_mem h3))).1.symm
  · rw [rw_lt hi, List.getElem_map] at hx
    obtain ⟨y, hy, rfl⟩ := List.mem_map.1 hx
    exact (key y (h _ (List.getElem_mem (by simpa using hi)) y hy)).2
end Go.Arm
namespace Go.Arm
open Go Go.RowKit Go.Gf

/-- The number that four bytes say. -/
def num4 (a b c d : Nat) : Nat := a * 16777216 + b * 65536 + c * 256 + d
end Go.Arm
namespace Go.Arm
open Go Go.RowKit Go.Gf

/-- How many bytes are added. -/
def padN (x k : Nat) : Nat := (k - x % k) % k
theorem tmod_nat (a b : Nat) : Int.tmod (a : Int) (b : Int) = ((a % b : Nat) : Int) := by
  rw [Int.tmod_eq_emod_of_nonneg (Int.natCast_nonneg _)]; norm_cast
theorem tdiv_nat (a b : Nat) : Int.tdiv (a : Int) (b : Int) = ((a / b : Nat) : Int) := by
  rw [Int.tdiv_eq_ediv_of_nonneg (Int.natCast_nonneg _)]; norm_cast
/-- A part of some bytes. -/
def part (l : Row) (sz i : Nat) : Row := (l.take ((i + 1) * sz)).drop (i * sz)
end Go.Arm
namespace Go.Arm
open Go Go.RowKit Go.Gf

theorem conv_mod (x : Nat) : (⟨convK .u8 (x : Int)⟩ : U8) = u (x % 256) := by
  unfold convK u
  simp [IntKind.wrap, IntKind.bits, IntKind.signed]
/-- The bytes as the reference divides them again. -/
def again (n0 n1 n2 n3 : Nat) (rest : Row) (v k : Nat) : Row := (n0 :: n1 :: n2 :: n3 :: rest.take v) ++ List.replicate (padN (4 + v) k) 0
theorem part_mem {l : Row} {sz i x : Nat} (h : x ∈ part l sz i) : x ∈ l := by unfold part at h; exact List.mem_of_mem_take (List.mem_of_mem_drop h)
theorem txt_inj {a b : Row} (ha : ∀ x ∈ a, x < 256) (hb : ∀ x ∈ b, x < 256) (h : txtOf (a.map u) = txtOf (b.map u)) : a = b := by
  unfold txtOf at h
  have h1 : (a.map u).map (fun x => UInt8.ofNat x.n.toNat) = (b.map u).map (fun x => UInt8.ofNat x.n.toNat) := by injection h
  rw [List.map_map, List.map_map] at h1
  have hl : a.length = b.length := by simpa using congrArg List.length h1
  apply List.ext_getElem hl
  intro i i1 i2
  have h2 := congrArg (fun l => l[i]?) h1
  simp only [List.getElem?_map, List.getElem?_eq_getElem i1, List.getElem?_eq_getElem i2, Option.map_some, Option.some.injEq, Function.comp, u_n, Int.toNat_natCast] at h2
  have h3 := congrArg UInt8.toNat h2
  rw [UInt8.toNat_ofNat', UInt8.toNat_ofNat', Nat.mod_eq_of_lt (ha _ (List.getElem_mem i1)), Nat.mod_eq_of_lt (hb _ (List.getElem_mem i2))] at h3
  exact h3
end Go.Arm
namespace Go.Arm
open Go Go.RowKit Go.Gf

end Go.Arm
namespace Go.Arm
open Go Go.RowKit Go.Gf

theorem comb_getD {k s j : Nat} {D : Mx} {row : Row} (hD : Shape k s D) : ∀ (n i : Nat) (o : Row), i + n = k → o.length = s →
    (comb D row n i o).getD j 0 = o.getD j 0 ^^^ lsum (List.range' i n) (fun q => gm (row.getD q 0) (en D q j))
  | 0, i, o, _, _ => by rw [comb, List.range'_zero, lsum_nil, Nat.xor_zero]
  | n + 1, i, o, h, ho => by
    have he : o.length = (rw_ D i).length := by rw [(hD.2 i (by omega)).1, ho]
    rw [comb, comb_getD hD n (i + 1) _ (by omega) (by rw [axpy_len he]; exact ho), axpy_getD he, List.range'_succ, lsum_cons, Nat.xor_assoc, gm_comm]
    rfl
theorem blk_getD {k s w j : Nat} {D : Mx} (hD : Shape k s D) : (blk k s D w).getD j 0 = dot k (rowS k w) (fun i => en D i j) := by
  unfold blk dot
  rw [comb_getD hD k 0 _ (by omega) (by simp), rep_getD, Nat.zero_xor, List.range_eq_range']
theorem dot_unit {k r : Nat} {row : Row} {v : Nat → Nat} (hr : r < k) (hv : v r < 256) (h : ∀ j, j < k → row.getD j 0 = if r = j then 1 else 0) : dot k row v = v r := by
  unfold dot
  rw [lsum_congr (g := fun j => gm (if r = j then 1 else 0) (v j)) _ (fun j hj => by rw [h j (List.mem_range.1 hj)]), lsum_single hv _ List.nodup_range, if_pos (List.mem_range.2 hr)]
theorem blk_data {k s w : Nat} {D : Mx} (hk0 : 1 ≤ k) (hk : k ≤ 16) (hs : s ≤ 70000) (hD : Shape k s D) (hw : w < k) : blk k s D w = rw_ D w := by
  have hb := blk_ok (w := w) hk hs hD hk0
  refine ext_getD (by rw [hb.1, (hD.2 w hw).1]) (fun j _ => ?_)
  rw [blk_getD hD]
  exact dot_unit hw (hD.en_lt hw j) (fun q hq => by rw [rowS_getD hq]; unfold rowE; rw [if_pos hw])

theorem en_def (X : Mx) (r j : Nat) : en X r j = (rw_ X r).getD j 0 := rfl
/-- The data solve the rows. -/
def Sat (k s : Nat) (D R L : Mx) : Prop := ∀ r, r < k → ∀ j, j < s → dot k (rw_ R r) (fun i => en D i j) = en L r j
theorem Sat.swp {k s p c : Nat} {D R L : Mx} (h : Sat k s D R L) (hR : R.length = k) (hL : L.length = k) (hp : p < k) (hc : c < k) : Sat k s D (swp R p c) (swp L p c) := by
  intro r hr j hj
  refine Eq.trans ?_ (en_def _ _ _).symm
  rw [rw_swp (by omega) (by omega), rw_swp (by omega) (by omega)]
  split
  · exact h c hc j hj
  · split
    · exact h p hp j hj
    · exact h r hr j hj
theorem Sat.scl {k s c f : Nat} {D R L : Mx} (h : Sat k s D R L) (hR : R.length = k) (hL : L.length = k) (hc : c < k) (hf : f < 256) : Sat k s D (R.set c (scl f (rw_ R c))) (L.set c (scl f (rw_ L c))) := by
  intro r hr j hj
  refine Eq.trans ?_ (en_def _ _ _).symm
  rw [rw_set (by omega), rw_set (by omega)]
  split
  · rw [scl_getD, dot_scl hf, h c hc j hj, gm_comm]; rfl
  · exact h r hr j hj
theorem Sat.axpy {k s c q f : Nat} {D R L : Mx} (h : Sat k s D R L) (hD : Shape k s D) (hR : Shape k k R) (hL : Shape k s L) (hc : c < k) (hq : q < k) (hf : f < 256) : Sat k s D (R.set q (axpy f (rw_ R c) (rw_ R q))) (L.set q (axpy f (rw_ L c) (rw_ L q))) := by
  intro r hr j hj
  refine Eq.trans ?_ (en_def _ _ _).symm
  rw [rw_set (by rw [hR.1]; exact hq), rw_set (by rw [hL.1]; exact hq)]
  split
  · rw [axpy_getD (by rw [(hL.2 q hq).1, (hL.2 c hc).1]), dot_axpy hf (by rw [(hR.2 q hq).1, (hR.2 c hc).1]) (hR.2 q hq).2 _ (fun i hi => hD.en_lt hi j), h q hq j hj, h c hc j hj, gm_comm]
    rfl
  · exact h r hr j hj
theorem elim_sat {k s c : Nat} {D : Mx} (hD : Shape k s D) (hc : c < k) : ∀ (n r : Nat) (R L : Mx), r + n = k → Shape k k R → Shape k s L → Sat k s D R L → Sat k s D (elimS c n r R L).1 (elimS c n r R L).2
  | 0, r, R, L, _, _, _, h => h
  | n + 1, r, R, L, hn, hR, hL, h => by
    unfold elimS
    by_cases e : r = c
    · rw [if_pos e]
      exact elim_sat hD hc n (r + 1) R L (by omega) hR hL h
    · rw [if_neg e]
      have hr : r < k := by omega
      exact elim_sat hD hc n (r + 1) _ _ (by omega) (hR.set hr (hR.axpy_ok hr hc).1 (hR.axpy_ok hr hc).2) (hL.set hr (hL.axpy_ok hr hc).1 (hL.axpy_ok hr hc).2) (h.axpy hD hR hL hc hr (hR.en_lt hr c))
theorem step_sat {k s c : Nat} {D R L : Mx} (hD : Shape k s D) (hI : Inv k s c R L) (hc : c < k) (h : Sat k s D R L) : Sat k s D (stepS k c R L).1 (stepS k c R L).2 := by
  obtain ⟨p1, p2, p3, _⟩ := step_pivot hI hc
  have hE := (step_start hI hc p1 p2 p3).2
  unfold stepS
  exact elim_sat hD hc k 0 _ _ (by omega) hE.sR hE.sL ((h.swp hI.sR.1 hI.sL.1 p2 hc).scl (by rw [len_swp]; exact hI.sR.1) (by rw [len_swp]; exact hI.sL.1) hc (ginv_lt _))
theorem solve_sat {k s : Nat} {D : Mx} (hD : Shape k s D) : ∀ (n c : Nat) (R L : Mx), c + n = k → Inv k s c R L → Sat k s D R L → solveS k n c R L = D
  | 0, c, R, L, hn, hI, h => by
    obtain rfl : c = k := by omega
    refine mx_ext (by rw [solveS, hI.sL.1, hD.1]) (fun r hr => ?_)
    rw [solveS] at hr ⊢
    have hr' : r < c := by rw [← hI.sL.1]; exact hr
    refine ext_getD (by rw [(hI.sL.2 r hr').1, (hD.2 r hr').1]) (fun j hj => ?_)
    have hj' : j < s := by rw [← (hI.sL.2 r hr').1]; exact hj
    have e := h r hr' j hj'
    rw [dot_unit hr' (hD.en_lt hr' j) (fun q hq => hI.unit r hr' q hq)] at e
    exact e.symm
  | n + 1, c, R, L, hn, hI, h => by
    rw [solveS]
    exact solve_sat hD n (c + 1) _ _ (by omega) (step_ok hI (by omega)) (step_sat hD hI (by omega) h)
/-- Data that have the known blocks are what is found. -/
theorem dataS_eq {k s : Nat} {ws : List Nat} {K D : Mx} (hk : k ≤ 16) (hl : ws.length = k) (nd : ws.Nodup) (hb : ∀ w, w ∈ ws → w < k + 16) (hK : Shape k s K) (hD : Shape k s D)
    (he : ∀ r (h : r < ws.length), rw_ K r = blk k s D ws[r]) : dataS k ws K = D := by
  refine solve_sat hD k 0 _ _ (by omega) ⟨shape_mat hl, hK, ker_init hk hl nd hb, fun r _ j hj => by omega⟩ (fun r hr j hj => ?_)
  rw [rw_map (by omega), ← blk_getD hD, ← he r (by omega)]
  rfl
/-- Data that have k blocks in common are the same. -/
theorem data_one {k s : Nat} {ws : List Nat} {C D : Mx} (hk0 : 1 ≤ k) (hk : k ≤ 16) (hs : s ≤ 70000) (hl : ws.length = k) (nd : ws.Nodup) (hb : ∀ w, w ∈ ws → w < k + 16) (hC : Shape k s C) (hD : Shape k s D)
    (he : ∀ w, w ∈ ws → blk k s C w = blk k s D w) : C = D := by
  have hK : Shape k s (ws.map (blk k s C)) := ⟨by simpa using hl, fun r hr => by
    rw [rw_lt (by simpa [hl] using hr), List.getElem_map]
    exact blk_ok hk hs hC hk0⟩
  have e1 := dataS_eq (D := C) hk hl nd hb hK hC (fun r h => by rw [rw_lt (by simpa using h), List.getElem_map])
  have e2 := dataS_eq (D := D) hk hl nd hb hK hD (fun r h => by rw [rw_lt (by simpa using h), List.getElem_map, he _ (List.getElem_mem h)])
  rw [← e1, e2]

/-- The loop that compares: it stops at the first block that differs. -/
theorem loop_p {N k s : Nat} {B D : Mx} {t : List Bool} (hN : 70000 < N) (hk0 : 1 ≤ k) (hk : k ≤ 16) (hs : s ≤ 70000) (hD : Shape k s D) (hB : B.length ≤ 40) (hBk : B.length ≤ k + 16) (ht : t.length = B.length)
    (hrow : ∀ i, i < B.length → isT t i = true → ∀ x, x ∈ rw_ B i → x < 256) : ∀ (n i : Nat) (A : Mx), B.length < i + n → i ≤ B.length → A.length = B.length → (∀ j, j < i → rw_ A j = blk k s D j) →
    (check_Repair_l2 N (um B) t fieldT (um D) n (i : Int) (um A) = some (.inr ([], 20)) ∧ ∃ j, i ≤ j ∧ j < B.length ∧ isT t j = true ∧ rw_ B j ≠ blk k s D j)
    ∨ (check_Repair_l2 N (um B) t fieldT (um D) n (i : Int) (um A) = some (.inl (um ((List.range B.length).map (blk k s D)))) ∧ ∀ j, i ≤ j → j < B.length → isT t j = true → rw_ B j = blk k s D j)
  | 0, i, A, h1, h2, _, _ => by omega
  | n + 1, i, A, h1, h2, hA, hj => by
    have hmax := maxLen_big
    rw [check_Repair_l2.eq_2]
    by_cases hi : i < B.length
    · have c1 : decide ((i : Int) < ((((um B).length : Int).toNat : Nat) : Int)) = true := by rw [toNat_cast, um_len]; simp; exact hi
      have hin : inR ((i : Int) + 1) := by unfold inR; omega
      obtain ⟨b1, b2, b3⟩ := block_eq hN hk0 hk hs hD (show i < k + 16 by omega)
      have hset : ∀ j, j < i + 1 → rw_ (A.set i (blk k s D i)) j = blk k s D j := fun j hji => by
        rw [rw_set (by omega)]
        by_cases e : j = i
        · rw [if_pos e, e]
        · rw [if_neg e]; exact hj j (by omega)
      have i1 : idx (um (A.set i (blk k s D i))) (i : Int) = some ((blk k s D i).map u) := by rw [idx_um (by simp; omega), hset i (by omega)]
      rw [if_pos c1, b1, Option.bind_some, idx_um (show i < A.length by omega), Option.bind_some, idx_t (by omega), Option.bind_some, Int.toNat_natCast, um_set]
      have ih := loop_p (N := N) hN hk0 hk hs hD hB hBk ht hrow n (i + 1) (A.set i (blk k s D i)) (by omega) (by omega) (by simpa using hA) hset
      by_cases hp : isT t i = true
      · rw [if_pos hp, i1, Option.bind_some, idx_um hi, Option.bind_some]
        unfold bytes_Equal
        rw [Option.bind_some, Option.bind_some]
        by_cases he : txtOf ((blk k s D i).map u) = txtOf ((rw_ B i).map u)
        · have c3 : ¬ ((!decide (txtOf ((blk k s D i).map u) = txtOf ((rw_ B i).map u))) = true) := by simp [he]
          have he' := txt_inj (blk_ok hk hs hD hk0).2 (hrow i hi hp) he
          rw [if_neg c3, chk, if_pos hin]
          rcases ih with ⟨i1, j, j1, j2⟩ | ⟨i1, i2⟩
          · exact .inl ⟨i1, j, by omega, j2⟩
          · exact .inr ⟨i1, fun j j1 j2 j3 => by
              by_cases e : j = i
              · rw [e]; exact he'.symm
              · exact i2 j (by omega) j2 j3⟩
        · have c3 : (!decide (txtOf ((blk k s D i).map u) = txtOf ((rw_ B i).map u))) = true := by simp [he]
          rw [if_pos c3]
          exact .inl ⟨rfl, i, Nat.le_refl _, hi, hp, fun e => he (by rw [e])⟩
      · rw [if_neg hp, Option.bind_some, if_neg (by simp), chk, if_pos hin]
        rcases ih with ⟨i1, j, j1, j2⟩ | ⟨i1, i2⟩
        · exact .inl ⟨i1, j, by omega, j2⟩
        · exact .inr ⟨i1, fun j j1 j2 j3 => by
            by_cases e : j = i
            · rw [e] at j3; exact absurd j3 hp
            · exact i2 j (by omega) j2 j3⟩
    · have c1 : ¬ (decide ((i : Int) < ((((um B).length : Int).toNat : Nat) : Int)) = true) := by rw [toNat_cast, um_len]; simp; omega
      have e : i = B.length := by omega
      rw [if_neg c1]
      rw [mx_ext (a := A) (b := (List.range i).map (blk k s D)) (by simp; omega) (fun r hr => by rw [hj r (by omega), rw_lt (by simp; omega)]; simp)]
      exact .inr ⟨by rw [e], fun j j1 j2 => by omega⟩
/-- Blocks that are there, enough, and of one length. -/
structure Enough (k s : Nat) (B : Mx) (t : List Bool) : Prop where
  k0 : 1 ≤ k
  k16 : k ≤ 16
  s6 : s ≤ 65536
  lo : k ≤ B.length
  hi : B.length ≤ k + 16
  len : t.length = B.length
  row : ∀ i, i < B.length → isT t i = true → (rw_ B i).length = s ∧ ∀ x, x ∈ rw_ B i → x < 256
  some_ : k ≤ (pk t B.length).length
theorem even_p {N : Nat} {X : Mx} (hX : 0 < X.length) (hl : X.length ≤ 70000) (hev : ∀ j, j < X.length → (rw_ X j).length = (rw_ X 0).length) : ∀ (n i : Nat), X.length < i + n → i ≤ X.length →
    slices_IndexFunc_LLbyte_Lbyte_l1 N (um X) (fun x => check_sized_1 N x (um X)) n (i : Int) = some (.inl ())
  | 0, i, h1, h2 => by omega
  | n + 1, i, h1, h2 => by
    have d0 : idx (um X) 0 = some ((rw_ X 0).map u) := idx_um (r := 0) hX
    rw [slices_IndexFunc_LLbyte_Lbyte_l1.eq_2]
    by_cases hi : i < X.length
    · have c1 : decide ((i : Int) < ((um X).length : Int)) = true := by rw [um_len]; simp; exact hi
      have hin : inR ((i : Int) + 1) := by unfold inR; omega
      rw [if_pos c1, idx_um hi, Option.bind_some]
      have q1 : check_sized_1 N ((rw_ X i).map u) (um X) = some (!decide ((((rw_ X i).map u).length : Int) = (((rw_ X 0).map u).length : Int))) := by
        unfold check_sized_1; rw [d0, Option.bind_some]
      have c2 : ¬ ((!decide ((((rw_ X i).map u).length : Int) = (((rw_ X 0).map u).length : Int))) = true) := by simp [hev i hi]
      rw [q1, Option.bind_some, if_neg c2, chk, if_pos hin]
      exact even_p hX hl hev n (i + 1) (by omega) (by omega)
    · have c1 : ¬ (decide ((i : Int) < ((um X).length : Int)) = true) := by rw [um_len]; simp; omega
      rw [if_neg c1]
/-- Repair: the blocks that are there are a codeword's, or one of them is wrong. -/
theorem repair_two {N k s : Nat} {B : Mx} {t : List Bool} (h : Enough k s B t) (hN : 70000 < N) :
    ∃ D, Shape k s D ∧ D = dataS k ((pk t B.length).take k) ((sel B (pk t B.length)).take k) ∧
      ((check_Repair N (um B) t (k : Int) = some ([], 20) ∧ ∃ j, j < B.length ∧ isT t j = true ∧ rw_ B j ≠ blk k s D j)
      ∨ (check_Repair N (um B) t (k : Int) = some (um ((List.range B.length).map (blk k s D)), 0) ∧ ∀ j, j < B.length → isT t j = true → rw_ B j = blk k s D j)) := by
  obtain ⟨hk0, hk, hs6, hlo, hhi, ht, hrow, hen⟩ := h
  unfold check_Repair
  rw [um_len, rng (k : Int) B.length (by omega), Option.bind_some, decide_eq_false (by omega), if_neg Bool.false_ne_true]
  have c : ¬ ((!decide ((t.length : Int) = (B.length : Int))) = true) := by simp [ht]
  rw [if_neg c]
  obtain ⟨l1, _⟩ := rl1_eq (N := N) ht (by omega) N 0 (by omega) (by omega)
  have l1' : check_Repair_l1 N (um B) t N [] [] 0 = _ := l1
  rw [l1', Option.bind_some]
  dsimp only
  have wT : ∀ w, w ∈ pk t B.length → isT t w = true := fun w hw => (List.mem_filter.1 hw).2
  have Wn : (pk t B.length).Nodup := pk_nodup t B.length
  have Wl : ∀ w, w ∈ pk t B.length → w < B.length := fun w hw => pk_lt hw
  have WL : (pk t B.length).length ≤ B.length := pk_len t B.length
  generalize pk t B.length = W at *
  have hkX : k ≤ (sel B W).length := by rw [sel_len]; exact hen
  have c0 : ¬ (decide (((um (sel B W)).length : Int) < (k : Int)) = true) := by rw [um_len, sel_len]; simp; omega
  rw [Option.bind_some]
  dsimp only
  rw [if_neg c0]
  have hX0 : 0 < (sel B W).length := by rw [sel_len]; omega
  have d0 : idx (um (sel B W)) 0 = some ((rw_ (sel B W) 0).map u) := idx_um (r := 0) hX0
  have rowl : ∀ r, r < W.length → (rw_ (sel B W) r).length = s ∧ ∀ x, x ∈ rw_ (sel B W) r → x < 256 := fun r hr => by
    rw [rw_sel hr]
    have hm : W[r] ∈ W := List.getElem_mem hr
    exact hrow _ (Wl _ hm) (wT _ hm)
  have c8 : ¬ (decide ((65536 : Int) < (((rw_ (sel B W) 0).map u).length : Int)) = true) := by
    rw [List.length_map, (rowl 0 (by omega)).1]; simp; omega
  have sz0 : slices_IndexFunc_LLbyte_Lbyte_l1 N (um (sel B W)) (fun x => check_sized_1 N x (um (sel B W))) N 0 = some (.inl ()) → check_sized N (um (sel B W)) = some 0 := fun ho => by
    unfold check_sized
    rw [d0, Option.bind_some, if_neg c8]
    unfold slices_ContainsFunc_LLbyte_Lbyte slices_IndexFunc_LLbyte_Lbyte
    rw [ho, Option.bind_some]
    rfl
  have e1 : slices_IndexFunc_LLbyte_Lbyte_l1 N (um (sel B W)) (fun x => check_sized_1 N x (um (sel B W))) N 0 = some (.inl ()) :=
    (even_p (N := N) hX0 (by rw [sel_len]; omega) (fun j hj => by rw [sel_len] at hj; rw [(rowl j hj).1, (rowl 0 (by omega)).1]) N 0 (by rw [sel_len]; omega) (by omega))
  have c9 : ¬ ((!decide ((0 : Int) = 0)) = true) := by simp
  rw [sz0 e1, Option.bind_some, if_neg c9, cut_wi hen, cut_um0 hkX]
  unfold check_newField
  rw [Option.bind_some, Option.bind_some, Option.bind_some]
  have hs : s ≤ 70000 := by omega
  have hK : Shape k s ((sel B W).take k) := ⟨by rw [List.length_take]; omega, fun r hr => by
    rw [rw_take hr hkX]; exact rowl r (by omega)⟩
  obtain ⟨s1, _, hD⟩ := solve_eq (N := N) (k := k) (s := s) (ws := W.take k) (K := (sel B W).take k) (by omega) (by omega) hs (by rw [List.length_take]; omega) (Wn.sublist (List.take_sublist _ _)) (fun w hw => by have := Wl w (List.mem_of_mem_take hw); omega) hK hN
  refine ⟨_, hD, rfl, ?_⟩
  rw [s1, Option.bind_some, chk, if_pos ⟨by omega, by omega, by omega⟩, Int.toNat_natCast]
  have e0 : List.replicate B.length ([] : List U8) = um (List.replicate B.length []) := by simp [um]
  rw [e0]
  rcases loop_p (N := N) (t := t) (B := B) hN (by omega) (by omega) hs hD (by omega) (by omega) ht (fun i hi hp => (hrow i hi hp).2) N 0 (List.replicate B.length []) (by omega) (by omega) (by simp) (fun j hj => by omega) with ⟨r1, j, _, j2⟩ | ⟨r1, r2⟩
  · have r1' : check_Repair_l2 N (um B) t fieldT (um (dataS k (W.take k) ((sel B W).take k))) N 0 (um (List.replicate B.length [])) = _ := r1
    rw [r1']
    exact .inl ⟨rfl, j, j2⟩
  · have r1' : check_Repair_l2 N (um B) t fieldT (um (dataS k (W.take k) ((sel B W).take k))) N 0 (um (List.replicate B.length [])) = _ := r1
    rw [r1']
    exact .inr ⟨rfl, fun j j2 => r2 j (by omega) j2⟩
/-- The data that the blocks that are there have. -/
theorem repair_code {N k s : Nat} {B D : Mx} {t : List Bool} (h : Enough k s B t) (hD : Shape k s D) (hB : ∀ i, i < B.length → isT t i = true → rw_ B i = blk k s D i) (hN : 70000 < N) :
    check_Repair N (um B) t (k : Int) = some (um ((List.range B.length).map (blk k s D)), 0) := by
  have hen := h.some_
  have hk := h.k16
  have hhi := h.hi
  have hs6 := h.s6
  have e : dataS k ((pk t B.length).take k) ((sel B (pk t B.length)).take k) = D := by
    have wT : ∀ w, w ∈ pk t B.length → isT t w = true := fun w hw => (List.mem_filter.1 hw).2
    have Wn : (pk t B.length).Nodup := pk_nodup t B.length
    have Wl : ∀ w, w ∈ pk t B.length → w < B.length := fun w hw => pk_lt hw
    generalize pk t B.length = W at *
    have hkX : k ≤ (sel B W).length := by rw [sel_len]; exact hen
    have hr : ∀ r (h1 : r < (W.take k).length), rw_ ((sel B W).take k) r = blk k s D (W.take k)[r] := fun r h1 => by
      have h2 : r < k ∧ r < W.length := by rw [List.length_take] at h1; omega
      rw [rw_take h2.1 hkX, rw_sel h2.2, List.getElem_take]
      exact hB _ (Wl _ (List.getElem_mem h2.2)) (wT _ (List.getElem_mem h2.2))
    have hwl : (W.take k).length = k := by rw [List.length_take]; omega
    refine dataS_eq hk hwl (Wn.sublist (List.take_sublist _ _)) (fun w hw => by have := Wl w (List.mem_of_mem_take hw); omega) ⟨by rw [List.length_take]; omega, fun r hr' => ?_⟩ hD hr
    rw [hr r (by omega)]
    exact blk_ok hk (by omega) hD h.k0
  obtain ⟨D', _, e', o⟩ := repair_two h hN
  rw [e] at e'
  subst e'
  rcases o with ⟨_, j, j1, j2, j3⟩ | ⟨o, _⟩
  · exact absurd (hB j j1 j2) j3
  · exact o
end Go.Arm
namespace Go.Arm
open Go Go.RowKit Go.Gf

theorem sized_ok {N s : Nat} {X : Mx} (hX : 0 < X.length) (hl : X.length ≤ 70000) (hs : s ≤ 65536) (hr : ∀ j, j < X.length → (rw_ X j).length = s) (hN : 70000 < N) : check_sized N (um X) = some 0 := by
  have d0 : idx (um X) 0 = some ((rw_ X 0).map u) := idx_um (r := 0) hX
  have c8 : ¬ (decide ((65536 : Int) < (((rw_ X 0).map u).length : Int)) = true) := by
    rw [List.length_map, hr 0 hX]; simp; omega
  have e1 : slices_IndexFunc_LLbyte_Lbyte_l1 N (um X) (fun x => check_sized_1 N x (um X)) N 0 = some (.inl ()) := even_p (N := N) hX hl (fun j hj => by rw [hr j hj, hr 0 hX]) N 0 (by omega) (by omega)
  unfold check_sized
  rw [d0, Option.bind_some, if_neg c8]
  unfold slices_ContainsFunc_LLbyte_Lbyte slices_IndexFunc_LLbyte_Lbyte
  rw [e1, Option.bind_some]
  rfl
theorem par_l {N k s m : Nat} {D : Mx} (hN : 70000 < N) (hk0 : 1 ≤ k) (hk : k ≤ 16) (hs : s ≤ 70000) (hD : Shape k s D) (hm : m ≤ 16) : ∀ (n i : Nat), m < i + n → i ≤ m →
    check_Parity_l1 N (um D) (m : Int) fieldT n (um ((List.range i).map fun j => blk k s D (k + j))) (i : Int) = some (um ((List.range m).map fun j => blk k s D (k + j)))
  | 0, i, h1, h2 => by omega
  | n + 1, i, h1, h2 => by
    have hmax := maxLen_big
    rw [check_Parity_l1.eq_2]
    by_cases hi : i < m
    · have c1 : decide ((i : Int) < (m : Int)) = true := by simp; exact hi
      have e : ((um D).length : Int) + (i : Int) = ((k + i : Nat) : Int) := by rw [um_len, hD.1]; omega
      obtain ⟨b1, _⟩ := block_eq hN hk0 hk hs hD (show k + i < k + 16 by omega)
      have k2 : ((um ((List.range i).map fun j => blk k s D (k + j))).length + ([(blk k s D (k + i)).map u] : List (List U8)).length) * 24 ≤ 140737488355328 ∧ (um ((List.range i).map fun j => blk k s D (k + j))).length + ([(blk k s D (k + i)).map u] : List (List U8)).length ≤ maxLen := by
        rw [um_len]; simp only [List.length_map, List.length_range, List.length_singleton]; exact ⟨by omega, by omega⟩
      rw [if_pos c1, e, chk, if_pos (show inR ((k + i : Nat) : Int) by unfold inR; omega), b1, Option.bind_some, chk, if_pos k2, chk, if_pos (show inR ((i : Int) + 1) by unfold inR; omega), um_snoc, range_snoc (fun j => blk k s D (k + j))]
      exact par_l hN hk0 hk hs hD hm n (i + 1) (by omega) (by omega)
    · have c1 : ¬ (decide ((i : Int) < (m : Int)) = true) := by simp; omega
      rw [if_neg c1, show i = m by omega]
theorem parity_ok {N k s m : Nat} {D : Mx} (hN : 70000 < N) (hk0 : 1 ≤ k) (hk : k ≤ 16) (hs : s ≤ 65536) (hD : Shape k s D) (hm : m ≤ 16) :
    check_Parity N (um D) (m : Int) = some (um ((List.range m).map fun j => blk k s D (k + j)), 0) := by
  have p1 : check_Parity_l1 N (um D) (m : Int) fieldT N (um []) 0 = _ := par_l hN hk0 hk (by omega) hD hm N 0 (by omega) (by omega)
  unfold check_Parity
  rw [sized_ok (X := D) (s := s) (by rw [hD.1]; omega) (by rw [hD.1]; omega) hs (fun j hj => (hD.2 j (by rw [← hD.1]; exact hj)).1) hN]
  unfold check_newField
  rw [um_len, hD.1, if_neg (show ¬ (decide ((k : Int) < 1) = true) by simp; omega), if_neg (show ¬ (decide ((16 : Int) < (k : Int)) = true) by simp; omega), if_neg (show ¬ (decide ((m : Int) < 0) = true) by simp), decide_eq_false (show ¬ ((16 : Int) < (m : Int)) by omega), Option.bind_some]
  dsimp only
  rw [if_neg Bool.false_ne_true, Option.bind_some, if_neg (by simp), Option.bind_some]
  have e0 : (um [] : List (List U8)) = [] := rfl
  rw [e0] at p1
  rw [p1]
  rfl
/-- The pieces. -/
theorem chunk_l {N k s : Nat} {l : Row} (hk : k ≤ 16) (hs : s ≤ 65536) (hl : l.length = k * s) : ∀ (n i : Nat), k < i + n → i ≤ k →
    0 < s → chunkG N (l.map u) (s : Int) n ((i * s : Nat) : Int) (um ((List.range i).map (part l s))) = some (um ((List.range k).map (part l s)))
  | 0, i, h1, h2, _ => by omega
  | n + 1, i, h1, h2, hs0 => by
    have hmax := maxLen_big
    have hks : k * s ≤ 16 * 65536 := Nat.mul_le_mul hk hs
    rw [chunkG]
    by_cases hi : i < k
    · have b2 : (i + 1) * s = i * s + s := Nat.succ_mul i s
      have b3 : (i + 1) * s ≤ k * s := Nat.mul_le_mul_right s hi
      have c1 : decide (((i * s : Nat) : Int) < ((l.map u).length : Int)) = true := by rw [List.length_map, hl]; simp only [decide_eq_true_eq]; omega
      have cut1 : cut (l.map u) ((i * s : Nat) : Int) ((l.map u).length : Int) = some ((l.drop (i * s)).map u) := by
        unfold cut
        rw [if_pos ⟨by omega, by rw [List.length_map, hl]; omega, by omega⟩, Int.toNat_natCast, Int.toNat_natCast, List.take_length, List.map_drop]
      have hmin : min (s : Int) (((l.drop (i * s)).map u).length : Int) = (s : Int) := by rw [List.length_map, List.length_drop, hl]; omega
      have cut2 : cut (l.map u) ((i * s : Nat) : Int) (((i * s : Nat) : Int) + (s : Int)) = some ((part l s i).map u) := by
        unfold cut part
        have e : (((i * s : Nat) : Int) + (s : Int)).toNat = (i + 1) * s := by omega
        rw [if_pos ⟨by omega, by omega, by rw [List.length_map, hl]; omega⟩, Int.toNat_natCast, e, List.map_drop, List.map_take]
      have hpl : (part l s i).length = s := by unfold part; rw [List.length_drop, List.length_take, hl]; omega
      have cl : slices_Clone_Lbyte_byte N ((part l s i).map u) = some ((part l s i).map u) := clone_eq N (by rw [List.length_map, hpl]; omega)
      have k2 : ((um ((List.range i).map (part l s))).length + ([(part l s i).map u] : List (List U8)).length) * 24 ≤ 140737488355328 ∧ (um ((List.range i).map (part l s))).length + ([(part l s i).map u] : List (List U8)).length ≤ maxLen := by
        rw [um_len]; simp only [List.length_map, List.length_range, List.length_singleton]; exact ⟨by omega, by omega⟩
      rw [if_pos c1, cut1, Option.bind_some, hmin, chk, if_pos (show inR (((i * s : Nat) : Int) + (s : Int)) by unfold inR; omega), cut2, Option.bind_some, cl, Option.bind_some, chk, if_pos k2, chk, if_pos (show inR (((i * s : Nat) : Int) + (s : Int)) by unfold inR; omega), um_snoc, range_snoc (part l s)]
      have e : ((i * s : Nat) : Int) + (s : Int) = (((i + 1) * s : Nat) : Int) := by omega
      rw [e]
      exact chunk_l hk hs hl n (i + 1) (by omega) (by omega) hs0
    · obtain rfl : i = k := by omega
      have c1 : ¬ (decide (((i * s : Nat) : Int) < ((l.map u).length : Int)) = true) := by rw [List.length_map, hl]; simp
      rw [if_neg c1]
theorem shr_n {a i : Nat} (hi : i ≤ 63) : shrK .i64 (a : Int) (i : Int) = ((a / 2 ^ i : Nat) : Int) := by
  unfold shrK
  have e : min ((i : Int)).toNat (IntKind.bits .i64) = i := by show min ((i : Int)).toNat 64 = i; omega
  rw [e, Int.fdiv_eq_ediv_of_nonneg _ (by exact Int.pow_nonneg (by decide)), Int.natCast_ediv]
  norm_cast
/-- The number of bytes, as four bytes. -/
def hd4 (n : Nat) : Row := [n / 16777216 % 256, n / 65536 % 256, n / 256 % 256, n % 256]
/-- All bytes, filled up. -/
def allD (b : Row) (k s : Nat) : Row := hd4 b.length ++ b ++ List.replicate (s * k - 4 - b.length) 0
def dataD (b : Row) (k s : Nat) : Mx := (List.range k).map (part (allD b k s) s)
def szD (b : Row) (k : Nat) : Nat := (b.length + 4 + k - 1) / k
theorem sz_spec {b : Row} {k : Nat} (hk0 : 1 ≤ k) : b.length + 4 ≤ szD b k * k ∧ szD b k * k < b.length + 4 + k ∧ 1 ≤ szD b k ∧ szD b k ≤ b.length + 4 := by
  unfold szD
  have h1 := Nat.div_add_mod (b.length + 4 + k - 1) k
  have h2 := Nat.mod_lt (b.length + 4 + k - 1) (show k > 0 by omega)
  have h3 : 1 ≤ (b.length + 4 + k - 1) / k := (Nat.le_div_iff_mul_le (by omega)).2 (by omega)
  have h4 : (b.length + 4 + k - 1) / k * 1 ≤ (b.length + 4 + k - 1) / k * k := Nat.mul_le_mul_left _ hk0
  rw [Nat.mul_comm] at h1
  refine ⟨by omega, by omega, h3, ?_⟩
  rcases Nat.lt_or_ge 1 k with h | h
  · have h5 : (b.length + 4 + k - 1) / k * 2 ≤ (b.length + 4 + k - 1) / k * k := Nat.mul_le_mul_left _ h
    by_cases h6 : (b.length + 4 + k - 1) / k ≤ b.length + 4
    · exact h6
    · exfalso
      have h7 : (b.length + 4 + k - 1) / k ≤ b.length + 4 := by
        refine Nat.le_of_lt_succ ((Nat.div_lt_iff_lt_mul (by omega)).2 ?_)
        have := Nat.mul_le_mul_left (b.length + 4) hk0
        rw [Nat.succ_mul]; omega
      exact h6 h7
  · obtain rfl : k = 1 := by omega
    rw [Nat.div_one]; omega
theorem allD_len {b : Row} {k s : Nat} (h : b.length + 4 ≤ s * k) : (allD b k s).length = k * s := by
  unfold allD hd4
  simp only [List.length_append, List.length_cons, List.length_nil, List.length_replicate]
  rw [Nat.mul_comm k s]; omega
theorem allD_lt {b : Row} {k s : Nat} (hb : ∀ x, x ∈ b → x < 256) : ∀ x, x ∈ allD b k s → x < 256 := by
  intro x hx
  unfold allD hd4 at hx
  simp only [List.mem_append, List.mem_cons, List.not_mem_nil, or_false, List.mem_replicate] at hx
  rcases hx with (h | h) | h
  · omega
  · exact hb x h
  · omega
theorem dataD_shape {b : Row} {k s : Nat} (h : b.length + 4 ≤ s * k) (hb : ∀ x, x ∈ b → x < 256) : Shape k s (dataD b k s) := by
  refine ⟨by simp [dataD], fun r hr => ?_⟩
  have e : rw_ (dataD b k s) r = part (allD b k s) s r := by
    unfold dataD
    rw [rw_lt (by simpa using hr), List.getElem_map, List.getElem_range]
  rw [e]
  have b2 : (r + 1) * s = r * s + s := Nat.succ_mul r s
  have b3 : (r + 1) * s ≤ k * s := Nat.mul_le_mul_right s hr
  refine ⟨by unfold part; rw [List.length_drop, List.length_take, allD_len h]; omega, fun x hx => allD_lt hb x (part_mem hx)⟩
theorem cpy_head {L : Nat} {H : List U8} (hH : H.length ≤ L) : cpy (List.replicate L (⟨0⟩ : U8)) 0 H = H ++ List.replicate (L - H.length) ⟨0⟩ := by
  unfold cpy
  rw [List.length_replicate, Nat.sub_zero, List.take_zero, List.nil_append, List.take_of_length_le hH, List.drop_replicate, Nat.zero_add, Nat.min_eq_left hH]
theorem cpy_tail {H a Z : List U8} (h : a.length ≤ Z.length) : cpy (H ++ Z) H.length a = H ++ a ++ Z.drop a.length := by
  unfold cpy
  rw [List.take_left, List.length_append, Nat.add_sub_cancel_left, List.take_of_length_le h, Nat.min_eq_left h, ← List.drop_drop, List.drop_left]
theorem divide_ok {N k m : Nat} {b : Row} (hk0 : 1 ≤ k) (hk : k ≤ 16) (hm : m ≤ 16) (hb : b.length ≤ 2000) (hby : ∀ x, x ∈ b → x < 256) (hN : 70000 < N) :
    check_Divide N (b.map u) (k : Int) (m : Int) = some (um ((List.range (k + m)).map (blk k (szD b k) (dataD b k (szD b k)))), 0) := by
  have hmax := maxLen_big
  obtain ⟨z1, z2, z3, z4⟩ := sz_spec (b := b) hk0
  have eS : Int.tdiv (((b.map u).length : Int) + 4 + (k : Int) - 1) (k : Int) = (szD b k : Int) := by
    rw [List.length_map, show ((b.length : Int) + 4 + (k : Int) - 1) = ((b.length + 4 + k - 1 : Nat) : Int) by omega, tdiv_nat]; rfl
  have hD := dataD_shape (k := k) z1 hby
  generalize szD b k = s at *
  have eL : ((s : Int) * (k : Int)) = ((s * k : Nat) : Int) := by norm_cast
  have eA : (cpy (cpy (List.replicate ((s : Int) * (k : Int)).toNat (⟨0⟩ : U8)) 0 ([(⟨convK .u8 (shrK .i64 ((b.map u).length : Int) (⟨24⟩ : U64).n)⟩ : U8), (⟨convK .u8 (shrK .i64 ((b.map u).length : Int) (⟨16⟩ : U64).n)⟩ : U8), (⟨convK .u8 (shrK .i64 ((b.map u).length : Int) (⟨8⟩ : U64).n)⟩ : U8), (⟨convK .u8 ((b.map u).length : Int)⟩ : U8)] : List U8)) 4 (b.map u)) = (allD b k s).map u := by
    rw [eL, Int.toNat_natCast, cpy_head (by simp; omega)]
    have e4 := cpy_tail (H := ([(⟨convK .u8 (shrK .i64 ((b.map u).length : Int) (⟨24⟩ : U64).n)⟩ : U8), (⟨convK .u8 (shrK .i64 ((b.map u).length : Int) (⟨16⟩ : U64).n)⟩ : U8), (⟨convK .u8 (shrK .i64 ((b.map u).length : Int) (⟨8⟩ : U64).n)⟩ : U8), (⟨convK .u8 ((b.map u).length : Int)⟩ : U8)] : List U8)) (a := b.map u) (Z := List.replicate (s * k - 4) ⟨0⟩) (by simp; omega)
    have e5 : cpy (_ ++ List.replicate (s * k - 4) (⟨0⟩ : U8)) 4 (b.map u) = _ := e4
    refine e5.trans ?_
    unfold allD hd4
    have s1 : ∀ i : Nat, i ≤ 63 → (⟨convK .u8 (shrK .i64 ((b.map u).length : Int) (i : Int))⟩ : U8) = u (b.length / 2 ^ i % 256) := fun i hi => by rw [List.length_map, shr_n hi, conv_mod]
    have q24 : (⟨convK .u8 (shrK .i64 ((b.map u).length : Int) (⟨24⟩ : U64).n)⟩ : U8) = u (b.length / 16777216 % 256) := s1 24 (by decide)
    have q16 : (⟨convK .u8 (shrK .i64 ((b.map u).length : Int) (⟨16⟩ : U64).n)⟩ : U8) = u (b.length / 65536 % 256) := s1 16 (by decide)
    have q8 : (⟨convK .u8 (shrK .i64 ((b.map u).length : Int) (⟨8⟩ : U64).n)⟩ : U8) = u (b.length / 256 % 256) := s1 8 (by decide)
    have q0 : (⟨convK .u8 ((b.map u).length : Int)⟩ : U8) = u (b.length % 256) := by rw [List.length_map, conv_mod]
    rw [q24, q16, q8, q0, List.map_append, List.map_append, List.drop_replicate, List.length_map, List.map_replicate]
    rfl
  have hks : k * s ≤ 16 * 65536 := Nat.mul_le_mul hk (by omega)
  have ch : chunkG N ((allD b k s).map u) (s : Int) N 0 [] = some (um (dataD b k s)) := by
    have := chunk_l (N := N) (l := allD b k s) hk (by omega) (allD_len z1) N 0 (by omega) (by omega) z3
    rw [Nat.zero_mul] at this
    exact this
  have pa := parity_ok (N := N) (k := k) (s := s) (m := m) hN hk0 hk (by omega) hD hm
  have hn : ((b.map u).length : Int) ≤ 2000 := by rw [List.length_map]; omega
  have hsk : s * k = k * s := Nat.mul_comm s k
  unfold check_Divide
  rw [if_neg (show ¬ (decide ((k : Int) < 1) = true) by simp; omega), if_neg (show ¬ (decide ((16 : Int) < (k : Int)) = true) by simp; omega), if_neg (show ¬ (decide ((m : Int) < 0) = true) by simp), decide_eq_false (show ¬ ((16 : Int) < (m : Int)) by omega), Option.bind_some]
  dsimp only
  rw [if_neg Bool.false_ne_true, eS, eA, chk, if_pos (show inR (((b.map u).length : Int) + 4) by unfold inR; omega), chk, if_pos (show inR (((b.map u).length : Int) + 4 + (k : Int)) by unfold inR; omega), chk, if_pos (show inR (((b.map u).length : Int) + 4 + (k : Int) - 1) by unfold inR; omega), chk, if_pos ⟨by omega, (show inR (s : Int) by unfold inR; omega)⟩,
    if_neg (show ¬ (decide ((65536 : Int) < (s : Int)) = true) by simp; omega), eL, chk, if_pos (show inR ((s * k : Nat) : Int) by unfold inR; omega), chk, if_pos ⟨by omega, by omega, by omega⟩, chk, if_pos (show (0 : Int) ≤ (⟨24⟩ : U64).n by decide), chk, if_pos (show (0 : Int) ≤ (⟨16⟩ : U64).n by decide), chk, if_pos (show (0 : Int) ≤ (⟨8⟩ : U64).n by decide),
    chk, if_pos (by rw [Int.toNat_natCast]; omega), chk, if_pos (by omega), ch, Option.bind_some, pa, Option.bind_some, if_neg (by simp), chk, if_pos ⟨by rw [um_len, um_len, hD.1]; simp; omega, by rw [um_len, um_len, hD.1]; simp; omega⟩]
  have e : um (dataD b k s) ++ um ((List.range m).map fun j => blk k s (dataD b k s) (k + j)) = um ((List.range (k + m)).map (blk k s (dataD b k s))) := by
    unfold um
    rw [← List.map_append]
    congr 1
    rw [List.range_add, List.map_append, List.map_map]
    congr 1
    refine mx_ext (by rw [hD.1]; simp) (fun r hr => ?_)
    have hr' : r < k := by rw [← hD.1]; exact hr
    rw [rw_lt (R := (List.range k).map (blk k s (dataD b k s))) (by simpa using hr'), List.getElem_map, List.getElem_range, blk_data hk0 hk (by omega) hD hr']
  rw [e]
end Go.Arm
namespace Go.Arm
open Go Go.RowKit Go.Gf

theorem filter_same {p : Nat → Bool} {j : Nat} : ∀ (l : List Nat), j ∉ l → l.filter (fun x => p x && x != j) = l.filter p
  | [], _ => rfl
  | x :: l, h => by
    have hx : x ≠ j := fun e => h (by rw [e]; exact List.mem_cons_self ..)
    have ih := filter_same (p := p) l (fun e => h (List.mem_cons_of_mem _ e))
    have e : (p x && x != j) = p x := by simp [hx]
    simp only [List.filter_cons, e, ih]
theorem filter_but {p : Nat → Bool} {j : Nat} : ∀ (l : List Nat), l.Nodup → (l.filter p).length ≤ (l.filter (fun x => p x && x != j)).length + 1
  | [], _ => by simp
  | x :: l, h => by
    have h1 := (List.nodup_cons.1 h).1
    have h2 := (List.nodup_cons.1 h).2
    by_cases e : x = j
    · subst e
      have e2 : (p x && x != x) = false := by simp
      rw [List.filter_cons (p := fun y => p y && y != x), e2, filter_same l h1, List.filter_cons]
      split <;> simp
    · have ih := filter_but (p := p) (j := j) l h2
      have e2 : (p x && x != j) = p x := by simp [e]
      rw [List.filter_cons (p := fun y => p y && y != j), e2, List.filter_cons]
      split
      · simp only [List.length_cons]; omega
      · exact ih
theorem isT_set {t : List Bool} {j x : Nat} {v : Bool} (h : j < t.length) : isT (t.set j v) x = if x = j then v else isT t x := by
  unfold isT
  rw [List.getD_eq_getElem?_getD, List.getElem?_set]
  by_cases e : j = x
  · subst e; simp [h]
  · rw [if_neg e, if_neg (fun e' => e e'.symm), List.getD_eq_getElem?_getD]
theorem pk_set {t : List Bool} {L j : Nat} (h : j < t.length) : (pk t L).length ≤ (pk (t.set j false) L).length + 1 := by
  have e : pk (t.set j false) L = (List.range L).filter (fun x => isT t x && x != j) := by
    unfold pk
    refine List.filter_congr (fun x _ => ?_)
    rw [isT_set h]
    by_cases e : x = j
    · simp [e]
    · simp [e]
  rw [e]
  exact filter_but _ List.nodup_range
end Go.Arm
namespace Go.Arm
open Go Go.RowKit Go.Gf

theorem u8_u {y : U8} (h : (Lit.int .u8 y.n).wf = true) : ∃ x : Nat, x < 256 ∧ y = u x := by
  have h1 : 0 ≤ y.n ∧ y.n < 256 := by
    have a1 : IntKind.u8.min = 0 := by decide
    have a2 : IntKind.u8.max = 255 := by decide
    simp only [Lit.wf, a1, a2, Bool.and_eq_true, decide_eq_true_eq] at h
    omega
  refine ⟨y.n.toNat, by omega, ?_⟩
  unfold u
  rw [Int.toNat_of_nonneg h1.1]
theorem bytes_u (a : List U8) (h : ∀ y ∈ a, (Lit.int .u8 y.n).wf = true) : ∃ b : Row, a = b.map u ∧ ∀ x, x ∈ b → x < 256 := by
  obtain ⟨B, h1, h2⟩ := blocks_um [a] (fun x hx y hy => h y (by simp at hx; rw [← hx]; exact hy))
  have hl : B.length = 1 := by have := congrArg List.length h1; rw [um_len] at this; simpa using this.symm
  match B, hl with
  | [r], _ =>
    refine ⟨r, ?_, fun x hx => h2 0 (by simp) x hx⟩
    have h3 : [a] = [r.map u] := h1
    exact List.cons.inj h3 |>.1
/-- The codeword of some bytes. -/
noncomputable def codeD (b : Row) (k m : Nat) : Mx := (List.range (k + m)).map (blk k (szD b k) (dataD b k (szD b k)))
theorem codeD_len (b : Row) (k m : Nat) : (codeD b k m).length = k + m := by simp [codeD]
theorem codeD_rw {b : Row} {k m j : Nat} (h : j < k + m) : rw_ (codeD b k m) j = blk k (szD b k) (dataD b k (szD b k)) j := by
  unfold codeD
  rw [rw_lt (by simpa using h), List.getElem_map, List.getElem_range]
theorem code_ok {N p q : Nat} {b : Row} (hb : b.length ≤ 2000) (hby : ∀ x, x ∈ b → x < 256) (hp : p < 256) (hq : q < 256) (hN : 70000 < N) :
    law14_code N (b.map u) (u p) (u q) = some (um (codeD b (1 + p % 16) (q % 17)), ((1 + p % 16 : Nat) : Int), ((q % 17 : Nat) : Int), true) := by
  have e1 : Int.tmod (u p).n 16 = ((p % 16 : Nat) : Int) := tmod_nat p 16
  have e2 : Int.tmod (u q).n 17 = ((q % 17 : Nat) : Int) := tmod_nat q 17
  have e3 : (1 : Int) + ((p % 16 : Nat) : Int) = ((1 + p % 16 : Nat) : Int) := by omega
  have e4 : ((1 + p % 16 : Nat) : Int) + ((q % 17 : Nat) : Int) = ((1 + p % 16 + q % 17 : Nat) : Int) := by omega
  have dv := divide_ok (N := N) (k := 1 + p % 16) (m := q % 17) (b := b) (by omega) (by omega) (by omega) hb hby hN
  have e5 : ((um (codeD b (1 + p % 16) (q % 17))).length : Int) = ((1 + p % 16 + q % 17 : Nat) : Int) := by rw [um_len, codeD_len]
  unfold law14_code
  rw [e1, e2, e3, dv, e4, chk, if_pos (show inR (u p).n by rw [u_n]; unfold inR; omega), chk, if_pos (by decide), chk, if_pos (show inR ((1 + p % 16 : Nat) : Int) by unfold inR; omega), chk, if_pos (show inR (u q).n by rw [u_n]; unfold inR; omega), chk, if_pos (by decide), Option.bind_some]
  dsimp only
  rw [if_pos (decide_eq_true rfl), chk, if_pos (show inR ((1 + p % 16 + q % 17 : Nat) : Int) by unfold inR; omega)]
  have e6 : decide ((((um ((List.range (1 + p % 16 + q % 17)).map (blk (1 + p % 16) (szD b (1 + p % 16)) (dataD b (1 + p % 16) (szD b (1 + p % 16)))))).length : Nat) : Int) = ((1 + p % 16 + q % 17 : Nat) : Int)) = true := decide_eq_true e5
  rw [e6]
  rfl
end Go.Arm
namespace Go.Arm
open Go Go.RowKit Go.Gf

theorem swp_back {k s p c : Nat} {D R L : Mx} (h : Sat k s D (swp R p c) (swp L p c)) (hR : R.length = k) (hL : L.length = k) (hp : p < k) (hc : c < k) : Sat k s D R L := by
  have e : ∀ (X : Mx), X.length = k → ∀ r, rw_ (swp X p c) r = if r = p then rw_ X c else if r = c then rw_ X p else rw_ X r := fun X hX r => rw_swp (by omega) (by omega)
  intro r hr j hj
  by_cases h1 : r = p
  · have h2 := h c hc j hj
    rw [en_def, e R hR, e L hL] at h2
    subst h1
    by_cases h3 : c = r
    · subst h3; rw [if_pos rfl, if_pos rfl] at h2; exact h2
    · rw [if_neg h3, if_neg h3, if_pos rfl, if_pos rfl] at h2; exact h2
  · by_cases h3 : r = c
    · have h2 := h p hp j hj
      rw [en_def, e R hR, e L hL, if_pos rfl, if_pos rfl] at h2
      subst h3; exact h2
    · have h2 := h r hr j hj
      rw [en_def, e R hR, e L hL, if_neg h1, if_neg h3, if_neg h1, if_neg h3] at h2; exact h2
theorem dot_lt (k : Nat) (row : Row) (v : Nat → Nat) : dot k row v < 256 := lsum_lt _ (fun _ _ => gm_lt _ _)
theorem scl_back {k s c f : Nat} {D R L : Mx} (h : Sat k s D (R.set c (scl f (rw_ R c))) (L.set c (scl f (rw_ L c)))) (hR : R.length = k) (hL : Shape k s L) (hc : c < k) (hf : f < 256) (h0 : f ≠ 0) : Sat k s D R L := by
  intro r hr j hj
  have h2 := h r hr j hj
  rw [en_def, rw_set (by omega), rw_set (by rw [hL.1]; exact hc)] at h2
  by_cases e : r = c
  · subst e
    rw [if_pos rfl, if_pos rfl, scl_getD, dot_scl hf, gm_comm _ f] at h2
    exact gm_cancel hf h0 (dot_lt _ _ _) (hL.en_lt hr j) h2
  · rw [if_neg e, if_neg e] at h2; exact h2
theorem xor_right {a b x : Nat} (h : a ^^^ x = b ^^^ x) : a = b := by
  have := congrArg (· ^^^ x) h
  simpa [Nat.xor_assoc] using this
theorem axpy_back {k s c q f : Nat} {D R L : Mx} (h : Sat k s D (R.set q (axpy f (rw_ R c) (rw_ R q))) (L.set q (axpy f (rw_ L c) (rw_ L q)))) (hD : Shape k s D) (hR : Shape k k R) (hL : Shape k s L) (hc : c < k) (hq : q < k) (hqc : q ≠ c) (hf : f < 256) : Sat k s D R L := by
  have e : ∀ (X : Mx) (r : Nat) (y : Row), X.length = k → rw_ (X.set q y) r = if r = q then y else rw_ X r := fun X r y hX => rw_set (by omega)
  have hcc : ∀ j, j < s → dot k (rw_ R c) (fun i => en D i j) = en L c j := fun j hj => by
    have h2 := h c hc j hj
    rw [en_def, e R c _ hR.1, e L c _ hL.1, if_neg (fun x => hqc x.symm), if_neg (fun x => hqc x.symm)] at h2
    exact h2
  intro r hr j hj
  have h2 := h r hr j hj
  rw [en_def, e R r _ hR.1, e L r _ hL.1] at h2
  by_cases e1 : r = q
  · subst e1
    rw [if_pos rfl, if_pos rfl, axpy_getD (by rw [(hL.2 r hr).1, (hL.2 c hc).1]), dot_axpy hf (by rw [(hR.2 r hr).1, (hR.2 c hc).1]) (hR.2 r hr).2 _ (fun i hi => hD.en_lt hi j), hcc j hj, gm_comm] at h2
    exact xor_right h2
  · rw [if_neg e1, if_neg e1] at h2; exact h2
theorem elim_back {k s c : Nat} {D : Mx} (hD : Shape k s D) (hc : c < k) : ∀ (n r : Nat) (R L : Mx), r + n = k → Shape k k R → Shape k s L → Sat k s D (elimS c n r R L).1 (elimS c n r R L).2 → Sat k s D R L
  | 0, r, R, L, _, _, _, h => h
  | n + 1, r, R, L, hn, hR, hL, h => by
    unfold elimS at h
    by_cases e : r = c
    · rw [if_pos e] at h
      exact elim_back hD hc n (r + 1) R L (by omega) hR hL h
    · rw [if_neg e] at h
      have hr : r < k := by omega
      exact axpy_back (elim_back hD hc n (r + 1) _ _ (by omega) (hR.set hr (hR.axpy_ok hr hc).1 (hR.axpy_ok hr hc).2) (hL.set hr (hL.axpy_ok hr hc).1 (hL.axpy_ok hr hc).2) h) hD hR hL hc hr e (hR.en_lt hr c)
theorem step_back {k s c : Nat} {D R L : Mx} (hD : Shape k s D) (hI : Inv k s c R L) (hc : c < k) (h : Sat k s D (stepS k c R L).1 (stepS k c R L).2) : Sat k s D R L := by
  obtain ⟨p1, p2, p3, _⟩ := step_pivot hI hc
  obtain ⟨hne, hE⟩ := step_start hI hc p1 p2 p3
  unfold stepS at h
  have h1 := elim_back hD hc k 0 _ _ (by omega) hE.sR hE.sL h
  exact swp_back (scl_back h1 (by rw [len_swp]; exact hI.sR.1) (hI.sL.swp p2 hc) hc (ginv_lt _) (ginv_ne _)) hI.sR.1 hI.sL.1 p2 hc
theorem solve_back {k s : Nat} : ∀ (n c : Nat) (R L : Mx), c + n = k → Inv k s c R L → Shape k s (solveS k n c R L) ∧ Sat k s (solveS k n c R L) R L
  | 0, c, R, L, hn, hI => by
    obtain rfl : c = k := by omega
    rw [solveS]
    exact ⟨hI.sL, fun r hr j hj => dot_unit hr (hI.sL.en_lt hr j) (fun q hq => hI.unit r hr q hq)⟩
  | n + 1, c, R, L, hn, hI => by
    rw [solveS]
    obtain ⟨h1, h2⟩ := solve_back n (c + 1) _ _ (by omega) (step_ok hI (by omega))
    exact ⟨h1, step_back h1 hI (by omega) h2⟩
/-- What is found has the known blocks. -/
theorem dataS_sat {k s : Nat} {ws : List Nat} {K : Mx} (hk0 : 1 ≤ k) (hk : k ≤ 16) (hs : s ≤ 70000) (hl : ws.length = k) (nd : ws.Nodup) (hb : ∀ w, w ∈ ws → w < k + 16) (hK : Shape k s K) :
    ∀ r (h : r < ws.length), blk k s (dataS k ws K) ws[r] = rw_ K r := by
  obtain ⟨h1, h2⟩ := solve_back (k := k) (s := s) k 0 (matS k ws) K (by omega) ⟨shape_mat hl, hK, ker_init hk hl nd hb, fun r _ j hj => by omega⟩
  intro r hr
  have hbl := blk_ok (w := ws[r]) hk hs h1 hk0
  refine ext_getD (by show (blk k s (solveS k k 0 (matS k ws) K) ws[r]).length = _; rw [hbl.1, (hK.2 r (by omega)).1]) (fun j hj => ?_)
  have hj' : j < s := by rw [← hbl.1]; exact hj
  have h3 := h2 r (by omega) j hj'
  rw [rw_map hr] at h3
  have h4 := blk_getD (w := ws[r]) (j := j) h1
  exact h4.trans h3
/-- As many blocks as are needed: they are always a codeword's. -/
theorem repair_exact {N k s : Nat} {B : Mx} {t : List Bool} (h : Enough k s B t) (he : (pk t B.length).length = k) (hN : 70000 < N) : ∃ r, check_Repair N (um B) t (k : Int) = some (r, 0) := by
  obtain ⟨D, hD, e, o⟩ := repair_two h hN
  rcases o with ⟨_, j, j1, j2, j3⟩ | ⟨o, _⟩
  · exfalso
    apply j3
    have hhi := h.hi
    have hs6 := h.s6
    have Wn : (pk t B.length).Nodup := pk_nodup t B.length
    have Wl : ∀ w, w ∈ pk t B.length → w < B.length := fun w hw => pk_lt hw
    have wT : ∀ w, w ∈ pk t B.length → isT t w = true := fun w hw => (List.mem_filter.1 hw).2
    have jm : j ∈ pk t B.length := List.mem_filter.2 ⟨List.mem_range.2 j1, j2⟩
    rw [List.take_of_length_le (by omega), List.take_of_length_le (by rw [sel_len]; omega)] at e
    generalize pk t B.length = W at *
    have hK : Shape k s (sel B W) := ⟨by rw [sel_len]; exact he, fun r hr => by
      rw [rw_sel (by omega)]; exact h.row _ (Wl _ (List.getElem_mem (by omega))) (wT _ (List.getElem_mem (by omega)))⟩
    obtain ⟨r, hr, rfl⟩ := List.getElem_of_mem jm
    have := dataS_sat h.k0 h.k16 (by omega) he Wn (fun w hw => by have := Wl w hw; omega) hK r hr
    rw [e, this, rw_sel hr]
  · exact ⟨_, o⟩
/-- A block that is not the codeword's is noticed. -/
theorem not_code {N k s I : Nat} {B D : Mx} {t : List Bool} (h : Enough k s B t) (hD : Shape k s D) (hB : ∀ j, j < B.length → j ≠ I → rw_ B j = blk k s D j) (hI : I < B.length) (hIt : isT t I = true) (hne : rw_ B I ≠ blk k s D I)
    (hw : k ≤ ((pk t B.length).filter (fun x => true && x != I)).length) (hN : 70000 < N) : check_Repair N (um B) t (k : Int) = some ([], 20) := by
  obtain ⟨D', hD', _, o⟩ := repair_two h hN
  rcases o with ⟨o, _⟩ | ⟨_, hall⟩
  · exact o
  · exfalso
    have hs6 := h.s6
    have hhi := h.hi
    have mem : ∀ w, w ∈ (((pk t B.length).filter (fun x => true && x != I)).take k) → w < B.length ∧ isT t w = true ∧ w ≠ I := fun w hw => by
      have h1 := List.mem_of_mem_take hw
      obtain ⟨h2, h3⟩ := List.mem_filter.1 h1
      exact ⟨pk_lt h2, (List.mem_filter.1 h2).2, by simpa using h3⟩
    have e : D' = D := data_one (ws := ((pk t B.length).filter (fun x => true && x != I)).take k) h.k0 h.k16 (by omega) (by rw [List.length_take]; omega) (((pk_nodup t B.length).filter _).sublist (List.take_sublist _ _)) (fun w hw => by have := (mem w hw).1; omega) hD' hD (fun w hw => by
      obtain ⟨h1, h2, h3⟩ := mem w hw
      rw [← hall w h1 h2, hB w h1 h3])
    apply hne
    rw [hall I hI hIt, e]
theorem repeat_c (k : Nat) : ∀ n : Nat, n ≤ 33 → slices_Repeat_Lbool_bool (k + 40) [true] (n : Int) = some (List.replicate n true)
  | 0, _ => by kernel_rfl
  | 1, _ => by kernel_rfl
  | 2, _ => by kernel_rfl
  | 3, _ => by kernel_rfl
  | 4, _ => by kernel_rfl
  | 5, _ => by kernel_rfl
  | 6, _ => by kernel_rfl
  | 7, _ => by kernel_rfl
  | 8, _ => by kernel_rfl
  | 9, _ => by kernel_rfl
  | 10, _ => by kernel_rfl
  | 11, _ => by kernel_rfl
  | 12, _ => by kernel_rfl
  | 13, _ => by kernel_rfl
  | 14, _ => by kernel_rfl
  | 15, _ => by kernel_rfl
  | 16, _ => by kernel_rfl
  | 17, _ => by kernel_rfl
  | 18, _ => by kernel_rfl
  | 19, _ => by kernel_rfl
  | 20, _ => by kernel_rfl
  | 21, _ => by kernel_rfl
  | 22, _ => by kernel_rfl
  | 23, _ => by kernel_rfl
  | 24, _ => by kernel_rfl
  | 25, _ => by kernel_rfl
  | 26, _ => by kernel_rfl
  | 27, _ => by kernel_rfl
  | 28, _ => by kernel_rfl
  | 29, _ => by kernel_rfl
  | 30, _ => by kernel_rfl
  | 31, _ => by kernel_rfl
  | 32, _ => by kernel_rfl
  | 33, _ => by kernel_rfl
  | n + 34, h => by omega
theorem repeat_b {N : Nat} (hN : 100 < N) : ∀ n : Nat, n ≤ 33 → slices_Repeat_Lbool_bool N [true] (n : Int) = some (List.replicate n true) := by
  obtain ⟨k, rfl⟩ : ∃ k, N = k + 40 := ⟨N - 40, by omega⟩
  exact repeat_c k
theorem set_back' {L i : Nat} : ((List.replicate L true).set i false).set i true = List.replicate L true := by
  apply List.ext_getElem (by simp)
  intro j h1 h2
  rw [List.getElem_set]
  by_cases e : i = j
  · simp [e]
  · rw [if_neg e, List.getElem_set, if_neg e]
theorem found_l {N : Nat} {B : Mx} {k : Int} {ok : Nat → Bool} (hB : B.length ≤ 40) (hrep : ∀ q, q < B.length → ∃ r, check_Repair N (um B) ((List.replicate B.length true).set q false) k = some r ∧ (r.2 = 0 ↔ ok q = true)) : ∀ (n i : Nat) (xs : List Int), B.length < i + n → i ≤ B.length → xs.length ≤ i →
    check_Blame_l1 N (um B) k n xs (i : Int) (List.replicate B.length true) = some (xs ++ ((List.range' i (B.length - i)).filter ok).map (fun j : Nat => (j : Int)))
  | 0, i, xs, h1, h2, _ => by omega
  | n + 1, i, xs, h1, h2, hx => by
    have hmax := maxLen_big
    rw [check_Blame_l1.eq_2]
    by_cases hi : i < B.length
    · have c1 : decide ((i : Int) < ((um B).length : Int)) = true := by rw [um_len]; simp; exact hi
      have hin : inR ((i : Int) + 1) := by unfold inR; omega
      obtain ⟨r, r1, r2⟩ := hrep i hi
      have t1 : idx (List.replicate B.length true) (i : Int) = some true := by rw [idx_n (by simpa using hi)]; simp
      have t2 : idx ((List.replicate B.length true).set i false) (i : Int) = some false := by rw [idx_n (by simpa using hi)]; simp
      have e : B.length - i = (B.length - (i + 1)) + 1 := by omega
      rw [if_pos c1, t1, Option.bind_some, Int.toNat_natCast, r1, Option.bind_some, t2, set_back', e, List.range'_succ]
      by_cases h0 : r.2 = 0
      · rw [if_pos (decide_eq_true h0), chk, if_pos ⟨by simp only [List.length_singleton]; omega, by simp only [List.length_singleton]; omega⟩, Option.bind_some, chk, if_pos hin, List.filter_cons, if_pos (r2.1 h0)]
        have ih := found_l hB hrep n (i + 1) (xs ++ [(i : Int)]) (by omega) (by omega) (by simp; omega)
        refine ih.trans ?_
        simp
      · have c3 : ¬ (decide (r.2 = 0) = true) := by simpa using h0
        rw [if_neg c3, Option.bind_some, chk, if_pos hin, List.filter_cons, if_neg (fun h => h0 (r2.2 h))]
        exact found_l hB hrep n (i + 1) xs (by omega) (by omega) (by omega)
    · have c1 : ¬ (decide ((i : Int) < ((um B).length : Int)) = true) := by rw [um_len]; simp; omega
      have e : B.length - i = 0 := by omega
      rw [if_neg c1, e]
      simp
theorem blame_good {N : Nat} {B : Mx} {k : Int} {r : List (List U8)} (hB : B.length ≤ 32) (h : check_Repair N (um B) (List.replicate B.length true) k = some (r, 0)) (hN : 100 < N) : check_Blame N (um B) k = some (-1, 0) := by
  unfold check_Blame
  have hmin : min ((um B).length : Int) 33 = ((B.length : Nat) : Int) := by rw [um_len]; omega
  rw [hmin, repeat_b hN _ (by omega), Option.bind_some, h, Option.bind_some, if_pos (by simp), if_neg (by simp)]
theorem blame_bad {N : Nat} {B : Mx} {k : Int} {r : List (List U8)} {ok : Nat → Bool} (hB : B.length ≤ 32) (h : check_Repair N (um B) (List.replicate B.length true) k = some (r, 20)) (hrep : ∀ q, q < B.length → ∃ r, check_Repair N (um B) ((List.replicate B.length true).set q false) k = some r ∧ (r.2 = 0 ↔ ok q = true)) (hN : 100 < N) :
    check_Blame N (um B) k = (if ((List.range B.length).filter ok).length = 1 then Option.bind (idx (((List.range B.length).filter ok).map (fun j : Nat => (j : Int))) 0) fun y => some (y, 0) else some (0, 20)) := by
  have fl : check_Blame_l1 N (um B) k N [] 0 (List.replicate B.length true) = _ := found_l (ok := ok) (by omega) hrep N 0 [] (by omega) (by omega) (by simp)
  unfold check_Blame
  have hmin : min ((um B).length : Int) 33 = ((B.length : Nat) : Int) := by rw [um_len]; omega
  rw [hmin, repeat_b hN _ (by omega), Option.bind_some, h, Option.bind_some, if_neg (by simp), fl, Option.bind_some, Nat.sub_zero, ← List.range_eq_range', List.nil_append]
  dsimp only
  rw [List.length_map]
  by_cases h1 : ((List.range B.length).filter ok).length = 1
  · rw [if_pos h1, h1, if_neg (by simp)]
  · rw [if_neg h1, if_pos (by simp only [Bool.not_eq_true', decide_eq_false_iff_not]; omega)]
end Go.Arm
namespace Go.Arm
open Go Go.RowKit Go.Gf

theorem isT_rep {L j : Nat} (h : j < L) : isT (List.replicate L true) j = true := by
  unfold isT
  rw [List.getD_eq_getElem?_getD, List.getElem?_replicate, if_pos h]; rfl
theorem pk_rep (L : Nat) : pk (List.replicate L true) L = List.range L := by
  unfold pk
  rw [List.filter_eq_self]
  intro x hx
  exact isT_rep (List.mem_range.1 hx)
theorem pk_but {L q : Nat} (h : q < L) : L ≤ (pk ((List.replicate L true).set q false) L).length + 1 ∧ (pk ((List.replicate L true).set q false) L).length < L := by
  have h1 := pk_set (L := L) (t := List.replicate L true) (j := q) (by simpa using h)
  rw [pk_rep, List.length_range] at h1
  refine ⟨h1, ?_⟩
  have h2 : ((List.range L).filter (isT ((List.replicate L true).set q false))).length < (List.range L).length := by
    rw [List.length_filter_lt_length_iff_exists]
    exact ⟨q, List.mem_range.2 h, by rw [isT_set (by simpa using h), if_pos rfl]; simp⟩
  rwa [List.length_range] at h2
theorem filter_ne (l : List Nat) (I : Nat) (nd : l.Nodup) : l.length ≤ (l.filter (fun x => true && x != I)).length + 1 := by
  have h := filter_but (p := fun _ => true) (j := I) l nd
  have e : l.filter (fun _ => true) = l := List.filter_eq_self.2 (fun _ _ => rfl)
  rw [e] at h
  exact h
/-- One block of a codeword is another. -/
theorem blame_one {N k m s I : Nat} {C B D : Mx} (hk0 : 1 ≤ k) (hk : k ≤ 16) (hm : m ≤ 16) (hs : s ≤ 65536) (hD : Shape k s D) (hI : I < k + m) (hBs : Shape (k + m) s B) (hC : ∀ j, j < k + m → rw_ C j = blk k s D j) (hBC : ∀ j, j < k + m → j ≠ I → rw_ B j = rw_ C j) (hne : rw_ B I ≠ rw_ C I) (hN : 70000 < N) :
    check_Blame N (um B) (k : Int) = some (if m = 0 then (-1, 0) else if m = 1 then (0, 20) else ((I : Int), 0)) := by
  have lB : B.length = k + m := hBs.1
  have EA : Enough k s B (List.replicate B.length true) := ⟨hk0, hk, hs, by omega, by omega, by simp, fun i hi _ => hBs.2 i (by omega), by rw [pk_rep, List.length_range]; omega⟩
  have hB : ∀ j, j < B.length → j ≠ I → rw_ B j = blk k s D j := fun j hj hji => by rw [hBC j (by omega) hji, hC j (by omega)]
  have hneD : rw_ B I ≠ blk k s D I := by rw [← hC I hI]; exact hne
  by_cases h0 : m = 0
  · subst h0
    have hBk : Shape k s B := hBs
    have rep := repair_code (N := N) EA hBk (fun i hi _ => (blk_data hk0 hk (by omega) hBk (by omega)).symm) hN
    rw [if_pos rfl]
    exact blame_good (by omega) rep (by omega)
  rw [if_neg h0]
  have bad := not_code (N := N) EA hD hB (by omega) (isT_rep (by omega)) hneD (by rw [pk_rep]; have := filter_ne (List.range B.length) I List.nodup_range; rw [List.length_range] at this; omega) hN
  have EQ : ∀ q, q < B.length → Enough k s B ((List.replicate B.length true).set q false) := fun q hq => ⟨hk0, hk, hs, by omega, by omega, by simp, fun i hi _ => hBs.2 i (by omega), by have := (pk_but hq).1; omega⟩
  by_cases h1 : m = 1
  · rw [if_pos h1]
    have hrep : ∀ q, q < B.length → ∃ r, check_Repair N (um B) ((List.replicate B.length true).set q false) (k : Int) = some r ∧ (r.2 = 0 ↔ (fun _ => true) q = true) := fun q hq => by
      obtain ⟨r, hr⟩ := repair_exact (N := N) (EQ q hq) (by have := pk_but hq; omega) hN
      exact ⟨_, hr, by simp⟩
    rw [blame_bad (by omega) bad hrep (by omega)]
    have e : (List.range B.length).filter (fun _ => true) = List.range B.length := List.filter_eq_self.2 (fun _ _ => rfl)
    rw [e, List.length_range, if_neg (by omega)]
  · rw [if_neg h1]
    have hrep : ∀ q, q < B.length → ∃ r, check_Repair N (um B) ((List.replicate B.length true).set q false) (k : Int) = some r ∧ (r.2 = 0 ↔ (fun x => decide (x = I)) q = true) := fun q hq => by
      by_cases hqI : q = I
      · subst hqI
        have rep := repair_code (N := N) (EQ q hq) hD (fun i hi hp => hB i hi (fun e => by rw [e, isT_set (by simpa using hq), if_pos rfl] at hp; cases hp)) hN
        exact ⟨_, rep, by simp⟩
      · have hIt : isT ((List.replicate B.length true).set q false) I = true := by
          rw [isT_set (by simpa using hq), if_neg (fun e => hqI e.symm)]; exact isT_rep (by omega)
        have b := not_code (N := N) (EQ q hq) hD hB (by omega) hIt hneD (by have h2 := filter_ne _ I (pk_nodup ((List.replicate B.length true).set q false) B.length); have := (pk_but hq).1; omega) hN
        exact ⟨_, b, by simp [hqI]⟩
    rw [blame_bad (by omega) bad hrep (by omega)]
    have e : (List.range B.length).filter (fun x => decide (x = I)) = [I] := by
      have hr : List.range B.length = List.range I ++ I :: List.range' (I + 1) (B.length - I - 1) := by
        rw [List.range_eq_range', List.range_eq_range', ← List.range'_succ]
        have := @List.range'_append_1 0 I (B.length - I - 1 + 1)
        rw [Nat.zero_add] at this
        rw [this]; congr 1; omega
      rw [hr, List.filter_append, List.filter_cons, if_pos (by simp)]
      have f1 : (List.range I).filter (fun x => decide (x = I)) = [] := by
        rw [List.filter_eq_nil_iff]; intro x hx; have := List.mem_range.1 hx; simp; omega
      have f2 : (List.range' (I + 1) (B.length - I - 1)).filter (fun x => decide (x = I)) = [] := by
        rw [List.filter_eq_nil_iff]; intro x hx; have := (List.mem_range'_1.1 hx).1; simp; omega
      rw [f1, f2]; rfl
    rw [e, if_pos (show [I].length = 1 from rfl)]
    rfl
theorem fin_law {N p q p3 p4 e : Nat} {b : Row} (hb : b.length ≤ 300) (hby : ∀ x, x ∈ b → x < 256) (hp : p < 256) (hq : q < 256) (hp3 : p3 < 256) (hp4 : p4 < 256) (he : e < 256) (hN : 70000 < N) :
    law14_CheckFinds N (b.map u) (u p) (u q) (u p3) (u p4) (u e) = some true := by
  have hmax := maxLen_big
  have hcode := code_ok (N := N) (b := b) (p := p) (q := q) (by omega) hby hp hq hN
  have hk0 : 1 ≤ 1 + p % 16 := by omega
  have hk : 1 + p % 16 ≤ 16 := by omega
  have hm : q % 17 ≤ 16 := by omega
  generalize 1 + p % 16 = k at *
  generalize q % 17 = m at *
  obtain ⟨z1, z2, z3, z4⟩ := sz_spec (b := b) hk0
  have hD := dataD_shape (k := k) z1 hby
  have hs : szD b k ≤ 65536 := by omega
  have lC := codeD_len b k m
  have hC : Shape (k + m) (szD b k) (codeD b k m) := blks_ok hk (by omega) hD hk0
  have rwC := fun j (h : j < k + m) => codeD_rw (b := b) h
  generalize hs' : szD b k = s at *
  generalize hC' : codeD b k m = C at *
  have hw : law14_works N = some true := rfl
  have EC : Enough k s C (List.replicate C.length true) := ⟨hk0, hk, hs, by omega, by omega, by simp, fun i hi _ => hC.2 i (by omega), by rw [pk_rep, List.length_range]; omega⟩
  have rep := repair_code (N := N) EC hD (fun i hi _ => rwC i (by omega)) hN
  have bg := blame_good (N := N) (by omega) rep (by omega)
  have hI : p3 % (k + m) < k + m := Nat.mod_lt _ (by omega)
  have eI : Int.tmod (u p3).n ((um C).length : Int) = ((p3 % (k + m) : Nat) : Int) := by rw [um_len, lC]; exact tmod_nat _ _
  generalize p3 % (k + m) = I at *
  have hCI := hC.2 I hI
  have hJ : p4 % s < s := Nat.mod_lt _ (by omega)
  have eJ : Int.tmod (u p4).n ((([] : List U8) ++ (rw_ C I).map u).length : Int) = ((p4 % s : Nat) : Int) := by rw [List.nil_append, List.length_map, hCI.1]; exact tmod_nat _ _
  generalize p4 % s = J at *
  unfold law14_CheckFinds
  rw [if_neg (show ¬ (decide ((300 : Int) < ((b.map u).length : Int)) = true) by rw [List.length_map]; simp; omega), hcode, Option.bind_some]
  dsimp only
  rw [if_neg (by simp), bg, Option.bind_some]
  rw [if_neg (by simp), Option.bind_some]
  dsimp only
  rw [if_neg (by simp), eI, idx_um (by omega), chk, if_pos (show inR (u p3).n by rw [u_n]; unfold inR; omega), chk, if_pos (by rw [um_len, lC]; omega), Option.bind_some, eJ, chk, if_pos ⟨by simp only [List.length_nil, List.length_map, hCI.1]; omega, by simp only [List.length_nil, List.length_map, hCI.1]; omega⟩,
    if_neg (by rw [List.nil_append, List.length_map, hCI.1]; simp; omega)]
  by_cases he0 : e = 0
  · subst he0
    rw [if_pos (show decide ((u 0).n = 0) = true from rfl), hw]; rfl
  have c5 : ¬ (decide ((u e).n = 0) = true) := by
    have : (u e).n = (e : Int) := rfl
    rw [this]; simp; omega
  rw [if_neg c5, chk, if_pos (show inR (u p4).n by rw [u_n]; unfold inR; omega), chk, if_pos (by rw [List.nil_append, List.length_map, hCI.1]; omega), List.nil_append, idx_u (by omega), Option.bind_some]
  have hold : (rw_ C I).getD J 0 < 256 := getD_lt hCI.2 J
  have ex : (⟨xorK .u8 (u ((rw_ C I).getD J 0)).n (u e).n⟩ : U8) = u ((rw_ C I).getD J 0 ^^^ e) := by rw [u_n, u_n, xorK_u8 hold he]; rfl
  rw [ex, Int.toNat_natCast, Int.toNat_natCast, u_set, um_set]
  have hBs : Shape (k + m) s (C.set I ((rw_ C I).set J ((rw_ C I).getD J 0 ^^^ e))) := hC.set hI (by simp; exact hCI.1) (fun y hy => by
    rcases List.mem_or_eq_of_mem_set hy with h | h
    · exact hCI.2 y h
    · rw [h]; exact xor_lt hold he)
  have bo := blame_one (N := N) (C := C) (B := C.set I ((rw_ C I).set J ((rw_ C I).getD J 0 ^^^ e))) hk0 hk hm hs hD hI hBs rwC (fun j hj hji => by rw [rw_set (by omega), if_neg hji]) (by
    rw [rw_set (by omega), if_pos rfl]
    intro h
    have h2 : ((rw_ C I).set J ((rw_ C I).getD J 0 ^^^ e)).getD J 0 = (rw_ C I).getD J 0 := congrArg (fun l : Row => l.getD J 0) h
    rw [getD_set (by omega), if_pos rfl] at h2
    have h3 := congrArg (fun x => (rw_ C I).getD J 0 ^^^ x) h2
    simp only [← Nat.xor_assoc, Nat.xor_self, Nat.zero_xor] at h3
    exact he0 h3) hN
  by_cases h0 : m = 0
  · rw [if_pos h0] at bo
    rw [bo, Option.bind_some, if_pos (show decide ((m : Int) = 0) = true by simp; exact h0), if_pos (show decide ((-1, 0).1 = (-1 : Int)) = true from rfl), if_pos (show decide (((-1 : Int), (0 : Int)).2 = 0) = true from rfl), hw]
    rfl
  · rw [if_neg h0] at bo
    by_cases h1 : m = 1
    · rw [if_pos h1] at bo
      rw [bo, Option.bind_some, if_neg (show ¬ (decide ((m : Int) = 0) = true) by simp; omega), if_pos (show decide ((m : Int) = 1) = true by simp; omega), if_pos (show decide (((0 : Int), (20 : Int)).1 = 0) = true from rfl), if_pos (show decide (((0 : Int), (20 : Int)).2 = 20) = true from rfl), hw]
      rfl
    · rw [if_neg h1] at bo
      rw [bo, Option.bind_some, if_neg (show ¬ (decide ((m : Int) = 0) = true) by simp; omega), if_neg (show ¬ (decide ((m : Int) = 1) = true) by simp; omega), Option.bind_some]
      dsimp only
      rw [if_pos (decide_eq_true rfl), if_pos (decide_eq_true rfl), hw]
      rfl
theorem lawN (a0 : List U8) (h0 : a0.length ≤ maxLen ∧ ∀ x ∈ a0, (Lit.int .u8 x.n).wf = true) (a1 a2 a3 a4 a5 : U8)
    (h1 : (Lit.int .u8 a1.n).wf = true) (h2 : (Lit.int .u8 a2.n).wf = true) (h3 : (Lit.int .u8 a3.n).wf = true) (h4 : (Lit.int .u8 a4.n).wf = true) (h5 : (Lit.int .u8 a5.n).wf = true) : ∃ N, law14_CheckFinds N a0 a1 a2 a3 a4 a5 = some true := by
  refine ⟨70001, ?_⟩
  generalize hN' : (70001 : Nat) = N
  have hN : 70000 < N := by omega
  clear hN'
  by_cases hl : 300 < a0.length
  · have hw : law14_works N = some true := rfl
    unfold law14_CheckFinds
    rw [if_pos (by simp; omega), hw]; rfl
  · obtain ⟨b, rfl, hby⟩ := bytes_u a0 h0.2
    obtain ⟨p, hp, rfl⟩ := u8_u h1
    obtain ⟨q, hq, rfl⟩ := u8_u h2
    obtain ⟨p3, hp3, rfl⟩ := u8_u h3
    obtain ⟨p4, hp4, rfl⟩ := u8_u h4
    obtain ⟨e, he, rfl⟩ := u8_u h5
    exact fin_law (by rw [List.length_map] at hl; omega) hby hp hq hp3 hp4 he hN
end Go.Arm
