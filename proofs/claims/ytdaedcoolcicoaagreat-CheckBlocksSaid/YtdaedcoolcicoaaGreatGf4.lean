/- Plain laws. -/
import Derived.Test.YtdaedcoolcicoaaGreatPure2
import Derived.Test.YtdaedcoolcicoaaGreatGf1
import Derived.Test.YtdaedcoolcicoaaGreatHandD
namespace Go.Arm
open Go Go.RowKit Go.Gf

def u (a : Nat) : U8 := ⟨(a : Int)⟩
def um (R : Mx) : List (List U8) := R.map (List.map u)
theorem idx_n {α : Type} {l : List α} {i : Nat} (h : i < l.length) : idx l (i : Int) = some l[i] := by
  unfold idx
  rw [if_pos (by omega), Int.toNat_natCast, List.getElem?_eq_getElem h]
theorem idx_u {l : Row} {i : Nat} (h : i < l.length) : idx (l.map u) (i : Int) = some (u (l.getD i 0)) := by
  rw [idx_n (by simpa using h), List.getElem_map, List.getD_eq_getElem?_getD, List.getElem?_eq_getElem h]; rfl
theorem idx_um {R : Mx} {r : Nat} (h : r < R.length) : idx (um R) (r : Int) = some ((rw_ R r).map u) := by
  unfold um
  rw [idx_n (by simpa using h), List.getElem_map, rw_lt h]
theorem um_len (R : Mx) : (um R).length = R.length := by simp [um]

theorem bv_nat (k : Nat) (a : Nat) : (BitVec.ofInt k (a : Int)).toNat = a % 2 ^ k := by simp
theorem xorK_u8 {a b : Nat} (ha : a < 256) (hb : b < 256) : xorK .u8 (a : Int) (b : Int) = ((a ^^^ b : Nat) : Int) := by
  unfold xorK
  have e1 : (BitVec.ofInt (IntKind.bits .u8) (a : Int)).toNat = a := by show (BitVec.ofInt 8 (a : Int)).toNat = a; rw [bv_nat]; exact Nat.mod_eq_of_lt ha
  have e2 : (BitVec.ofInt (IntKind.bits .u8) (b : Int)).toNat = b := by show (BitVec.ofInt 8 (b : Int)).toNat = b; rw [bv_nat]; exact Nat.mod_eq_of_lt hb
  rw [BitVec.toNat_xor, e1, e2]
  have h := xor_lt ha hb
  simp [IntKind.wrap, IntKind.bits, IntKind.signed]
  omega
theorem xorK_i64 {a b : Nat} (ha : a < 2147483648) (hb : b < 2147483648) : xorK .i64 (a : Int) (b : Int) = ((a ^^^ b : Nat) : Int) := by
  unfold xorK
  have e1 : (BitVec.ofInt (IntKind.bits .i64) (a : Int)).toNat = a := by show (BitVec.ofInt 64 (a : Int)).toNat = a; rw [bv_nat]; exact Nat.mod_eq_of_lt (by omega)
  have e2 : (BitVec.ofInt (IntKind.bits .i64) (b : Int)).toNat = b := by show (BitVec.ofInt 64 (b : Int)).toNat = b; rw [bv_nat]; exact Nat.mod_eq_of_lt (by omega)
  rw [BitVec.toNat_xor, e1, e2]
  have h : a ^^^ b < 2 ^ 31 := Nat.xor_lt_two_pow ha hb
  exact wrap_in (by unfold inR; omega)
theorem conv_u8 {a : Nat} (h : a < 256) : convK .u8 (a : Int) = (a : Int) := by
  unfold convK
  simp [IntKind.wrap, IntKind.bits, IntKind.signed]
  omega
theorem u_n (a : Nat) : (u a).n = (a : Int) := rfl

/-! The tables. -/
theorem tab_log : ((List.range 256).all fun a => a == 0 || intOf (Go.Proofs.YtdaedcoolcicoaaGreat.box50.get (510 + a)) == (lg a : Int)) = true := by kernel_rfl
theorem tab_pow : ((List.range 510).all fun k => intOf (Go.Proofs.YtdaedcoolcicoaaGreat.box50.get k) == (ex k : Int)) = true := by kernel_rfl
theorem log_at {a : Nat} (h : a < 256) (h0 : a ≠ 0) : idx fieldT.log.l (a : Int) = some (lg a : Int) := by
  have h1 := Gf.all_of tab_log h
  simp only [Bool.or_eq_true, beq_iff_eq] at h1
  unfold fieldT
  rw [idx_n (by simpa using h)]
  simp only [List.getElem_map, List.getElem_range]
  rw [h1.resolve_left h0]
theorem pow_at {k : Nat} (h : k < 510) : idx fieldT.power.l (k : Int) = some (u (ex k)) := by
  have h1 := Gf.all_of tab_pow h
  simp only [beq_iff_eq] at h1
  unfold fieldT
  rw [idx_n (by simpa using h)]
  simp only [List.getElem_map, List.getElem_range]
  rw [h1]; rfl
theorem mul_eq (N : Nat) {a b : Nat} (ha : a < 256) (hb : b < 256) : check_field_mul N fieldT (u a) (u b) = some (u (gm a b)) := by
  unfold check_field_mul
  by_cases h1 : a = 0
  · subst h1; simp [u, zero_gm]
  · by_cases h2 : b = 0
    · subst h2; simp [u, gm_zero]
    · have e1 : ¬ ((a : Int) = 0) := by omega
      have e2 : ¬ ((b : Int) = 0) := by omega
      have l1 := (ex_lg ha h1).2
      have l2 := (ex_lg hb h2).2
      simp only [e1, e2, decide_false, Bool.false_eq_true, if_false, Option.bind_some, u_n, log_at ha h1, log_at hb h2]
      rw [chk, if_pos (by unfold inR; omega), show ((lg a : Int) + (lg b : Int)) = ((lg a + lg b : Nat) : Int) by omega, pow_at (by omega)]
      rw [gm_eq h1 h2]; rfl
theorem inv_eq (N : Nat) {a : Nat} (ha : a < 256) (h0 : a ≠ 0) : check_field_inverse N fieldT (u a) = some (u (ginv a)) := by
  unfold check_field_inverse
  have l1 := (ex_lg ha h0).2
  rw [u_n, log_at ha h0]
  simp only [Option.bind_some]
  rw [chk, if_pos (by unfold inR; omega), show ((255 : Int) - (lg a : Int)) = ((255 - lg a : Nat) : Int) by omega, pow_at (by omega), ginv_is]
  rfl

/-! The reference's product. -/
def bit (b i : Nat) : Nat := if b / 2 ^ i % 2 = 1 then 1 else 0
theorem shr_bit {b i : Nat} (hi : i < 8) : Int.tmod (shrK .i64 (b : Int) (i : Int)) 2 = ((b / 2 ^ i % 2 : Nat) : Int) := by
  unfold shrK
  have e : min ((i : Int)).toNat (IntKind.bits .i64) = i := by show min ((i : Int)).toNat 64 = i; omega
  rw [e, Int.fdiv_eq_ediv_of_nonneg _ (by exact Int.pow_nonneg (by decide))]
  have e2 : (b : Int) / 2 ^ i = ((b / 2 ^ i : Nat) : Int) := by rw [Int.natCast_ediv]; norm_cast
  rw [e2, Int.tmod_eq_emod_of_nonneg (Int.natCast_nonneg _)]
  norm_cast
theorem times_step {N m : Nat} {x o b i : Nat} (hi : i < 8) (hx : x < 256) (ho : o < 256) (hb : b < 256) :
    ref14_times_l1 N (u b) (m + 1) (x : Int) (o : Int) (i : Int) = ref14_times_l1 N (u b) m (Gf.xt x : Int) ((o ^^^ gm (bit b i) x : Nat) : Int) ((i + 1 : Nat) : Int) := by
  have hxt : Gf.xt x < 256 := by rw [← two_gm hx]; exact gm_lt _ _
  have h285 : (2 * x) ^^^ 285 < 2 ^ 9 := Nat.xor_lt_two_pow (by omega) (by decide)
  rw [ref14_times_l1.eq_2]
  simp only [show ((i : Int) < 8) by omega, decide_true, if_true]
  unfold chk
  rw [if_pos (show inR (u b).n by show inR (b : Int); unfold inR; omega), if_pos (show (0 : Int) ≤ (i : Int) by omega), if_pos (show (2 : Int) ≠ 0 by decide), u_n, shr_bit hi]
  have ex2 : (x : Int) * 2 = ((2 * x : Nat) : Int) := by omega
  have hin : inR ((x : Int) * 2) := by unfold inR; omega
  have hin2 : inR ((i : Int) + 1) := by unfold inR; omega
  have exx : (if decide (255 < (x : Int) * 2) = true then (xorK .i64 ((x : Int) * 2) 285) else (x : Int) * 2) = (Gf.xt x : Int) := by
    unfold Gf.xt
    by_cases h : 2 * x < 256
    · rw [if_neg (by simp; omega), if_pos h, ex2]
    · rw [if_pos (by simp; omega), if_neg h, ex2]
      exact xorK_i64 (a := 2 * x) (b := 285) (by omega) (by decide)
  by_cases hbit : b / 2 ^ i % 2 = 1
  · have e1 : gm (bit b i) x = x := by unfold bit; rw [if_pos hbit, gm_comm, gm_one hx]
    have e2 : xorK .i64 (o : Int) (x : Int) = ((o ^^^ x : Nat) : Int) := xorK_i64 (by omega) (by omega)
    rw [if_pos (by simp [hbit]), if_pos hin, e1, if_pos hin2, e2]
    rw [← exx]
    split <;> rfl
  · have e1 : gm (bit b i) x = 0 := by unfold bit; rw [if_neg hbit, zero_gm]
    have h0 : b / 2 ^ i % 2 = 0 := by omega
    rw [if_neg (by simp [h0]), if_pos hin, e1, if_pos hin2, Nat.xor_zero]
    rw [← exx]
    split <;> rfl
theorem bits_c : ((List.range 256).all fun b => (bit b 0) ^^^ (gmC (bit b 1) 2) ^^^ (gmC (bit b 2) 4) ^^^ (gmC (bit b 3) 8) ^^^ (gmC (bit b 4) 16) ^^^ (gmC (bit b 5) 32) ^^^ (gmC (bit b 6) 64) ^^^ (gmC (bit b 7) 128) == b) = true := by kernel_rfl
theorem bit_lt (b i : Nat) : bit b i < 256 := by unfold bit; split <;> decide
theorem times_eq {N : Nat} (hN : 10 < N) {a b : Nat} (ha : a < 256) (hb : b < 256) : ref14_times N (u a) (u b) = some (u (gm a b)) := by
  unfold ref14_times
  obtain ⟨k, hk⟩ : ∃ k, N = k + 9 := ⟨N - 9, by omega⟩
  rw [chk, if_pos (show inR (u a).n by show inR (a : Int); unfold inR; omega), u_n]
  have hx : ∀ {x : Nat}, x < 256 → Gf.xt x < 256 := fun {x} h => by rw [← two_gm h]; exact gm_lt _ _
  have h0 := ha
  have h1 := hx h0
  have h2 := hx h1
  have h3 := hx h2
  have h4 := hx h3
  have h5 := hx h4
  have h6 := hx h5
  have h7 := hx h6
  have e0 : ((0 : Int)) = ((0 : Nat) : Int) := rfl
  have hl : ∀ (m : Nat) (x o : Int), ref14_times_l1 N (u b) (m + 1) x o ((8 : Nat) : Int) = some o := fun m x o => by
    rw [ref14_times_l1.eq_2]; rfl
  have key : ref14_times_l1 N (u b) N (a : Int) 0 0 = some ((gm a b : Nat) : Int) := by
    conv => lhs; arg 3; rw [hk]
    rw [e0]
    rw [times_step (i := 0) (by decide) h0 (by decide) hb, times_step (i := 1) (by decide) h1 (xor_lt (by decide) (gm_lt _ _)) hb, times_step (i := 2) (by decide) h2 (xor_lt (xor_lt (by decide) (gm_lt _ _)) (gm_lt _ _)) hb,
      times_step (i := 3) (by decide) h3 (xor_lt (xor_lt (xor_lt (by decide) (gm_lt _ _)) (gm_lt _ _)) (gm_lt _ _)) hb, times_step (i := 4) (by decide) h4 (xor_lt (xor_lt (xor_lt (xor_lt (by decide) (gm_lt _ _)) (gm_lt _ _)) (gm_lt _ _)) (gm_lt _ _)) hb,
      times_step (i := 5) (by decide) h5 (xor_lt (xor_lt (xor_lt (xor_lt (xor_lt (by decide) (gm_lt _ _)) (gm_lt _ _)) (gm_lt _ _)) (gm_lt _ _)) (gm_lt _ _)) hb,
      times_step (i := 6) (by decide) h6 (xor_lt (xor_lt (xor_lt (xor_lt (xor_lt (xor_lt (by decide) (gm_lt _ _)) (gm_lt _ _)) (gm_lt _ _)) (gm_lt _ _)) (gm_lt _ _)) (gm_lt _ _)) hb,
      times_step (i := 7) (by decide) h7 (xor_lt (xor_lt (xor_lt (xor_lt (xor_lt (xor_lt (xor_lt (by decide) (gm_lt _ _)) (gm_lt _ _)) (gm_lt _ _)) (gm_lt _ _)) (gm_lt _ _)) (gm_lt _ _)) (gm_lt _ _)) hb, hl]
    have hb1 := Gf.all_of bits_c hb
    simp only [beq_iff_eq] at hb1
    rw [← gm_is] at hb1
    congr 2
    have hxt : ∀ {x : Nat} (y : Nat), x < 256 → gm y (Gf.xt x) = gm (gm y 2) x := fun {x} y h => by rw [← two_gm h, gm_assoc]
    rw [hxt _ h0, hxt _ h1, hxt _ h0, hxt _ h2, hxt _ h1, hxt _ h0, hxt _ h3, hxt _ h2, hxt _ h1, hxt _ h0, hxt _ h4, hxt _ h3, hxt _ h2, hxt _ h1, hxt _ h0, hxt _ h5, hxt _ h4, hxt _ h3, hxt _ h2, hxt _ h1, hxt _ h0, hxt _ h6, hxt _ h5, hxt _ h4, hxt _ h3, hxt _ h2, hxt _ h1, hxt _ h0]
    have p2 : gm 2 2 = 4 := by rw [gm_is]; decide
    have p3 : gm 4 2 = 8 := by rw [gm_is]; decide
    have p4 : gm 8 2 = 16 := by rw [gm_is]; decide
    have p5 : gm 16 2 = 32 := by rw [gm_is]; decide
    have p6 : gm 32 2 = 64 := by rw [gm_is]; decide
    have p7 : gm 64 2 = 128 := by rw [gm_is]; decide
    simp only [gm_assoc _ 2 2, gm_assoc _ 4 2, gm_assoc _ 8 2, gm_assoc _ 16 2, gm_assoc _ 32 2, gm_assoc _ 64 2, p2, p3, p4, p5, p6, p7, Nat.zero_xor]
    conv => rhs; rw [gm_comm, ← hb1]
    have q0 : bit b 0 < 256 := bit_lt _ _
    have q1 := gm_lt (bit b 1) 2
    have q2 := gm_lt (bit b 2) 4
    have q3 := gm_lt (bit b 3) 8
    have q4 := gm_lt (bit b 4) 16
    have q5 := gm_lt (bit b 5) 32
    have q6 := gm_lt (bit b 6) 64
    have q7 := gm_lt (bit b 7) 128
    rw [xor_gm ha (xor_lt (xor_lt (xor_lt (xor_lt (xor_lt (xor_lt q0 q1) q2) q3) q4) q5) q6) q7, xor_gm ha (xor_lt (xor_lt (xor_lt (xor_lt (xor_lt q0 q1) q2) q3) q4) q5) q6, xor_gm ha (xor_lt (xor_lt (xor_lt (xor_lt q0 q1) q2) q3) q4) q5,
      xor_gm ha (xor_lt (xor_lt (xor_lt q0 q1) q2) q3) q4, xor_gm ha (xor_lt (xor_lt q0 q1) q2) q3, xor_gm ha (xor_lt q0 q1) q2, xor_gm ha q0 q1]
  rw [key]
  simp only [Option.bind_some, conv_u8 (gm_lt a b)]; rfl
theorem rinv_l {N : Nat} (hN : 10 < N) {a : Nat} (ha : a < 256) (h0 : a ≠ 0) : ∀ (m i : Nat), 1 ≤ i → i ≤ ginv a → ginv a < i + m → ref14_inverse_l1 N (u a) m (i : Int) = some (.inr (u (ginv a)))
  | 0, i, _, h1, h2 => by omega
  | m + 1, i, h, h1, h2 => by
    have hg := ginv_lt a
    have hi : i < 256 := by omega
    rw [ref14_inverse_l1.eq_2]
    simp only [show ((i : Int) < 256) by omega, decide_true, if_true, conv_u8 hi]
    rw [show (⟨(i : Int)⟩ : U8) = u i from rfl, times_eq hN ha hi]
    simp only [Option.bind_some]
    by_cases e : i = ginv a
    · subst e
      rw [gm_ginv ha h0]; rfl
    · have hne : gm a i ≠ 1 := fun h => e (gm_cancel ha h0 hi hg (by rw [h, gm_ginv ha h0]))
      rw [if_neg (by simp only [decide_eq_true_eq]; show ¬ ((gm a i : Int) = 1); omega), chk, if_pos (show inR ((i : Int) + 1) by unfold inR; omega)]
      exact rinv_l hN ha h0 m (i + 1) (by omega) (by omega) (by omega)
theorem rinv_eq {N : Nat} (hN : 300 < N) {a : Nat} (ha : a < 256) (h0 : a ≠ 0) : ref14_inverse N (u a) = some (u (ginv a)) := by
  unfold ref14_inverse
  have h1 : 1 ≤ ginv a := Nat.one_le_iff_ne_zero.2 (ginv_ne a)
  have := rinv_l (by omega : 10 < N) ha h0 N 1 (by omega) h1 (by have := ginv_lt a; omega)
  have e : ref14_inverse_l1 N (u a) N 1 = _ := this
  rw [e]; rfl
end Go.Arm
namespace Go.Arm
open Go Go.RowKit Go.Gf

/-- A product by f. -/
def MulBy (m : U8 → Option U8) (f : Nat) : Prop := ∀ y, y < 256 → m (u y) = some (u (gm y f))
theorem getD_set {l : Row} {i j x : Nat} (h : i < l.length) : (l.set i x).getD j 0 = if j = i then x else l.getD j 0 := by
  rw [List.getD_eq_getElem?_getD, List.getD_eq_getElem?_getD, List.getElem?_set]
  by_cases e : i = j
  · subst e; simp [h]
  · rw [if_neg e, if_neg (fun e' => e e'.symm)]
theorem u_set (l : Row) (i x : Nat) : (l.map u).set i (u x) = (l.set i x).map u := by rw [List.map_set]
theorem ext_getD {a b : Row} (h : a.length = b.length) (k : ∀ j, j < a.length → a.getD j 0 = b.getD j 0) : a = b := by
  apply List.ext_getElem h
  intro j h1 h2
  have := k j h1
  rw [List.getD_eq_getElem?_getD, List.getD_eq_getElem?_getD, List.getElem?_eq_getElem h1, List.getElem?_eq_getElem h2] at this
  exact this

theorem add_l {m : U8 → Option U8} {f : Nat} (hm : MulBy m f) {l t0 : Row} (hl : ∀ x, x ∈ l → x < 256) (ht : ∀ x, x ∈ t0 → x < 256) (he : t0.length = l.length) (hlen : inR ((l.length : Int) + 1)) : ∀ (n i : Nat) (t : Row), t.length = t0.length → t0.length < i + n → i ≤ t0.length →
    (∀ j, j < t0.length → t.getD j 0 = if j < i then t0.getD j 0 ^^^ gm (l.getD j 0) f else t0.getD j 0) → addG m (l.map u) n (i : Int) (t.map u) = some ((axpy f l t0).map u) ∧ addR m (l.map u) n (i : Int) (t.map u) = some ((axpy f l t0).map u)
  | 0, i, t, _, h1, h2, _ => by omega
  | n + 1, i, t, htl, h1, h2, hj => by
    rw [addG, addR]
    by_cases hi : i < t.length
    · have hil : i < l.length := by omega
      have hxi : t.getD i 0 = t0.getD i 0 := by rw [hj i (by omega), if_neg (Nat.lt_irrefl i)]
      have c1 : decide ((i : Int) < ((l.map u).length : Int)) = true := by simp; omega
      have c2 : decide ((i : Int) < ((t.map u).length : Int)) = true := by simp; omega
      have hin : inR ((i : Int) + 1) := by unfold inR at *; omega
      have ih := add_l hm hl ht he hlen n (i + 1) (t.set i (t0.getD i 0 ^^^ gm (l.getD i 0) f)) (by simpa using htl) (by omega) (by omega) (fun j hjl => by
        rw [getD_set hi]
        by_cases e : j = i
        · subst e; rw [if_pos rfl, if_pos (by omega)]
        · rw [if_neg e, hj j hjl]
          by_cases e2 : j < i
          · rw [if_pos e2, if_pos (by omega)]
          · rw [if_neg e2, if_neg (by omega)])
      have ex : (⟨xorK .u8 (u (t0.getD i 0)).n (u (gm (l.getD i 0) f)).n⟩ : U8) = u (t0.getD i 0 ^^^ gm (l.getD i 0) f) := by
        rw [u_n, u_n, xorK_u8 (getD_lt ht i) (gm_lt _ _)]; rfl
      refine ⟨?_, ?_⟩
      · rw [if_pos c1, idx_u hil, Option.bind_some, idx_u hi, Option.bind_some, hm _ (getD_lt hl i), hxi, Option.bind_some, chk, if_pos hin, Int.toNat_natCast, ex, u_set]
        exact ih.1
      · rw [if_pos c2, idx_u hil, Option.bind_some, idx_u hi, Option.bind_some, hm _ (getD_lt hl i), hxi, Option.bind_some, chk, if_pos hin, Int.toNat_natCast, ex, u_set]
        exact ih.2
    · have c1 : ¬ (decide ((i : Int) < ((l.map u).length : Int)) = true) := by simp; omega
      have c2 : ¬ (decide ((i : Int) < ((t.map u).length : Int)) = true) := by simp; omega
      rw [if_neg c1, if_neg c2]
      have : t = axpy f l t0 := ext_getD (by rw [axpy_len he]; exact htl) (fun j hjl => by rw [hj j (by omega), if_pos (by omega), axpy_getD he])
      rw [this]; exact ⟨rfl, rfl⟩
theorem add_eq {m : U8 → Option U8} {f N : Nat} (hm : MulBy m f) {l t : Row} (hl : ∀ x, x ∈ l → x < 256) (ht : ∀ x, x ∈ t → x < 256) (he : t.length = l.length) (hlen : inR ((l.length : Int) + 1)) (hN : l.length < N) :
    addG m (l.map u) N 0 (t.map u) = some ((axpy f l t).map u) ∧ addR m (l.map u) N 0 (t.map u) = some ((axpy f l t).map u) :=
  add_l hm hl ht he hlen N 0 t rfl (by omega) (by omega) (fun j _ => by rw [if_neg (by omega)])

theorem mulP (N : Nat) {f : Nat} (hf : f < 256) : MulBy (fun y => check_field_mul N fieldT y (u f)) f := fun _ hy => mul_eq N hy hf
theorem len_in {k : Nat} (h : k ≤ 70000) : inR ((k : Int) + 1) := by unfold inR; omega
/-! The search for a pivot. -/
end Go.Arm
namespace Go.Arm
open Go Go.RowKit Go.Gf

def wi (ws : List Nat) : List Int := List.map (fun w : Nat => (w : Int)) ws
theorem mx_ext {a b : Mx} (h : a.length = b.length) (k : ∀ r, r < a.length → rw_ a r = rw_ b r) : a = b := by
  apply List.ext_getElem h
  intro r h1 h2
  have := k r h1
  rw [rw_lt h1, rw_lt h2] at this
  exact this
theorem row_ext {k w : Nat} {l : Row} (h : l.length = k) (hj : ∀ j, j < k → l.getD j 0 = rowE k w j) : l = rowS k w :=
  ext_getD (by simp [rowS]; exact h) (fun j hjl => by rw [hj j (by omega), rowS_getD (by omega)])
theorem toNat_cast (k : Nat) : ((k : Int).toNat : Int) = (k : Int) := by rw [Int.toNat_natCast]
theorem rep_u (k : Nat) : List.replicate k (⟨0⟩ : U8) = (List.replicate k 0).map u := by rw [List.map_replicate]; rfl
theorem rep_getD (k j : Nat) : (List.replicate k 0).getD j 0 = 0 := by
  rw [List.getD_eq_getElem?_getD, List.getElem?_replicate]
  split <;> rfl

/-- What an element of a parity block's row is the inverse of. -/
theorem arg_eq {k w i : Nat} (hw : k ≤ w) (hw2 : w < k + 16) (hi : i < 16) : (⟨convK .u8 (xorK .i64 ((w : Int) - (k : Int)) (16 + (i : Int)))⟩ : U8) = u ((w - k) ^^^ (16 + i)) ∧ (w - k) ^^^ (16 + i) < 256 ∧ (w - k) ^^^ (16 + i) ≠ 0 := by
  have h1 : (w - k) ^^^ (16 + i) < 256 := xor_lt (by omega) (by omega)
  have e1 : ((w : Int) - (k : Int)) = ((w - k : Nat) : Int) := by omega
  have e2 : (16 + (i : Int)) = ((16 + i : Nat) : Int) := by omega
  refine ⟨?_, h1, fun h => ?_⟩
  · rw [e1, e2, xorK_i64 (by omega) (by omega), conv_u8 h1]; rfl
  · have := xor_eq_zero h; omega
theorem rowP_l {N k w : Nat} (hk : k ≤ 16) (hw : k ≤ w) (hw2 : w < k + 16) : ∀ (n i : Nat) (l : Row), l.length = k → k < i + n → i ≤ k → (∀ j, j < k → l.getD j 0 = if j < i then rowE k w j else 0) →
    check_field_row_l1 N fieldT (w : Int) (k : Int) n (i : Int) (l.map u) = some ((rowS k w).map u)
  | 0, i, l, _, h1, h2, _ => by omega
  | n + 1, i, l, hl, h1, h2, hj => by
    rw [check_field_row_l1.eq_2]
    by_cases hi : i < k
    · have c1 : decide ((i : Int) < ((((k : Int)).toNat : Nat) : Int)) = true := by rw [toNat_cast]; simp; exact hi
      obtain ⟨ea, a1, a2⟩ := arg_eq hw hw2 (show i < 16 by omega)
      rw [if_pos c1, chk, if_pos (show inR ((w : Int) - (k : Int)) by unfold inR; omega), chk, if_pos (show inR (16 + (i : Int)) by unfold inR; omega), ea, inv_eq N a1 a2, Option.bind_some, idx_u (by omega), Option.bind_some, chk, if_pos (show inR ((i : Int) + 1) by unfold inR; omega), Int.toNat_natCast, u_set]
      refine rowP_l hk hw hw2 n (i + 1) _ (by simpa using hl) (by omega) (by omega) (fun j hjk => ?_)
      rw [getD_set (by omega)]
      by_cases e : j = i
      · subst e; rw [if_pos rfl, if_pos (by omega)]; unfold rowE; rw [if_neg (by omega)]
      · rw [if_neg e, hj j hjk]
        by_cases e2 : j < i
        · rw [if_pos e2, if_pos (by omega)]
        · rw [if_neg e2, if_neg (by omega)]
    · have c1 : ¬ (decide ((i : Int) < ((((k : Int)).toNat : Nat) : Int)) = true) := by rw [toNat_cast]; simp; omega
      rw [if_neg c1, row_ext hl (fun j hjk => by rw [hj j hjk, if_pos (by omega)])]
theorem row_unit {k w : Nat} (hw : w < k) : ((List.replicate k 0).set w 1) = rowS k w :=
  row_ext (by simp) (fun j hj => by
    rw [getD_set (by simpa using hw), rep_getD]
    unfold rowE
    rw [if_pos hw]
    by_cases e : j = w
    · subst e; simp
    · rw [if_neg e, if_neg (fun h => e h.symm)])
theorem rowP_eq {N k w : Nat} (hk : k ≤ 16) (hw : w < k + 16) (hN : 100 < N) : check_field_row N fieldT (w : Int) (k : Int) = some ((rowS k w).map u) := by
  unfold check_field_row
  rw [chk, if_pos ⟨by omega, by omega, by omega⟩, Int.toNat_natCast, rep_u]
  by_cases h : w < k
  · rw [if_pos (by simp; exact h), idx_u (by simpa using h), Option.bind_some, Int.toNat_natCast]
    rw [show (⟨1⟩ : U8) = u 1 from rfl, u_set, row_unit h]
  · rw [if_neg (by simp; omega)]
    have e : check_field_row_l1 N fieldT (w : Int) (k : Int) N 0 _ = _ := rowP_l (N := N) hk (by omega) hw N 0 (List.replicate k 0) (by simp) (by omega) (by omega) (fun j _ => by rw [rep_getD, if_neg (by omega)])
    rw [e]; rfl
theorem rowR_l {N k w : Nat} (hN : 300 < N) (hk : k ≤ 16) (hw2 : w < k + 16) : ∀ (n i : Nat) (l : Row), l.length = k → k < i + n → i ≤ k → (∀ j, j < k → l.getD j 0 = if j < i ∧ k ≤ w then rowE k w j else 0) →
    ref14_weights_l1 N (w : Int) (k : Int) n (i : Int) (l.map u) = some ((if k ≤ w then rowS k w else List.replicate k 0).map u)
  | 0, i, l, _, h1, h2, _ => by omega
  | n + 1, i, l, hl, h1, h2, hj => by
    rw [ref14_weights_l1.eq_2]
    by_cases hi : i < k
    · have c1 : decide ((i : Int) < (k : Int)) = true := by simp; exact hi
      rw [if_pos c1]
      by_cases hw : k ≤ w
      · obtain ⟨ea, a1, a2⟩ := arg_eq hw hw2 (show i < 16 by omega)
        rw [if_pos (by simp; exact hw), chk, if_pos (show inR ((w : Int) - (k : Int)) by unfold inR; omega)]
        unfold ref14_factor
        rw [chk, if_pos (show inR (16 + (i : Int)) by unfold inR; omega), ea, rinv_eq hN a1 a2, Option.bind_some, Option.bind_some, idx_u (by omega), Option.bind_some, chk, if_pos (show inR ((i : Int) + 1) by unfold inR; omega), Int.toNat_natCast, u_set]
        refine rowR_l hN hk hw2 n (i + 1) _ (by simpa using hl) (by omega) (by omega) (fun j hjk => ?_)
        rw [getD_set (by omega)]
        by_cases e : j = i
        · subst e; rw [if_pos rfl, if_pos ⟨by omega, hw⟩]; unfold rowE; rw [if_neg (by omega)]
        · rw [if_neg e, hj j hjk]
          by_cases e2 : j < i
          · rw [if_pos ⟨e2, hw⟩, if_pos ⟨by omega, hw⟩]
          · rw [if_neg (by omega), if_neg (by omega)]
      · rw [if_neg (by simp; omega), chk, if_pos (show inR ((i : Int) + 1) by unfold inR; omega)]
        exact rowR_l hN hk hw2 n (i + 1) l hl (by omega) (by omega) (fun j hjk => by rw [hj j hjk, if_neg (by omega), if_neg (by omega)])
    · have c1 : ¬ (decide ((i : Int) < (k : Int)) = true) := by simp; omega
      rw [if_neg c1]
      by_cases hw : k ≤ w
      · rw [if_pos hw, row_ext hl (fun j hjk => by rw [hj j hjk, if_pos ⟨by omega, hw⟩])]
      · rw [if_neg hw, show l = List.replicate k 0 from ext_getD (by simpa using hl) (fun j hjk => by rw [hj j (by omega), if_neg (by omega), rep_getD])]
theorem rowR_eq {N k w : Nat} (hk : k ≤ 16) (hw : w < k + 16) (hN : 300 < N) : ref14_weights N (w : Int) (k : Int) = some ((rowS k w).map u) := by
  unfold ref14_weights
  have e : ref14_weights_l1 N (w : Int) (k : Int) N 0 _ = _ := rowR_l (N := N) hN hk hw N 0 (List.replicate k 0) (by simp) (by omega) (by omega) (fun j _ => by rw [rep_getD, if_neg (by omega)])
  rw [chk, if_pos ⟨by omega, by omega, by omega⟩, Int.toNat_natCast, rep_u, e, Option.bind_some]
  by_cases h : w < k
  · rw [if_pos (by simp; exact h), if_neg (by omega), idx_u (by simpa using h), Option.bind_some, Int.toNat_natCast, show (⟨1⟩ : U8) = u 1 from rfl, u_set, row_unit h]
  · rw [if_neg (by simp; omega), if_pos (by omega)]

theorem maxLen_big : 100000 ≤ maxLen := by decide
theorem clone_eq (N : Nat) {d : List U8} (h : d.length ≤ 70000) : slices_Clone_Lbyte_byte N d = some d := by
  unfold slices_Clone_Lbyte_byte
  have := maxLen_big
  rw [chk, if_pos ⟨by simp; omega, by simp; omega⟩, List.nil_append]
theorem um_snoc (R : Mx) (x : Row) : um R ++ [x.map u] = um (R ++ [x]) := by simp [um]
/-- The data blocks, from k blocks of a codeword. -/
noncomputable def dataS (k : Nat) (ws : List Nat) (K : Mx) : Mx := solveS k k 0 (matS k ws) K
end Go.Arm
namespace Go.Arm
open Go Go.RowKit Go.Gf

/-- The sum of blocks, each multiplied. -/
noncomputable def comb (D : Mx) (row : Row) : Nat → Nat → Row → Row
  | 0, _, o => o
  | n + 1, i, o => comb D row n (i + 1) (axpy (row.getD i 0) (rw_ D i) o)
theorem mulL {N : Nat} (hN : 10 < N) {f : Nat} (hf : f < 256) {y : Nat} (hy : y < 256) : ref14_times N (u f) (u y) = some (u (gm y f)) := by
  rw [times_eq hN hf hy, gm_comm]
theorem comb2_l {N f i k s : Nat} {row : Row} {D : Mx} {y1 : List U8} {t0 : Row} (hN : 10 < N) (hi : i < k) (hrow : row.length = k) (hfe : row.getD i 0 = f) (hf : f < 256) (hD : Shape k s D) (hy : y1.length = s) (hs : s ≤ 70000) (ht : ∀ x, x ∈ t0 → x < 256) (h0 : t0.length = s) : ∀ (n j : Nat) (t : Row), t.length = s → s < j + n → j ≤ s →
    (∀ q, q < s → t.getD q 0 = if q < j then t0.getD q 0 ^^^ gm ((rw_ D i).getD q 0) f else t0.getD q 0) → ref14_combined_l2 N (row.map u) (um D) y1 (i : Int) n (j : Int) (t.map u) = some ((axpy f (rw_ D i) t0).map u)
  | 0, j, t, _, h1, h2, _ => by omega
  | n + 1, j, t, htl, h1, h2, hj => by
    have hl := hD.2 i hi
    rw [ref14_combined_l2.eq_2, hy]
    by_cases hjs : j < s
    · have c1 : decide ((j : Int) < ((((s : Nat) : Int).toNat : Nat) : Int)) = true := by rw [toNat_cast]; simp; exact hjs
      have hxj : t.getD j 0 = t0.getD j 0 := by rw [hj j hjs, if_neg (Nat.lt_irrefl j)]
      have ex : (⟨xorK .u8 (u (t0.getD j 0)).n (u (gm ((rw_ D i).getD j 0) f)).n⟩ : U8) = u (t0.getD j 0 ^^^ gm ((rw_ D i).getD j 0) f) := by
        rw [u_n, u_n, xorK_u8 (getD_lt ht j) (gm_lt _ _)]; rfl
      rw [if_pos c1, idx_u (by omega), Option.bind_some, idx_u (by omega), Option.bind_some, idx_um (by rw [hD.1]; exact hi), Option.bind_some, idx_u (by rw [hl.1]; exact hjs), Option.bind_some, hfe, mulL hN hf (getD_lt hl.2 j), Option.bind_some, Option.bind_some,
        chk, if_pos (show inR ((j : Int) + 1) by unfold inR; omega), Int.toNat_natCast, hxj, ex, u_set]
      refine comb2_l hN hi hrow hfe hf hD hy hs ht h0 n (j + 1) _ (by simpa using htl) (by omega) (by omega) (fun q hq => ?_)
      rw [getD_set (by omega)]
      by_cases e : q = j
      · subst e; rw [if_pos rfl, if_pos (by omega)]
      · rw [if_neg e, hj q hq]
        by_cases e2 : q < j
        · rw [if_pos e2, if_pos (by omega)]
        · rw [if_neg e2, if_neg (by omega)]
    · have c1 : ¬ (decide ((j : Int) < ((((s : Nat) : Int).toNat : Nat) : Int)) = true) := by rw [toNat_cast]; simp; omega
      have he : t0.length = (rw_ D i).length := by rw [hl.1, h0]
      rw [if_neg c1, show t = axpy f (rw_ D i) t0 from ext_getD (by rw [axpy_len he, htl, h0]) (fun q hq => by rw [hj q (by omega), if_pos (by omega), axpy_getD he])]
theorem comb_l {N k s : Nat} {row : Row} {D : Mx} {y1 : List U8} (hN : 70000 < N) (hk : k ≤ 16) (hrow : row.length = k) (hr : ∀ x, x ∈ row → x < 256) (hD : Shape k s D) (hy : y1.length = s) (hs : s ≤ 70000) : ∀ (n m i : Nat) (o : Row), n < m → i + n = k → o.length = s → (∀ x, x ∈ o → x < 256) →
    (blockL N fieldT (um D) (row.map u) m (i : Int) (o.map u) = some ((comb D row n i o).map u) ∧ ref14_combined_l1 N (row.map u) (um D) y1 m (i : Int) (o.map u) = some ((comb D row n i o).map u)) ∧ (comb D row n i o).length = s ∧ ∀ x, x ∈ comb D row n i o → x < 256
  | _, 0, _, _, h, _, _, _ => absurd h (Nat.not_lt_zero _)
  | 0, m + 1, i, o, _, h, ho, hx => by
    have c1 : ¬ (decide ((i : Int) < ((row.map u).length : Int)) = true) := by simp; omega
    rw [blockL, ref14_combined_l1.eq_2, if_neg c1, if_neg c1]
    exact ⟨⟨rfl, rfl⟩, ho, hx⟩
  | n + 1, m + 1, i, o, hm, h, ho, hx => by
    have hi : i < k := by omega
    have hl := hD.2 i hi
    have c1 : decide ((i : Int) < ((row.map u).length : Int)) = true := by simp; omega
    have he : o.length = (rw_ D i).length := by rw [hl.1, ho]
    have hf : row.getD i 0 < 256 := getD_lt hr i
    have hin : inR ((i : Int) + 1) := by unfold inR; omega
    have a1 := (add_eq (N := N) (mulP N hf) (l := rw_ D i) (t := o) hl.2 hx he (by rw [hl.1]; exact len_in hs) (by rw [hl.1]; omega)).1
    have a2 : ref14_combined_l2 N (row.map u) (um D) y1 (i : Int) N 0 (o.map u) = _ := comb2_l (N := N) (by omega) hi hrow rfl hf hD hy hs hx ho N 0 o ho (by omega) (by omega) (fun q _ => by rw [if_neg (by omega)])
    obtain ⟨⟨b1, b2⟩, b3⟩ := comb_l hN hk hrow hr hD hy hs n m (i + 1) (axpy (row.getD i 0) (rw_ D i) o) (by omega) (by omega) (by rw [axpy_len he]; exact ho) (axpy_lt _ _ _ hx)
    refine ⟨⟨?_, ?_⟩, b3⟩
    · rw [blockL, if_pos c1, idx_u (by omega), Option.bind_some, idx_um (by rw [hD.1]; exact hi), Option.bind_some, a1, Option.bind_some, chk, if_pos hin]
      exact b1
    · rw [ref14_combined_l1.eq_2, if_pos c1, a2, Option.bind_some]
      dsimp only
      rw [chk, if_pos hin]
      exact b2
/-- A block of the codeword, from the data blocks. -/
noncomputable def blk (k s : Nat) (D : Mx) (w : Nat) : Row := comb D (rowS k w) k 0 (List.replicate s 0)
theorem rowS_lt (k w : Nat) : ∀ x, x ∈ rowS k w → x < 256 := by
  intro x hx
  obtain ⟨j, _, rfl⟩ := List.mem_map.1 hx
  exact rowE_lt k w j
theorem block_eq {N k s w : Nat} {D : Mx} (hN : 70000 < N) (hk0 : 1 ≤ k) (hk : k ≤ 16) (hs : s ≤ 70000) (hD : Shape k s D) (hw : w < k + 16) :
    check_field_block N fieldT (w : Int) (um D) = some ((blk k s D w).map u) ∧ ref14_weights N (w : Int) (k : Int) = some ((rowS k w).map u) ∧ ref14_combined N ((rowS k w).map u) (um D) = some ((blk k s D w).map u) := by
  have h0 : 0 < D.length := by rw [hD.1]; omega
  have d0 : idx (um D) 0 = some ((rw_ D 0).map u) := idx_um (r := 0) h0
  have l0 : (((rw_ D 0).map u).length) = s := by rw [List.length_map]; exact (hD.2 0 (by omega)).1
  have lD : (um D).length = k := by rw [um_len]; exact hD.1
  have lr : (rowS k w).length = k := by simp [rowS]
  obtain ⟨⟨b1, b2⟩, _⟩ := comb_l (y1 := (rw_ D 0).map u) hN hk lr (rowS_lt k w) hD l0 hs k N 0 (List.replicate s 0) (by omega) (by omega) (by simp) (by intro x hx; rw [List.eq_of_mem_replicate hx]; decide)
  have b1' : blockL N fieldT (um D) ((rowS k w).map u) N 0 ((List.replicate s 0).map u) = _ := b1
  have b2' : ref14_combined_l1 N ((rowS k w).map u) (um D) ((rw_ D 0).map u) N 0 ((List.replicate s 0).map u) = _ := b2
  refine ⟨?_, rowR_eq hk hw (by omega), ?_⟩
  · unfold check_field_block
    rw [d0, Option.bind_some, l0, chk, if_pos ⟨by omega, by omega, by omega⟩, lD, rowP_eq hk hw (by omega), Option.bind_some, Int.toNat_natCast, rep_u, b1']
    rfl
  · unfold ref14_combined
    rw [d0, Option.bind_some, l0, chk, if_pos ⟨by omega, by omega, by omega⟩, Int.toNat_natCast, rep_u, b2']
    rfl

/-- Whether a block is there. -/
def isT (t : List Bool) (i : Nat) : Bool := t.getD i false
def pk (t : List Bool) (i : Nat) : List Nat := (List.range i).filter (isT t)
def sel (B : Mx) (W : List Nat) : Mx := W.map (rw_ B)
end Go.Arm
namespace Go.Arm
open Go Go.RowKit Go.Gf

/-- Blocks of bytes that one law looks at. -/
structure Okb (B : Mx) : Prop where
  len : B.length ≤ 40
  row : ∀ i, i < B.length → ∀ x, x ∈ rw_ B i → x < 256
/-- What Repair returns: an error, or the blocks, all of one length. -/
def Good (k : Int) (r : List (List U8) × Int) : Prop :=
  (r.2 ≠ 0 ∧ r.1 = []) ∨ (r.2 = 0 ∧ ∃ (M : Mx) (kn s : Nat), k = kn ∧ r.1 = um M ∧ 1 ≤ kn ∧ kn ≤ 16 ∧ kn ≤ M.length ∧ M.length ≤ 40 ∧ s ≤ 65536 ∧ Shape M.length s M)
theorem blk_ok {k s w : Nat} {D : Mx} (hk : k ≤ 16) (hs : s ≤ 70000) (hD : Shape k s D) (hk0 : 1 ≤ k) : (blk k s D w).length = s ∧ ∀ x, x ∈ blk k s D w → x < 256 := by
  have l0 : (((rw_ D 0).map u).length) = s := by rw [List.length_map]; exact (hD.2 0 (by omega)).1
  have lr : (rowS k w).length = k := by simp [rowS]
  exact (comb_l (N := 70001) (y1 := (rw_ D 0).map u) (by omega) hk lr (rowS_lt k w) hD l0 hs k 70001 0 (List.replicate s 0) (by omega) (by omega) (by simp) (by intro x hx; rw [List.eq_of_mem_replicate hx]; decide)).2
theorem range_snoc {β : Type} (f : Nat → β) (i : Nat) : (List.range i).map f ++ [f i] = (List.range (i + 1)).map f := by rw [List.range_succ, List.map_append]; rfl
theorem blocks_um (a : List (List U8)) (h : ∀ x ∈ a, ∀ y ∈ x, (Lit.int .u8 y.n).wf = true) : ∃ B : Mx, a = um B ∧ ∀ i, i < B.length → ∀ x, x ∈ rw_ B i → x < 256 := by
  have key : ∀ y : U8, (Lit.int .u8 y.n).wf = true → u y.n.toNat = y ∧ y.n.toNat < 256 := fun y hy => by
    have h1 : 0 ≤ y.n ∧ y.n < 256 := by
      have a1 : IntKind.u8.min = 0 := by decide
      have a2 : IntKind.u8.max = 255 := by decide
      simp only [Lit.wf, a1, a2, Bool.and_eq_true, decide_eq_true_eq] at hy
      omega
    refine ⟨?_, by omega⟩
    unfold u
    rw [Int.toNat_of_nonneg h1.1]
  refine ⟨a.map (List.map fun y => y.n.toNat), ?_, fun i hi x hx => ?_⟩
  · unfold um
    rw [List.map_map]
    apply List.ext_getElem (by simp)
    intro i h1 h2
    rw [List.getElem_map]
    simp only [Function.comp, List.map_map]
    apply List.ext_getElem (by simp)
    intro j h3 h4
    rw [List.getElem_map]
    simp only [Function.comp]
    exact (key _ (h _ (List.getElem_mem h1) _ (List.getElem_mem h3))).1.symm
  · rw [rw_lt hi, List.getElem_map] at hx
    obtain ⟨y, hy, rfl⟩ := List.mem_map.1 hx
    exact (key y (h _ (List.getElem_mem (by simpa using hi)) y hy)).2
end Go.Arm
namespace Go.Arm
open Go Go.RowKit Go.Gf

/-- The number that four bytes say. -/
def num4 (a b c d : Nat) : Nat := a * 16777216 + b * 65536 + c * 256 + d
theorem um_app (a b : Row) : a.map u ++ b.map u = (a ++ b).map u := by rw [List.map_append]
end Go.Arm
namespace Go.Arm
open Go Go.RowKit Go.Gf

/-- How many bytes are added. -/
def padN (x k : Nat) : Nat := (k - x % k) % k
theorem pad_spec {x k : Nat} (hk : 0 < k) : (x + padN x k) % k = 0 ∧ padN x k < k ∧ ∀ q, q < padN x k → (x + q) % k ≠ 0 := by
  unfold padN
  have h1 := Nat.div_add_mod x k
  have h2 := Nat.mod_lt x hk
  by_cases h0 : x % k = 0
  · rw [h0, Nat.sub_zero, Nat.mod_self]
    exact ⟨by rw [Nat.add_zero]; exact h0, hk, fun q hq => by omega⟩
  · rw [Nat.mod_eq_of_lt (show k - x % k < k by omega)]
    refine ⟨?_, by omega, fun q hq => ?_⟩
    · rw [show x + (k - x % k) = k * (x / k) + k by omega, Nat.mul_add_mod, Nat.mod_self]
    · rw [show x + q = k * (x / k) + (x % k + q) by omega, Nat.mul_add_mod, Nat.mod_eq_of_lt (by omega)]
      omega
theorem pad_only {x k q : Nat} (hk : 0 < k) (hq : q < k) (h : (x + q) % k = 0) : padN x k = q := by
  obtain ⟨h1, h2, h3⟩ := pad_spec (x := x) hk
  rcases Nat.lt_trichotomy q (padN x k) with h4 | h4 | h4
  · exact absurd h (h3 q h4)
  · exact h4.symm
  · exfalso
    have e := Nat.div_add_mod (x + padN x k) k
    rw [h1] at e
    have e2 : x + q = k * ((x + padN x k) / k) + (q - padN x k) := by omega
    rw [e2, Nat.mul_add_mod, Nat.mod_eq_of_lt (by omega)] at h
    omega
theorem tmod_nat (a b : Nat) : Int.tmod (a : Int) (b : Int) = ((a % b : Nat) : Int) := by
  rw [Int.tmod_eq_emod_of_nonneg (Int.natCast_nonneg _)]; norm_cast
theorem tdiv_nat (a b : Nat) : Int.tdiv (a : Int) (b : Int) = ((a / b : Nat) : Int) := by
  rw [Int.tdiv_eq_ediv_of_nonneg (Int.natCast_nonneg _)]; norm_cast
theorem div1 {N k : Nat} (hk : 0 < k) : ∀ (p m : Nat) (l : Row), p < m → l.length + p ≤ 100000000 → (l.length + p) % k = 0 → (∀ q, q < p → (l.length + q) % k ≠ 0) → ref14_Divide_l1 N (k : Int) m (l.map u) = some ((l ++ List.replicate p 0).map u)
  | _, 0, _, h, _, _, _ => absurd h (Nat.not_lt_zero _)
  | 0, m + 1, l, _, _, h1, _ => by
    have c1 : ¬ ((!decide (Int.tmod ((l.map u).length : Int) (k : Int) = 0)) = true) := by
      rw [List.length_map, tmod_nat]
      rw [Nat.add_zero] at h1
      rw [h1]; simp
    rw [ref14_Divide_l1.eq_2, chk, if_pos (show (k : Int) ≠ 0 by omega), if_neg c1]
    simp
  | p + 1, m + 1, l, h, hb, h1, h2 => by
    have hmax : 2 ^ 60 ≤ maxLen := by decide
    have c1 : (!decide (Int.tmod ((l.map u).length : Int) (k : Int) = 0)) = true := by
      rw [List.length_map, tmod_nat]
      have := h2 0 (by omega)
      rw [Nat.add_zero] at this
      simp only [Bool.not_eq_true', decide_eq_false_iff_not]; omega
    have e : [(⟨0⟩ : U8)] = ([0] : Row).map u := rfl
    rw [ref14_Divide_l1.eq_2, chk, if_pos (show (k : Int) ≠ 0 by omega), if_pos c1, chk, if_pos ⟨by simp only [List.length_map, List.length_singleton]; omega, by simp only [List.length_map, List.length_singleton]; omega⟩, e, um_app]
    rw [div1 hk p m (l ++ [0]) (by omega) (by simp; omega) (by simp only [List.length_append, List.length_singleton]; rw [show l.length + 1 + p = l.length + (p + 1) by omega]; exact h1) (fun q hq => by
      simp only [List.length_append, List.length_singleton]; rw [show l.length + 1 + q = l.length + (q + 1) by omega]; exact h2 (q + 1) (by omega))]
    rw [List.append_assoc]; rfl
/-- A part of some bytes. -/
def part (l : Row) (sz i : Nat) : Row := (l.take ((i + 1) * sz)).drop (i * sz)
theorem div2 {N k sz : Nat} {l : Row} (hk : k ≤ 16) (hk0 : 0 < k) (hl : l.length = k * sz) (hb : l.length ≤ 100000000) : ∀ (n i : Nat), k < i + n → i ≤ k → ref14_Divide_l2 N (k : Int) (l.map u) n (um ((List.range i).map (part l sz))) (i : Int) = some (um ((List.range k).map (part l sz)))
  | 0, i, h1, h2 => by omega
  | n + 1, i, h1, h2 => by
    have hmax : 2 ^ 60 ≤ maxLen := by decide
    rw [ref14_Divide_l2.eq_2]
    by_cases hi : i < k
    · have c1 : decide ((i : Int) < (k : Int)) = true := by simp; exact hi
      have e1 : Int.tdiv ((l.map u).length : Int) (k : Int) = (sz : Int) := by rw [List.length_map, tdiv_nat, hl, Nat.mul_div_cancel_left _ hk0]
      have b1 : (i + 1) * sz ≤ k * sz := Nat.mul_le_mul_right _ (by omega)
      have b2 : (i + 1) * sz = i * sz + sz := Nat.succ_mul i sz
      have e2 : (i : Int) * (sz : Int) = ((i * sz : Nat) : Int) := by norm_cast
      have e3 : ((i : Int) + 1) * (sz : Int) = (((i + 1) * sz : Nat) : Int) := by norm_cast
      have e4 : cut (l.map u) ((i * sz : Nat) : Int) (((i + 1) * sz : Nat) : Int) = some ((part l sz i).map u) := by
        unfold cut part
        rw [if_pos ⟨by omega, by omega, by rw [List.length_map]; omega⟩, Int.toNat_natCast, Int.toNat_natCast, List.map_drop, List.map_take]
      rw [if_pos c1, e1, e2, e3, chk, if_pos (show inR _ by unfold inR; omega), chk, if_pos (show inR ((i : Int) + 1) by unfold inR; omega), chk, if_pos (show inR _ by unfold inR; omega), e4, Option.bind_some,
        chk, if_pos ⟨by rw [um_len]; simp only [List.length_map, List.length_range, List.length_singleton]; omega, by rw [um_len]; simp only [List.length_map, List.length_range, List.length_singleton]; omega⟩, chk, if_pos (show inR ((i : Int) + 1) by unfold inR; omega), um_snoc, range_snoc]
      exact div2 hk hk0 hl hb n (i + 1) (by omega) (by omega)
    · have c1 : ¬ (decide ((i : Int) < (k : Int)) = true) := by simp; omega
      rw [if_neg c1, show i = k by omega]
end Go.Arm
namespace Go.Arm
open Go Go.RowKit Go.Gf

theorem conv_mod (x : Nat) : (⟨convK .u8 (x : Int)⟩ : U8) = u (x % 256) := by
  unfold convK u
  simp [IntKind.wrap, IntKind.bits, IntKind.signed]
/-- The bytes as the reference divides them again. -/
def again (n0 n1 n2 n3 : Nat) (rest : Row) (v k : Nat) : Row := (n0 :: n1 :: n2 :: n3 :: rest.take v) ++ List.replicate (padN (4 + v) k) 0
theorem part_mem {l : Row} {sz i x : Nat} (h : x ∈ part l sz i) : x ∈ l := by unfold part at h; exact List.mem_of_mem_take (List.mem_of_mem_drop h)
end Go.Arm
namespace Go.Arm
open Go Go.RowKit Go.Gf

end Go.Arm
namespace Go.Arm
open Go Go.RowKit Go.Gf

theorem comb_getD {k s j : Nat} {D : Mx} {row : Row} (hD : Shape k s D) : ∀ (n i : Nat) (o : Row), i + n = k → o.length = s →
    (comb D row n i o).getD j 0 = o.getD j 0 ^^^ lsum (List.range' i n) (fun q => gm (row.getD q 0) (en D q j))
  | 0, i, o, _, _ => by rw [comb, List.range'_zero, lsum_nil, Nat.xor_zero]
  | n + 1, i, o, h, ho => by
    have he : o.length = (rw_ D i).length := by rw [(hD.2 i (by omega)).1, ho]
    rw [comb, comb_getD hD n (i + 1) _ (by omega) (by rw [axpy_len he]; exact ho), axpy_getD he, List.range'_succ, lsum_cons, Nat.xor_assoc, gm_comm]
    rfl
theorem blk_getD {k s w j : Nat} {D : Mx} (hD : Shape k s D) : (blk k s D w).getD j 0 = dot k (rowS k w) (fun i => en D i j) := by
  unfold blk dot
  rw [comb_getD hD k 0 _ (by omega) (by simp), rep_getD, Nat.zero_xor, List.range_eq_range']
theorem dot_unit {k r : Nat} {row : Row} {v : Nat → Nat} (hr : r < k) (hv : v r < 256) (h : ∀ j, j < k → row.getD j 0 = if r = j then 1 else 0) : dot k row v = v r := by
  unfold dot
  rw [lsum_congr (g := fun j => gm (if r = j then 1 else 0) (v j)) _ (fun j hj => by rw [h j (List.mem_range.1 hj)]), lsum_single hv _ List.nodup_range, if_pos (List.mem_range.2 hr)]
theorem blk_data {k s w : Nat} {D : Mx} (hk0 : 1 ≤ k) (hk : k ≤ 16) (hs : s ≤ 70000) (hD : Shape k s D) (hw : w < k) : blk k s D w = rw_ D w := by
  have hb := blk_ok (w := w) hk hs hD hk0
  refine ext_getD (by rw [hb.1, (hD.2 w hw).1]) (fun j _ => ?_)
  rw [blk_getD hD]
  exact dot_unit hw (hD.en_lt hw j) (fun q hq => by rw [rowS_getD hq]; unfold rowE; rw [if_pos hw])

/-- The data solve the rows. -/
def Sat (k s : Nat) (D R L : Mx) : Prop := ∀ r, r < k → ∀ j, j < s → dot k (rw_ R r) (fun i => en D i j) = en L r j
/-- Blocks that are there, enough, and of one length. -/
structure Enough (k s : Nat) (B : Mx) (t : List Bool) : Prop where
  k0 : 1 ≤ k
  k16 : k ≤ 16
  s6 : s ≤ 65536
  lo : k ≤ B.length
  hi : B.length ≤ k + 16
  len : t.length = B.length
  row : ∀ i, i < B.length → isT t i = true → (rw_ B i).length = s ∧ ∀ x, x ∈ rw_ B i → x < 256
  some_ : k ≤ (pk t B.length).length
theorem even_p {N : Nat} {X : Mx} (hX : 0 < X.length) (hl : X.length ≤ 70000) (hev : ∀ j, j < X.length → (rw_ X j).length = (rw_ X 0).length) : ∀ (n i : Nat), X.length < i + n → i ≤ X.length →
    slices_IndexFunc_LLbyte_Lbyte_l1 N (um X) (fun x => check_sized_1 N x (um X)) n (i : Int) = some (.inl ())
  | 0, i, h1, h2 => by omega
  | n + 1, i, h1, h2 => by
    have d0 : idx (um X) 0 = some ((rw_ X 0).map u) := idx_um (r := 0) hX
    rw [slices_IndexFunc_LLbyte_Lbyte_l1.eq_2]
    by_cases hi : i < X.length
    · have c1 : decide ((i : Int) < ((um X).length : Int)) = true := by rw [um_len]; simp; exact hi
      have hin : inR ((i : Int) + 1) := by unfold inR; omega
      rw [if_pos c1, idx_um hi, Option.bind_some]
      have q1 : check_sized_1 N ((rw_ X i).map u) (um X) = some (!decide ((((rw_ X i).map u).length : Int) = (((rw_ X 0).map u).length : Int))) := by
        unfold check_sized_1; rw [d0, Option.bind_some]
      have c2 : ¬ ((!decide ((((rw_ X i).map u).length : Int) = (((rw_ X 0).map u).length : Int))) = true) := by simp [hev i hi]
      rw [q1, Option.bind_some, if_neg c2, chk, if_pos hin]
      exact even_p hX hl hev n (i + 1) (by omega) (by omega)
    · have c1 : ¬ (decide ((i : Int) < ((um X).length : Int)) = true) := by rw [um_len]; simp; omega
      rw [if_neg c1]
end Go.Arm
namespace Go.Arm
open Go Go.RowKit Go.Gf

theorem sized_ok {N s : Nat} {X : Mx} (hX : 0 < X.length) (hl : X.length ≤ 70000) (hs : s ≤ 65536) (hr : ∀ j, j < X.length → (rw_ X j).length = s) (hN : 70000 < N) : check_sized N (um X) = some 0 := by
  have d0 : idx (um X) 0 = some ((rw_ X 0).map u) := idx_um (r := 0) hX
  have c8 : ¬ (decide ((65536 : Int) < (((rw_ X 0).map u).length : Int)) = true) := by
    rw [List.length_map, hr 0 hX]; simp; omega
  have e1 : slices_IndexFunc_LLbyte_Lbyte_l1 N (um X) (fun x => check_sized_1 N x (um X)) N 0 = some (.inl ()) := even_p (N := N) hX hl (fun j hj => by rw [hr j hj, hr 0 hX]) N 0 (by omega) (by omega)
  unfold check_sized
  rw [d0, Option.bind_some, if_neg c8]
  unfold slices_ContainsFunc_LLbyte_Lbyte slices_IndexFunc_LLbyte_Lbyte
  rw [e1, Option.bind_some]
  rfl
theorem par_l {N k s m : Nat} {D : Mx} (hN : 70000 < N) (hk0 : 1 ≤ k) (hk : k ≤ 16) (hs : s ≤ 70000) (hD : Shape k s D) (hm : m ≤ 16) : ∀ (n i : Nat), m < i + n → i ≤ m →
    check_Parity_l1 N (um D) (m : Int) fieldT n (um ((List.range i).map fun j => blk k s D (k + j))) (i : Int) = some (um ((List.range m).map fun j => blk k s D (k + j)))
  | 0, i, h1, h2 => by omega
  | n + 1, i, h1, h2 => by
    have hmax := maxLen_big
    rw [check_Parity_l1.eq_2]
    by_cases hi : i < m
    · have c1 : decide ((i : Int) < (m : Int)) = true := by simp; exact hi
      have e : ((um D).length : Int) + (i : Int) = ((k + i : Nat) : Int) := by rw [um_len, hD.1]; omega
      obtain ⟨b1, _⟩ := block_eq hN hk0 hk hs hD (show k + i < k + 16 by omega)
      have k2 : ((um ((List.range i).map fun j => blk k s D (k + j))).length + ([(blk k s D (k + i)).map u] : List (List U8)).length) * 24 ≤ 140737488355328 ∧ (um ((List.range i).map fun j => blk k s D (k + j))).length + ([(blk k s D (k + i)).map u] : List (List U8)).length ≤ maxLen := by
        rw [um_len]; simp only [List.length_map, List.length_range, List.length_singleton]; exact ⟨by omega, by omega⟩
      rw [if_pos c1, e, chk, if_pos (show inR ((k + i : Nat) : Int) by unfold inR; omega), b1, Option.bind_some, chk, if_pos k2, chk, if_pos (show inR ((i : Int) + 1) by unfold inR; omega), um_snoc, range_snoc (fun j => blk k s D (k + j))]
      exact par_l hN hk0 hk hs hD hm n (i + 1) (by omega) (by omega)
    · have c1 : ¬ (decide ((i : Int) < (m : Int)) = true) := by simp; omega
      rw [if_neg c1, show i = m by omega]
theorem parity_ok {N k s m : Nat} {D : Mx} (hN : 70000 < N) (hk0 : 1 ≤ k) (hk : k ≤ 16) (hs : s ≤ 65536) (hD : Shape k s D) (hm : m ≤ 16) :
    check_Parity N (um D) (m : Int) = some (um ((List.range m).map fun j => blk k s D (k + j)), 0) := by
  have p1 : check_Parity_l1 N (um D) (m : Int) fieldT N (um []) 0 = _ := par_l hN hk0 hk (by omega) hD hm N 0 (by omega) (by omega)
  unfold check_Parity
  rw [sized_ok (X := D) (s := s) (by rw [hD.1]; omega) (by rw [hD.1]; omega) hs (fun j hj => (hD.2 j (by rw [← hD.1]; exact hj)).1) hN]
  unfold check_newField
  rw [um_len, hD.1, if_neg (show ¬ (decide ((k : Int) < 1) = true) by simp; omega), if_neg (show ¬ (decide ((16 : Int) < (k : Int)) = true) by simp; omega), if_neg (show ¬ (decide ((m : Int) < 0) = true) by simp), decide_eq_false (show ¬ ((16 : Int) < (m : Int)) by omega), Option.bind_some]
  dsimp only
  rw [if_neg Bool.false_ne_true, Option.bind_some, if_neg (by simp), Option.bind_some]
  have e0 : (um [] : List (List U8)) = [] := rfl
  rw [e0] at p1
  rw [p1]
  rfl
/-- The pieces. -/
theorem chunk_l {N k s : Nat} {l : Row} (hk : k ≤ 16) (hs : s ≤ 65536) (hl : l.length = k * s) : ∀ (n i : Nat), k < i + n → i ≤ k →
    0 < s → chunkG N (l.map u) (s : Int) n ((i * s : Nat) : Int) (um ((List.range i).map (part l s))) = some (um ((List.range k).map (part l s)))
  | 0, i, h1, h2, _ => by omega
  | n + 1, i, h1, h2, hs0 => by
    have hmax := maxLen_big
    have hks : k * s ≤ 16 * 65536 := Nat.mul_le_mul hk hs
    rw [chunkG]
    by_cases hi : i < k
    · have b2 : (i + 1) * s = i * s + s := Nat.succ_mul i s
      have b3 : (i + 1) * s ≤ k * s := Nat.mul_le_mul_right s hi
      have c1 : decide (((i * s : Nat) : Int) < ((l.map u).length : Int)) = true := by rw [List.length_map, hl]; simp only [decide_eq_true_eq]; omega
      have cut1 : cut (l.map u) ((i * s : Nat) : Int) ((l.map u).length : Int) = some ((l.drop (i * s)).map u) := by
        unfold cut
        rw [if_pos ⟨by omega, by rw [List.length_map, hl]; omega, by omega⟩, Int.toNat_natCast, Int.toNat_natCast, List.take_length, List.map_drop]
      have hmin : min (s : Int) (((l.drop (i * s)).map u).length : Int) = (s : Int) := by rw [List.length_map, List.length_drop, hl]; omega
      have cut2 : cut (l.map u) ((i * s : Nat) : Int) (((i * s : Nat) : Int) + (s : Int)) = some ((part l s i).map u) := by
        unfold cut part
        have e : (((i * s : Nat) : Int) + (s : Int)).toNat = (i + 1) * s := by omega
        rw [if_pos ⟨by omega, by omega, by rw [List.length_map, hl]; omega⟩, Int.toNat_natCast, e, List.map_drop, List.map_take]
      have hpl : (part l s i).length = s := by unfold part; rw [List.length_drop, List.length_take, hl]; omega
      have cl : slices_Clone_Lbyte_byte N ((part l s i).map u) = some ((part l s i).map u) := clone_eq N (by rw [List.length_map, hpl]; omega)
      have k2 : ((um ((List.range i).map (part l s))).length + ([(part l s i).map u] : List (List U8)).length) * 24 ≤ 140737488355328 ∧ (um ((List.range i).map (part l s))).length + ([(part l s i).map u] : List (List U8)).length ≤ maxLen := by
        rw [um_len]; simp only [List.length_map, List.length_range, List.length_singleton]; exact ⟨by omega, by omega⟩
      rw [if_pos c1, cut1, Option.bind_some, hmin, chk, if_pos (show inR (((i * s : Nat) : Int) + (s : Int)) by unfold inR; omega), cut2, Option.bind_some, cl, Option.bind_some, chk, if_pos k2, chk, if_pos (show inR (((i * s : Nat) : Int) + (s : Int)) by unfold inR; omega), um_snoc, range_snoc (part l s)]
      have e : ((i * s : Nat) : Int) + (s : Int) = (((i + 1) * s : Nat) : Int) := by omega
      rw [e]
      exact chunk_l hk hs hl n (i + 1) (by omega) (by omega) hs0
    · obtain rfl : i = k := by omega
      have c1 : ¬ (decide (((i * s : Nat) : Int) < ((l.map u).length : Int)) = true) := by rw [List.length_map, hl]; simp
      rw [if_neg c1]
theorem shr_n {a i : Nat} (hi : i ≤ 63) : shrK .i64 (a : Int) (i : Int) = ((a / 2 ^ i : Nat) : Int) := by
  unfold shrK
  have e : min ((i : Int)).toNat (IntKind.bits .i64) = i := by show min ((i : Int)).toNat 64 = i; omega
  rw [e, Int.fdiv_eq_ediv_of_nonneg _ (by exact Int.pow_nonneg (by decide)), Int.natCast_ediv]
  norm_cast
/-- The number of bytes, as four bytes. -/
def hd4 (n : Nat) : Row := [n / 16777216 % 256, n / 65536 % 256, n / 256 % 256, n % 256]
/-- All bytes, filled up. -/
def allD (b : Row) (k s : Nat) : Row := hd4 b.length ++ b ++ List.replicate (s * k - 4 - b.length) 0
def dataD (b : Row) (k s : Nat) : Mx := (List.range k).map (part (allD b k s) s)
def szD (b : Row) (k : Nat) : Nat := (b.length + 4 + k - 1) / k
theorem sz_spec {b : Row} {k : Nat} (hk0 : 1 ≤ k) : b.length + 4 ≤ szD b k * k ∧ szD b k * k < b.length + 4 + k ∧ 1 ≤ szD b k ∧ szD b k ≤ b.length + 4 := by
  unfold szD
  have h1 := Nat.div_add_mod (b.length + 4 + k - 1) k
  have h2 := Nat.mod_lt (b.length + 4 + k - 1) (show k > 0 by omega)
  have h3 : 1 ≤ (b.length + 4 + k - 1) / k := (Nat.le_div_iff_mul_le (by omega)).2 (by omega)
  have h4 : (b.length + 4 + k - 1) / k * 1 ≤ (b.length + 4 + k - 1) / k * k := Nat.mul_le_mul_left _ hk0
  rw [Nat.mul_comm] at h1
  refine ⟨by omega, by omega, h3, ?_⟩
  rcases Nat.lt_or_ge 1 k with h | h
  · have h5 : (b.length + 4 + k - 1) / k * 2 ≤ (b.length + 4 + k - 1) / k * k := Nat.mul_le_mul_left _ h
    by_cases h6 : (b.length + 4 + k - 1) / k ≤ b.length + 4
    · exact h6
    · exfalso
      have h7 : (b.length + 4 + k - 1) / k ≤ b.length + 4 := by
        refine Nat.le_of_lt_succ ((Nat.div_lt_iff_lt_mul (by omega)).2 ?_)
        have := Nat.mul_le_mul_left (b.length + 4) hk0
        rw [Nat.succ_mul]; omega
      exact h6 h7
  · obtain rfl : k = 1 := by omega
    rw [Nat.div_one]; omega
theorem allD_len {b : Row} {k s : Nat} (h : b.length + 4 ≤ s * k) : (allD b k s).length = k * s := by
  unfold allD hd4
  simp only [List.length_append, List.length_cons, List.length_nil, List.length_replicate]
  rw [Nat.mul_comm k s]; omega
theorem allD_lt {b : Row} {k s : Nat} (hb : ∀ x, x ∈ b → x < 256) : ∀ x, x ∈ allD b k s → x < 256 := by
  intro x hx
  unfold allD hd4 at hx
  simp only [List.mem_append, List.mem_cons, List.not_mem_nil, or_false, List.mem_replicate] at hx
  rcases hx with (h | h) | h
  · omega
  · exact hb x h
  · omega
theorem dataD_shape {b : Row} {k s : Nat} (h : b.length + 4 ≤ s * k) (hb : ∀ x, x ∈ b → x < 256) : Shape k s (dataD b k s) := by
  refine ⟨by simp [dataD], fun r hr => ?_⟩
  have e : rw_ (dataD b k s) r = part (allD b k s) s r := by
    unfold dataD
    rw [rw_lt (by simpa using hr), List.getElem_map, List.getElem_range]
  rw [e]
  have b2 : (r + 1) * s = r * s + s := Nat.succ_mul r s
  have b3 : (r + 1) * s ≤ k * s := Nat.mul_le_mul_right s hr
  refine ⟨by unfold part; rw [List.length_drop, List.length_take, allD_len h]; omega, fun x hx => allD_lt hb x (part_mem hx)⟩
theorem cpy_head {L : Nat} {H : List U8} (hH : H.length ≤ L) : cpy (List.replicate L (⟨0⟩ : U8)) 0 H = H ++ List.replicate (L - H.length) ⟨0⟩ := by
  unfold cpy
  rw [List.length_replicate, Nat.sub_zero, List.take_zero, List.nil_append, List.take_of_length_le hH, List.drop_replicate, Nat.zero_add, Nat.min_eq_left hH]
theorem cpy_tail {H a Z : List U8} (h : a.length ≤ Z.length) : cpy (H ++ Z) H.length a = H ++ a ++ Z.drop a.length := by
  unfold cpy
  rw [List.take_left, List.length_append, Nat.add_sub_cancel_left, List.take_of_length_le h, Nat.min_eq_left h, ← List.drop_drop, List.drop_left]
theorem divide_ok {N k m : Nat} {b : Row} (hk0 : 1 ≤ k) (hk : k ≤ 16) (hm : m ≤ 16) (hb : b.length ≤ 2000) (hby : ∀ x, x ∈ b → x < 256) (hN : 70000 < N) :
    check_Divide N (b.map u) (k : Int) (m : Int) = some (um ((List.range (k + m)).map (blk k (szD b k) (dataD b k (szD b k)))), 0) := by
  have hmax := maxLen_big
  obtain ⟨z1, z2, z3, z4⟩ := sz_spec (b := b) hk0
  have eS : Int.tdiv (((b.map u).length : Int) + 4 + (k : Int) - 1) (k : Int) = (szD b k : Int) := by
    rw [List.length_map, show ((b.length : Int) + 4 + (k : Int) - 1) = ((b.length + 4 + k - 1 : Nat) : Int) by omega, tdiv_nat]; rfl
  have hD := dataD_shape (k := k) z1 hby
  generalize szD b k = s at *
  have eL : ((s : Int) * (k : Int)) = ((s * k : Nat) : Int) := by norm_cast
  have eA : (cpy (cpy (List.replicate ((s : Int) * (k : Int)).toNat (⟨0⟩ : U8)) 0 ([(⟨convK .u8 (shrK .i64 ((b.map u).length : Int) (⟨24⟩ : U64).n)⟩ : U8), (⟨convK .u8 (shrK .i64 ((b.map u).length : Int) (⟨16⟩ : U64).n)⟩ : U8), (⟨convK .u8 (shrK .i64 ((b.map u).length : Int) (⟨8⟩ : U64).n)⟩ : U8), (⟨convK .u8 ((b.map u).length : Int)⟩ : U8)] : List U8)) 4 (b.map u)) = (allD b k s).map u := by
    rw [eL, Int.toNat_natCast, cpy_head (by simp; omega)]
    have e4 := cpy_tail (H := ([(⟨convK .u8 (shrK .i64 ((b.map u).length : Int) (⟨24⟩ : U64).n)⟩ : U8), (⟨convK .u8 (shrK .i64 ((b.map u).length : Int) (⟨16⟩ : U64).n)⟩ : U8), (⟨convK .u8 (shrK .i64 ((b.map u).length : Int) (⟨8⟩ : U64).n)⟩ : U8), (⟨convK .u8 ((b.map u).length : Int)⟩ : U8)] : List U8)) (a := b.map u) (Z := List.replicate (s * k - 4) ⟨0⟩) (by simp; omega)
    have e5 : cpy (_ ++ List.replicate (s * k - 4) (⟨0⟩ : U8)) 4 (b.map u) = _ := e4
    refine e5.trans ?_
    unfold allD hd4
    have s1 : ∀ i : Nat, i ≤ 63 → (⟨convK .u8 (shrK .i64 ((b.map u).length : Int) (i : Int))⟩ : U8) = u (b.length / 2 ^ i % 256) := fun i hi => by rw [List.length_map, shr_n hi, conv_mod]
    have q24 : (⟨convK .u8 (shrK .i64 ((b.map u).length : Int) (⟨24⟩ : U64).n)⟩ : U8) = u (b.length / 16777216 % 256) := s1 24 (by decide)
    have q16 : (⟨convK .u8 (shrK .i64 ((b.map u).length : Int) (⟨16⟩ : U64).n)⟩ : U8) = u (b.length / 65536 % 256) := s1 16 (by decide)
    have q8 : (⟨convK .u8 (shrK .i64 ((b.map u).length : Int) (⟨8⟩ : U64).n)⟩ : U8) = u (b.length / 256 % 256) := s1 8 (by decide)
    have q0 : (⟨convK .u8 ((b.map u).length : Int)⟩ : U8) = u (b.length % 256) := by rw [List.length_map, conv_mod]
    rw [q24, q16, q8, q0, List.map_append, List.map_append, List.drop_replicate, List.length_map, List.map_replicate]
    rfl
  have hks : k * s ≤ 16 * 65536 := Nat.mul_le_mul hk (by omega)
  have ch : chunkG N ((allD b k s).map u) (s : Int) N 0 [] = some (um (dataD b k s)) := by
    have := chunk_l (N := N) (l := allD b k s) hk (by omega) (allD_len z1) N 0 (by omega) (by omega) z3
    rw [Nat.zero_mul] at this
    exact this
  have pa := parity_ok (N := N) (k := k) (s := s) (m := m) hN hk0 hk (by omega) hD hm
  have hn : ((b.map u).length : Int) ≤ 2000 := by rw [List.length_map]; omega
  have hsk : s * k = k * s := Nat.mul_comm s k
  unfold check_Divide
  rw [if_neg (show ¬ (decide ((k : Int) < 1) = true) by simp; omega), if_neg (show ¬ (decide ((16 : Int) < (k : Int)) = true) by simp; omega), if_neg (show ¬ (decide ((m : Int) < 0) = true) by simp), decide_eq_false (show ¬ ((16 : Int) < (m : Int)) by omega), Option.bind_some]
  dsimp only
  rw [if_neg Bool.false_ne_true, eS, eA, chk, if_pos (show inR (((b.map u).length : Int) + 4) by unfold inR; omega), chk, if_pos (show inR (((b.map u).length : Int) + 4 + (k : Int)) by unfold inR; omega), chk, if_pos (show inR (((b.map u).length : Int) + 4 + (k : Int) - 1) by unfold inR; omega), chk, if_pos ⟨by omega, (show inR (s : Int) by unfold inR; omega)⟩,
    if_neg (show ¬ (decide ((65536 : Int) < (s : Int)) = true) by simp; omega), eL, chk, if_pos (show inR ((s * k : Nat) : Int) by unfold inR; omega), chk, if_pos ⟨by omega, by omega, by omega⟩, chk, if_pos (show (0 : Int) ≤ (⟨24⟩ : U64).n by decide), chk, if_pos (show (0 : Int) ≤ (⟨16⟩ : U64).n by decide), chk, if_pos (show (0 : Int) ≤ (⟨8⟩ : U64).n by decide),
    chk, if_pos (by rw [Int.toNat_natCast]; omega), chk, if_pos (by omega), ch, Option.bind_some, pa, Option.bind_some, if_neg (by simp), chk, if_pos ⟨by rw [um_len, um_len, hD.1]; simp; omega, by rw [um_len, um_len, hD.1]; simp; omega⟩]
  have e : um (dataD b k s) ++ um ((List.range m).map fun j => blk k s (dataD b k s) (k + j)) = um ((List.range (k + m)).map (blk k s (dataD b k s))) := by
    unfold um
    rw [← List.map_append]
    congr 1
    rw [List.range_add, List.map_append, List.map_map]
    congr 1
    refine mx_ext (by rw [hD.1]; simp) (fun r hr => ?_)
    have hr' : r < k := by rw [← hD.1]; exact hr
    rw [rw_lt (R := (List.range k).map (blk k s (dataD b k s))) (by simpa using hr'), List.getElem_map, List.getElem_range, blk_data hk0 hk (by omega) hD hr']
  rw [e]
end Go.Arm
namespace Go.Arm
open Go Go.RowKit Go.Gf

theorem rng4 (L : Nat) (m : Int) : (if decide ((L : Int) < 1) then
  (some (true))
  else
  (if decide (16 < (L : Int)) then
  (some (true))
  else
  (if decide (m < 0) then
  (some (true))
  else
  (some (decide (16 < m)))))) = some (decide (L < 1 ∨ 16 < L ∨ m < 0 ∨ 16 < m)) := by
  by_cases h1 : L < 1
  · rw [if_pos (decide_eq_true (by omega)), decide_eq_true (.inl h1)]
  · rw [if_neg (by simp; omega)]
    by_cases h2 : 16 < L
    · rw [if_pos (decide_eq_true (by omega)), decide_eq_true (.inr (.inl h2))]
    · rw [if_neg (by simp; omega)]
      by_cases h3 : m < 0
      · rw [if_pos (decide_eq_true h3), decide_eq_true (.inr (.inr (.inl h3)))]
      · rw [if_neg (by simpa using h3)]
        congr 1
        simp [h1, h2, h3]
theorem rng5 (k m : Int) : (if decide (k < 1) then
  (some (true))
  else
  (if decide (16 < k) then
  (some (true))
  else
  (if decide (m < 0) then
  (some (true))
  else
  (some (decide (16 < m)))))) = some (decide (k < 1 ∨ 16 < k ∨ m < 0 ∨ 16 < m)) := by
  by_cases h1 : k < 1
  · rw [if_pos (decide_eq_true h1), decide_eq_true (.inl h1)]
  · rw [if_neg (by simpa using h1)]
    by_cases h2 : 16 < k
    · rw [if_pos (decide_eq_true h2), decide_eq_true (.inr (.inl h2))]
    · rw [if_neg (by simpa using h2)]
      by_cases h3 : m < 0
      · rw [if_pos (decide_eq_true h3), decide_eq_true (.inr (.inr (.inl h3)))]
      · rw [if_neg (by simpa using h3)]
        congr 1
        simp [h1, h2, h3]
theorem even_q {N : Nat} {X : Mx} (hX : 0 < X.length) (hl : X.length ≤ 70000) : ∀ (n i : Nat), X.length < i + n → i ≤ X.length →
    ((∀ j, i ≤ j → j < X.length → (rw_ X j).length = (rw_ X 0).length) ∧ slices_IndexFunc_LLbyte_Lbyte_l1 N (um X) (fun x => check_sized_1 N x (um X)) n (i : Int) = some (.inl ()) ∧ ref14_Parity_l1 N (um X) n (i : Int) = some (.inl ()))
    ∨ ∃ j : Nat, slices_IndexFunc_LLbyte_Lbyte_l1 N (um X) (fun x => check_sized_1 N x (um X)) n (i : Int) = some (.inr (j : Int)) ∧ ref14_Parity_l1 N (um X) n (i : Int) = some (.inr ([], 26))
  | 0, i, h1, h2 => by omega
  | n + 1, i, h1, h2 => by
    have d0 : idx (um X) 0 = some ((rw_ X 0).map u) := idx_um (r := 0) hX
    rw [slices_IndexFunc_LLbyte_Lbyte_l1.eq_2, ref14_Parity_l1.eq_2]
    by_cases hi : i < X.length
    · have c1 : decide ((i : Int) < ((um X).length : Int)) = true := by rw [um_len]; simp; exact hi
      have hin : inR ((i : Int) + 1) := by unfold inR; omega
      rw [if_pos c1, if_pos c1, idx_um hi, Option.bind_some]
      have q1 : check_sized_1 N ((rw_ X i).map u) (um X) = some (!decide ((((rw_ X i).map u).length : Int) = (((rw_ X 0).map u).length : Int))) := by
        unfold check_sized_1; rw [d0, Option.bind_some]
      rw [q1, Option.bind_some, Option.bind_some, d0, Option.bind_some]
      by_cases he : (rw_ X i).length = (rw_ X 0).length
      · have c2 : ¬ ((!decide ((((rw_ X i).map u).length : Int) = (((rw_ X 0).map u).length : Int))) = true) := by simp [he]
        rw [if_neg c2, if_neg c2, chk, if_pos hin, chk, if_pos hin]
        rcases even_q (N := N) hX hl n (i + 1) (by omega) (by omega) with ⟨a, b⟩ | b
        · refine Or.inl ⟨fun j hj1 hj2 => ?_, b⟩
          by_cases e : j = i
          · rw [e]; exact he
          · exact a j (by omega) hj2
        · exact Or.inr b
      · have c2 : (!decide ((((rw_ X i).map u).length : Int) = (((rw_ X 0).map u).length : Int))) = true := by
          simp only [List.length_map, Bool.not_eq_true', decide_eq_false_iff_not]; omega
        rw [if_pos c2, if_pos c2]
        exact Or.inr ⟨i, rfl, rfl⟩
    · have c1 : ¬ (decide ((i : Int) < ((um X).length : Int)) = true) := by rw [um_len]; simp; omega
      rw [if_neg c1, if_neg c1]
      exact Or.inl ⟨fun j h3 h4 => by omega, rfl, rfl⟩
theorem rpar_l {N k s m : Nat} {D : Mx} (hN : 70000 < N) (hk0 : 1 ≤ k) (hk : k ≤ 16) (hs : s ≤ 70000) (hD : Shape k s D) (hm : m ≤ 16) : ∀ (n i : Nat), m < i + n → i ≤ m →
    ref14_Parity_l2 N (um D) (m : Int) n (um ((List.range i).map fun j => blk k s D (k + j))) (i : Int) = some (um ((List.range m).map fun j => blk k s D (k + j)))
  | 0, i, h1, h2 => by omega
  | n + 1, i, h1, h2 => by
    have hmax := maxLen_big
    rw [ref14_Parity_l2.eq_2]
    by_cases hi : i < m
    · have c1 : decide ((i : Int) < (m : Int)) = true := by simp; exact hi
      have e : ((um D).length : Int) + (i : Int) = ((k + i : Nat) : Int) := by rw [um_len, hD.1]; omega
      have e' : ((um D).length : Int) = (k : Int) := by rw [um_len, hD.1]
      obtain ⟨_, b1, b2⟩ := block_eq hN hk0 hk hs hD (show k + i < k + 16 by omega)
      have k2 : ((um ((List.range i).map fun j => blk k s D (k + j))).length + ([(blk k s D (k + i)).map u] : List (List U8)).length) * 24 ≤ 140737488355328 ∧ (um ((List.range i).map fun j => blk k s D (k + j))).length + ([(blk k s D (k + i)).map u] : List (List U8)).length ≤ maxLen := by
        rw [um_len]; simp only [List.length_map, List.length_range, List.length_singleton]; exact ⟨by omega, by omega⟩
      rw [if_pos c1, e, e', chk, if_pos (show inR ((k + i : Nat) : Int) by unfold inR; omega), b1, Option.bind_some, b2, Option.bind_some, chk, if_pos k2, chk, if_pos (show inR ((i : Int) + 1) by unfold inR; omega), um_snoc, range_snoc (fun j => blk k s D (k + j))]
      exact rpar_l hN hk0 hk hs hD hm n (i + 1) (by omega) (by omega)
    · have c1 : ¬ (decide ((i : Int) < (m : Int)) = true) := by simp; omega
      rw [if_neg c1, show i = m by omega]
/-- Both give the same. -/
theorem parity_both {N : Nat} {X : Mx} (hX : X.length ≤ 40) (hb : ∀ i, i < X.length → ∀ x, x ∈ rw_ X i → x < 256) (m : Int) (hN : 70000 < N) :
    ∃ L e, check_Parity N (um X) m = some (L, e) ∧ ref14_Parity N (um X) m = some (L, e) ∧ L.length ≤ 16 := by
  by_cases hr : X.length < 1 ∨ 16 < X.length ∨ m < 0 ∨ 16 < m
  · refine ⟨[], 3, ?_, ?_, by simp⟩
    · unfold check_Parity
      rw [um_len, rng4 X.length m, decide_eq_true hr]; rfl
    · unfold ref14_Parity
      rw [um_len, rng4 X.length m, decide_eq_true hr]; rfl
  obtain ⟨mn, rfl⟩ : ∃ mn : Nat, m = (mn : Int) := ⟨m.toNat, by omega⟩
  have hX0 : 0 < X.length := by omega
  have d0 : idx (um X) 0 = some ((rw_ X 0).map u) := idx_um (r := 0) hX0
  by_cases h8 : 65536 < (rw_ X 0).length
  · have c8 : decide ((65536 : Int) < (((rw_ X 0).map u).length : Int)) = true := by simp; omega
    have sz8 : check_sized N (um X) = some 8 := by
      unfold check_sized
      rw [d0, Option.bind_some, if_pos c8]
    refine ⟨[], 8, ?_, ?_, by simp⟩
    · unfold check_Parity
      rw [um_len, rng4 X.length mn, decide_eq_false hr, Option.bind_some]
      dsimp only
      rw [if_neg Bool.false_ne_true, sz8]; rfl
    · unfold ref14_Parity
      rw [um_len, rng4 X.length mn, decide_eq_false hr, Option.bind_some]
      dsimp only
      rw [if_neg Bool.false_ne_true, d0, Option.bind_some, if_pos c8]
  have c8 : ¬ (decide ((65536 : Int) < (((rw_ X 0).map u).length : Int)) = true) := by simp; omega
  rcases even_q (N := N) hX0 (by omega) N 0 (by omega) (by omega) with ⟨ev, e1, e2⟩ | ⟨j, e1, e2⟩
  · have hD : Shape X.length (rw_ X 0).length X := ⟨rfl, fun r hr => ⟨ev r (by omega) hr, hb r hr⟩⟩
    have e2' : ref14_Parity_l1 N (um X) N 0 = _ := e2
    have p2 : ref14_Parity_l2 N (um X) (mn : Int) N [] 0 = _ := rpar_l (N := N) hN (by omega) (by omega) (by omega) hD (show mn ≤ 16 by omega) N 0 (by omega) (by omega)
    refine ⟨_, 0, parity_ok hN (by omega) (by omega) (by omega) hD (by omega), ?_, by rw [um_len]; simp; omega⟩
    unfold ref14_Parity
    rw [um_len, rng4 X.length mn, decide_eq_false hr, Option.bind_some]
    dsimp only
    rw [if_neg Bool.false_ne_true, d0, Option.bind_some, if_neg c8, e2', Option.bind_some]
    dsimp only
    rw [p2]; rfl
  · have e1' : slices_IndexFunc_LLbyte_Lbyte_l1 N (um X) (fun x => check_sized_1 N x (um X)) N 0 = _ := e1
    have e2' : ref14_Parity_l1 N (um X) N 0 = _ := e2
    have sz : check_sized N (um X) = some 26 := by
      unfold check_sized
      rw [d0, Option.bind_some, if_neg c8]
      unfold slices_ContainsFunc_LLbyte_Lbyte slices_IndexFunc_LLbyte_Lbyte
      rw [e1', Option.bind_some]
      show (Option.bind (some (decide (0 ≤ (j : Int)))) fun y17 => if y17 then some 26 else some 0) = _
      rw [Option.bind_some, if_pos (by simp)]
    refine ⟨[], 26, ?_, ?_, by simp⟩
    · unfold check_Parity
      rw [um_len, rng4 X.length mn, decide_eq_false hr, Option.bind_some]
      dsimp only
      rw [if_neg Bool.false_ne_true, sz]; rfl
    · unfold ref14_Parity
      rw [um_len, rng4 X.length mn, decide_eq_false hr, Option.bind_some]
      dsimp only
      rw [if_neg Bool.false_ne_true, d0, Option.bind_some, if_neg c8, e2']
      rfl
theorem rparity_ok {N k s m : Nat} {D : Mx} (hN : 70000 < N) (hk0 : 1 ≤ k) (hk : k ≤ 16) (hs : s ≤ 65536) (hD : Shape k s D) (hm : m ≤ 16) :
    ref14_Parity N (um D) (m : Int) = some (um ((List.range m).map fun j => blk k s D (k + j)), 0) := by
  have lD := hD.1
  obtain ⟨L, e, p1, p2, _⟩ := parity_both (N := N) (X := D) (by omega) (fun i hi => (hD.2 i (by omega)).2) (m : Int) hN
  rw [p2, ← p1]
  exact parity_ok hN hk0 hk hs hD hm
/-- The reference divides into the same blocks. -/
theorem rdivide_ok {N k m : Nat} {b : Row} (hk0 : 1 ≤ k) (hk : k ≤ 16) (hm : m ≤ 16) (hb : b.length ≤ 2000) (hby : ∀ x, x ∈ b → x < 256) (hN : 70000 < N) :
    ref14_Divide N (b.map u) (k : Int) (m : Int) = some (um ((List.range (k + m)).map (blk k (szD b k) (dataD b k (szD b k)))), 0) := by
  have hmax : 2 ^ 60 ≤ maxLen := by decide
  obtain ⟨z1, z2, z3, z4⟩ := sz_spec (b := b) hk0
  have hD := dataD_shape (k := k) z1 hby
  generalize szD b k = s at *
  have eH : ([(⟨convK .u8 (Int.tdiv ((b.map u).length : Int) 16777216)⟩ : U8), (⟨convK .u8 (Int.tdiv ((b.map u).length : Int) 65536)⟩ : U8), (⟨convK .u8 (Int.tdiv ((b.map u).length : Int) 256)⟩ : U8), (⟨convK .u8 ((b.map u).length : Int)⟩ : U8)] : List U8) ++ b.map u = (hd4 b.length ++ b).map u := by
    have s1 : ∀ d : Nat, (⟨convK .u8 (Int.tdiv ((b.map u).length : Int) (d : Int))⟩ : U8) = u (b.length / d % 256) := fun d => by rw [List.length_map, tdiv_nat, conv_mod]
    have q24 : (⟨convK .u8 (Int.tdiv ((b.map u).length : Int) 16777216)⟩ : U8) = _ := s1 16777216
    have q16 : (⟨convK .u8 (Int.tdiv ((b.map u).length : Int) 65536)⟩ : U8) = _ := s1 65536
    have q8 : (⟨convK .u8 (Int.tdiv ((b.map u).length : Int) 256)⟩ : U8) = _ := s1 256
    have q0 : (⟨convK .u8 ((b.map u).length : Int)⟩ : U8) = u (b.length % 256) := by rw [List.length_map, conv_mod]
    rw [q24, q16, q8, q0]; rfl
  have hn : ((b.map u).length : Int) ≤ 2000 := by rw [List.length_map]; omega
  have hl4 : (hd4 b.length ++ b).length = b.length + 4 := by simp [hd4]
  have hp : padN (b.length + 4) k = s * k - 4 - b.length := pad_only hk0 (by omega) (by
    rw [show b.length + 4 + (s * k - 4 - b.length) = s * k by omega]; exact Nat.mul_mod_left _ _)
  obtain ⟨p1, p2, p3⟩ := pad_spec (x := b.length + 4) (k := k) hk0
  have d1 : ref14_Divide_l1 N (k : Int) N ((hd4 b.length ++ b).map u) = some ((allD b k s).map u) := by
    have := div1 (N := N) hk0 (padN (b.length + 4) k) N (hd4 b.length ++ b) (by omega) (by omega) (by rw [hl4]; exact p1) (by rw [hl4]; exact p3)
    rw [hp] at this
    exact this
  have lA := allD_len z1
  have hks : k * s ≤ 16 * 65536 := Nat.mul_le_mul hk (by omega)
  have d2 : ref14_Divide_l2 N (k : Int) ((allD b k s).map u) N [] 0 = some (um (dataD b k s)) := div2 (N := N) hk hk0 lA (by omega) N 0 (by omega) (by omega)
  have pa := rparity_ok (N := N) (k := k) (s := s) (m := m) hN hk0 hk (by omega) hD hm
  unfold ref14_Divide
  rw [rng5, decide_eq_false (by omega), Option.bind_some]
  dsimp only
  rw [if_neg Bool.false_ne_true, chk, if_pos (show inR (((b.map u).length : Int) + 4) by unfold inR; omega), chk, if_pos (show inR ((k : Int) * 65536) by unfold inR; omega), if_neg (show ¬ (decide ((k : Int) * 65536 < ((b.map u).length : Int) + 4) = true) by simp only [decide_eq_true_eq]; omega)]
  have t1 : ∀ d : Nat, inR (Int.tdiv ((b.map u).length : Int) (d : Int)) := fun d => by
    rw [List.length_map, tdiv_nat]
    have := Nat.div_le_self b.length d
    generalize b.length / d = q at *
    unfold inR; omega
  rw [chk, if_pos ⟨by decide, t1 16777216⟩, chk, if_pos ⟨by decide, t1 65536⟩, chk, if_pos ⟨by decide, t1 256⟩, chk, if_pos ⟨by simp only [List.length_cons, List.length_nil]; omega, by simp only [List.length_cons, List.length_nil]; omega⟩, eH, d1, Option.bind_some]
  have t2 : inR (Int.tdiv (((allD b k s).map u).length : Int) (k : Int)) := by
    rw [List.length_map, tdiv_nat, lA, Nat.mul_div_cancel_left _ hk0]; unfold inR; omega
  rw [chk, if_pos ⟨by omega, t2⟩, d2, Option.bind_some, pa, Option.bind_some]
  dsimp only
  rw [chk, if_pos ⟨by rw [um_len, um_len, hD.1]; simp; omega, by rw [um_len, um_len, hD.1]; simp; omega⟩]
  have e : um (dataD b k s) ++ um ((List.range m).map fun j => blk k s (dataD b k s) (k + j)) = um ((List.range (k + m)).map (blk k s (dataD b k s))) := by
    unfold um
    rw [← List.map_append]
    congr 1
    rw [List.range_add, List.map_append, List.map_map]
    congr 1
    refine mx_ext (by rw [hD.1]; simp) (fun r hr => ?_)
    have hr' : r < k := by rw [← hD.1]; exact hr
    rw [rw_lt (R := (List.range k).map (blk k s (dataD b k s))) (by simpa using hr'), List.getElem_map, List.getElem_range, blk_data hk0 hk (by omega) hD hr']
  rw [e]
end Go.Arm
namespace Go.Arm
open Go Go.RowKit Go.Gf

theorem few_l {N : Nat} (a : List (List U8)) (ha : a.length ≤ maxLen) : ∀ (m i : Nat) (s : Int), i ≤ a.length → a.length < i + m → ∃ r, law14_few_l1 N a m s (i : Int) = some r
  | 0, i, s, h0, h1 => by omega
  | m + 1, i, s, h0, h1 => by
    rw [law14_few_l1.eq_2]
    by_cases h : i < a.length
    · have c1 : decide ((i : Int) < (a.length : Int)) = true := by simp; exact h
      have hin : inR ((i : Int) + 1) := by simp only [maxLen] at ha; unfold inR; omega
      rw [if_pos c1, idx_n h, Option.bind_some, chk, if_pos hin]
      exact few_l a ha m (i + 1) _ (by omega) (by omega)
    · have c1 : ¬ (decide ((i : Int) < (a.length : Int)) = true) := by simp; omega
      rw [if_neg c1]
      exact ⟨s, rfl⟩
theorem equal_l {N : Nat} {L : List (List U8)} (hL : L.length ≤ 3000) : ∀ (n i : Nat), L.length < i + n → i ≤ L.length → law14_equal_l1 N L L n (i : Int) = some (.inl ())
  | 0, i, h0, h1 => by omega
  | n + 1, i, h0, h1 => by
    rw [law14_equal_l1.eq_2]
    by_cases h : i < L.length
    · have c1 : decide ((i : Int) < (L.length : Int)) = true := by simp; exact h
      have c2 : ∀ x : List U8, ¬ ((!decide (txtOf x = txtOf x)) = true) := fun x => by simp
      rw [if_pos c1, idx_n h, Option.bind_some, Option.bind_some, if_neg (c2 _), chk, if_pos (show inR ((i : Int) + 1) by unfold inR; omega)]
      exact equal_l hL n (i + 1) (by omega) (by omega)
    · have c1 : ¬ (decide ((i : Int) < (L.length : Int)) = true) := by simp; omega
      rw [if_neg c1]
theorem equal_self {N : Nat} {L : List (List U8)} (hL : L.length ≤ 3000) (hN : 3000 < N) : law14_equal N L L = some true := by
  have h : law14_equal_l1 N L L N 0 = _ := equal_l (N := N) hL N 0 (by omega) (by omega)
  unfold law14_equal
  have c : ¬ ((!decide ((L.length : Int) = (L.length : Int))) = true) := by simp
  rw [if_neg c, h]
  rfl
/-- Each row has few bytes. -/
def RowsLe (X : List (List U8)) : Prop := X.length ≤ 3000 ∧ ∀ x, x ∈ X → x.length ≤ 3000
theorem incJ_l {r : Nat} : ∀ (m j : Nat) (X : List (List U8)) (_ : RowsLe X) (hr : r < X.length), X[r].length < j + m → j ≤ X[r].length → ∃ Y, incJ (r : Int) m (j : Int) X = some Y ∧ RowsLe Y ∧ Y.length = X.length
  | 0, j, X, hX, hr, h1, h2 => by omega
  | m + 1, j, X, hX, hr, h1, h2 => by
    have hl := hX.2 _ (List.getElem_mem hr)
    unfold incJ
    rw [idx_n hr, Option.bind_some]
    by_cases h : j < X[r].length
    · rw [if_pos (show decide ((j : Int) < (X[r].length : Int)) = true by simp; exact h), idx_n h, Option.bind_some, chk, if_pos (show inR ((j : Int) + 1) by unfold inR; omega), Int.toNat_natCast, Int.toNat_natCast]
      generalize hy : (X[r].set j ⟨addK .u8 (X[r][j]).n 1⟩) = y
      have ly : y.length = X[r].length := by rw [← hy, List.length_set]
      obtain ⟨Y, q1, q2, q3⟩ := incJ_l m (j + 1) (X.set r y) ⟨by rw [List.length_set]; exact hX.1, fun x hx => by
        rcases List.mem_or_eq_of_mem_set hx with hx | rfl
        · exact hX.2 x hx
        · omega⟩ (by rw [List.length_set]; exact hr) (by rw [List.getElem_set_self, ly]; omega) (by rw [List.getElem_set_self, ly]; omega)
      exact ⟨Y, q1, q2, by rw [q3, List.length_set]⟩
    · rw [if_neg (show ¬ (decide ((j : Int) < (X[r].length : Int)) = true) by simp; omega)]
      exact ⟨X, rfl, hX, rfl⟩
theorem incI_l {N : Nat} (hN : 3000 < N) : ∀ (m i : Nat) (X : List (List U8)), RowsLe X → X.length < i + m → i ≤ X.length → ∃ Y, incI N m (i : Int) X = some Y
  | 0, i, X, hX, h1, h2 => by omega
  | m + 1, i, X, hX, h1, h2 => by
    unfold incI
    by_cases h : i < X.length
    · have hl := hX.2 _ (List.getElem_mem h)
      obtain ⟨Y, q1, q2, q3⟩ := incJ_l (r := i) N 0 X hX h (by omega) (by omega)
      have q1' : incJ (i : Int) N 0 X = _ := q1
      have := hX.1
      rw [if_pos (show decide ((i : Int) < (X.length : Int)) = true by simp; exact h), q1', Option.bind_some, chk, if_pos (show inR ((i : Int) + 1) by unfold inR; omega)]
      exact incI_l hN m (i + 1) Y q2 (by omega) (by omega)
    · rw [if_neg (show ¬ (decide ((i : Int) < (X.length : Int)) = true) by simp; omega)]
      exact ⟨X, rfl⟩
theorem divide_rows {N : Nat} {b : Row} (hb : b.length ≤ 2000) (hby : ∀ x, x ∈ b → x < 256) (k m : Int) (hN : 70000 < N) :
    ∃ L e, check_Divide N (b.map u) k m = some (L, e) ∧ ref14_Divide N (b.map u) k m = some (L, e) ∧ RowsLe L := by
  by_cases hr : k < 1 ∨ 16 < k ∨ m < 0 ∨ 16 < m
  · refine ⟨[], 3, ?_, ?_, by simp, by simp⟩
    · unfold check_Divide
      rw [rng5, decide_eq_true hr]; rfl
    · unfold ref14_Divide
      rw [rng5, decide_eq_true hr]; rfl
  obtain ⟨mn, rfl⟩ : ∃ mn : Nat, m = (mn : Int) := ⟨m.toNat, by omega⟩
  obtain ⟨kn, rfl⟩ : ∃ kn : Nat, k = (kn : Int) := ⟨k.toNat, by omega⟩
  have hk0 : 1 ≤ kn := by omega
  obtain ⟨z1, z2, z3, z4⟩ := sz_spec (b := b) hk0
  have hD := dataD_shape (k := kn) z1 hby
  refine ⟨_, _, divide_ok hk0 (by omega) (by omega) hb hby hN, rdivide_ok hk0 (by omega) (by omega) hb hby hN, by rw [um_len]; simp; omega, fun x hx => ?_⟩
  unfold um at hx
  obtain ⟨y, hy, rfl⟩ := List.mem_map.1 hx
  obtain ⟨j, _, rfl⟩ := List.mem_map.1 hy
  rw [List.length_map, (blk_ok (by omega) (by omega) hD hk0).1]
  omega
theorem byte_um (a : List U8) (h : ∀ y ∈ a, (Lit.int .u8 y.n).wf = true) : ∃ b : Row, a = b.map u ∧ ∀ x, x ∈ b → x < 256 := by
  have key : ∀ y : U8, (Lit.int .u8 y.n).wf = true → u y.n.toNat = y ∧ y.n.toNat < 256 := fun y hy => by
    have h1 : 0 ≤ y.n ∧ y.n < 256 := by
      have a1 : IntKind.u8.min = 0 := by decide
      have a2 : IntKind.u8.max = 255 := by decide
      simp only [Lit.wf, a1, a2, Bool.and_eq_true, decide_eq_true_eq] at hy
      omega
    refine ⟨?_, by omega⟩
    unfold u
    rw [Int.toNat_of_nonneg h1.1]
  refine ⟨a.map fun y => y.n.toNat, ?_, fun x hx => ?_⟩
  · rw [List.map_map]
    conv => lhs; rw [← List.map_id a]
    exact List.map_congr_left fun y hy => ((key y (h y hy)).1).symm
  · obtain ⟨y, hy, rfl⟩ := List.mem_map.1 hx
    exact (key y (h y hy)).2
theorem lawB (a0 : List (List U8)) (h : a0.length ≤ maxLen ∧ ∀ x ∈ a0, x.length ≤ maxLen ∧ ∀ y ∈ x, (Lit.int .u8 y.n).wf = true) (a1 : List U8) (h1 : a1.length ≤ maxLen ∧ ∀ x ∈ a1, (Lit.int .u8 x.n).wf = true) (a2 a3 : Int) : ∃ N, law14_CheckBlocks N a0 a1 a2 a3 = some true := by
  refine ⟨100000001 + a0.length, ?_⟩
  generalize hN' : 100000001 + a0.length = N
  have hN : 100000000 < N := by omega
  have hNa : a0.length < N := by omega
  clear hN'
  have hw : law14_works N = some true := rfl
  obtain ⟨r, hr⟩ := few_l (N := N) a0 h.1 N 0 0 (by omega) (by omega)
  have hr' : law14_few_l1 N a0 N 0 0 = some r := hr
  have hfew : law14_few N a0 = some (decide ((a0.length : Int) ≤ 40) && decide (r ≤ 2000)) := by
    unfold law14_few
    rw [hr', Option.bind_some]
    by_cases h4 : (a0.length : Int) ≤ 40
    · rw [if_pos (decide_eq_true h4), decide_eq_true h4]; rfl
    · rw [if_neg (by simpa using h4), decide_eq_false h4]; rfl
  unfold law14_CheckBlocks
  rw [hfew, Option.bind_some]
  by_cases hf : (decide ((a0.length : Int) ≤ 40) && decide (r ≤ 2000)) = true
  · rw [hf, if_neg (by simp), Option.bind_some]
    dsimp only
    by_cases h5 : decide ((2000 : Int) < (a1.length : Int)) = true
    · rw [if_pos h5, hw]; rfl
    · rw [if_neg h5]
      have h40 : (a0.length : Int) ≤ 40 := by
        rw [Bool.and_eq_true] at hf
        exact of_decide_eq_true hf.1
      have h20 : (a1.length : Int) ≤ 2000 := by simpa using h5
      obtain ⟨B, rfl, hb⟩ := blocks_um a0 (fun x hx => (h.2 x hx).2)
      obtain ⟨b, rfl, hby⟩ := byte_um a1 h1.2
      rw [um_len] at h40
      rw [List.length_map] at h20
      obtain ⟨L, e, p1, p2, p3⟩ := parity_both (N := N) (X := B) (by omega) hb a3 (by omega)
      obtain ⟨M, f, q1, q2, q3⟩ := divide_rows (N := N) (b := b) (by omega) hby a2 a3 (by omega)
      obtain ⟨Y, i1⟩ := incI_l (N := N) (by omega) N 0 M q3 (by have := q3.1; omega) (by omega)
      have i1' : incI N N 0 M = _ := i1
      have c : ¬ ((!true) = true) := by simp
      have c2 : ∀ x : Int, (!decide (x = x)) = false := fun x => by simp
      have c3 : ∀ x : List U8, decide (txtOf x = txtOf x) = true := fun x => by simp
      rw [p1, p2, Option.bind_some, Option.bind_some, equal_self (show L.length ≤ 3000 by omega) (by omega), Option.bind_some, if_neg c, Option.bind_some]
      dsimp only
      rw [c2, if_neg Bool.false_ne_true, q1, q2, Option.bind_some, Option.bind_some, equal_self q3.1 (by omega), Option.bind_some, if_neg c, Option.bind_some]
      dsimp only
      rw [c2, if_neg Bool.false_ne_true, i1', Option.bind_some, if_pos (c3 _), hw]
      rfl
  · have e : (!(decide ((a0.length : Int) ≤ 40) && decide (r ≤ 2000))) = true := by rw [Bool.eq_false_iff.2 hf]; rfl
    rw [if_pos e, Option.bind_some]
    dsimp only
    rw [if_pos rfl, hw]; rfl
end Go.Arm
