/- Plain laws. -/
import Derived.Test.YtdaedcoolcicoaaPrf
namespace Go.Arm
open Go Go.RowKit

theorem wrapU (x : Int) : IntKind.wrap .u64 x = x % 18446744073709551616 := by
  simp [IntKind.wrap, IntKind.bits, IntKind.signed]
theorem shr32 (a : Int) : shrK .u64 a 32 = a / 4294967296 := by
  simp [shrK, IntKind.bits, Int.fdiv_eq_ediv_of_nonneg]
theorem and32 {a : Int} (h : 0 ≤ a) (h2 : a < 18446744073709551616) : andK .u64 a 4294967295 = a % 4294967296 := by
  unfold andK
  rw [wrapU]
  obtain ⟨k, rfl⟩ := Int.eq_ofNat_of_zero_le h
  have hk : k < 2 ^ 64 := by have : (k : Int) < 18446744073709551616 := h2; omega
  have e1 : (BitVec.ofInt (IntKind.bits .u64) (k : Int)).toNat = k := by
    show (BitVec.ofInt 64 (k : Int)).toNat = k
    simp; omega
  have e2 : (BitVec.ofInt (IntKind.bits .u64) (4294967295 : Int)).toNat = 4294967295 := by decide
  rw [BitVec.toNat_and, e1, e2]
  have e3 : k &&& 4294967295 = k % 4294967296 := Nat.and_two_pow_sub_one_eq_mod k 32
  rw [e3]
  omega

theorem mul64_eq (N : Nat) {x y : Int} (hx : 0 ≤ x) (hx2 : x < 9223372036854775808) (hy : 0 ≤ y) (hy2 : y < 9223372036854775808) :
    math_bits_Mul64 N ⟨x⟩ ⟨y⟩ = some (⟨x * y / 18446744073709551616⟩, ⟨x * y % 18446744073709551616⟩) := by
  have hb : x / 4294967296 < 2147483648 := by omega
  have hd : y / 4294967296 < 2147483648 := by omega
  have hb0 : 0 ≤ x / 4294967296 := by omega
  have hd0 : 0 ≤ y / 4294967296 := by omega
  generalize hB : x / 4294967296 = B at *
  generalize hA : x % 4294967296 = A
  generalize hD : y / 4294967296 = D at *
  generalize hC : y % 4294967296 = C
  have hx' : x = B * 4294967296 + A := by omega
  have hy' : y = D * 4294967296 + C := by omega
  have hA0 : 0 ≤ A := by omega
  have hA1 : A ≤ 4294967295 := by omega
  have hC0 : 0 ≤ C := by omega
  have hC1 : C ≤ 4294967295 := by omega
  have m1 : 0 ≤ A * C := Int.mul_nonneg hA0 hC0
  have m2 : A * C ≤ 4294967295 * 4294967295 := Int.mul_le_mul hA1 hC1 hC0 (by decide)
  have m3 : 0 ≤ B * C := Int.mul_nonneg hb0 hC0
  have m4 : B * C ≤ 2147483647 * 4294967295 := Int.mul_le_mul (by omega) hC1 hC0 (by decide)
  have m5 : 0 ≤ A * D := Int.mul_nonneg hA0 hd0
  have m6 : A * D ≤ 4294967295 * 2147483647 := Int.mul_le_mul hA1 (by omega) hd0 (by decide)
  have m7 : 0 ≤ B * D := Int.mul_nonneg hb0 hd0
  have m8 : B * D ≤ 2147483647 * 2147483647 := Int.mul_le_mul (by omega) (by omega) hd0 (by decide)
  have hxy : x * y = B * D * 18446744073709551616 + (B * C + A * D) * 4294967296 + A * C := by
    rw [hx', hy']
    grind
  unfold math_bits_Mul64 chk
  simp only [if_pos (show (0 : Int) ≤ 32 by decide), shr32, and32 hx (by omega), and32 hy (by omega), hB, hA, hD, hC]
  simp only [mulK, addK, wrapU]
  rw [Int.emod_eq_of_lt m1 (by omega), Int.emod_eq_of_lt m3 (by omega), Int.emod_eq_of_lt m5 (by omega), Int.emod_eq_of_lt m7 (by omega)]
  rw [hxy]
  generalize A * C = p at *
  generalize B * C = q at *
  generalize A * D = r at *
  generalize B * D = t at *
  rw [Int.emod_eq_of_lt (a := q + p / 4294967296) (by omega) (by omega)]
  rw [and32 (a := q + p / 4294967296) (by omega) (by omega)]
  rw [Int.emod_eq_of_lt (a := (q + p / 4294967296) % 4294967296 + r) (by omega) (by omega)]
  rw [Int.emod_eq_of_lt (a := t + (q + p / 4294967296) / 4294967296) (by omega) (by omega)]
  rw [Int.emod_eq_of_lt (a := t + (q + p / 4294967296) / 4294967296 + ((q + p / 4294967296) % 4294967296 + r) / 4294967296) (by omega) (by omega)]
  congr 3
  congr 1
  omega

theorem compare_u64 (N : Nat) (x y : Int) : cmp_Compare_uint64 N ⟨x⟩ ⟨y⟩ = some (if x < y then -1 else if y < x then 1 else 0) := by
  unfold cmp_Compare_uint64 cmp_isNaN_uint64
  simp only [Option.bind_some, decide_true, Bool.not_true, Bool.false_eq_true, if_false]
  by_cases h : x < y
  · simp [h]
  · by_cases h2 : y < x <;> simp [h, h2]
theorem cmp_or2 (N : Nat) (x y : Int) : cmp_Or_int (N + 3) [x, y] = some (if x = 0 then y else x) := by
  unfold cmp_Or_int
  by_cases hx : x = 0
  · by_cases hy : y = 0
    · simp [cmp_Or_int_l1, hx, hy, chk, idx, show inR 1 by decide, show inR 2 by decide]
    · simp [cmp_Or_int_l1, hx, hy, chk, idx, show inR 1 by decide, show inR 2 by decide]
  · simp [cmp_Or_int_l1, hx, idx]

theorem convU {a : Int} (h : 0 ≤ a) (h2 : a < 9223372036854775808) : convK .u64 a = a := by
  unfold convK; rw [wrapU]; exact Int.emod_eq_of_lt h (by omega)

/-- Numbers that a loss may have. -/
def Fine (a : Loss) : Prop := 0 ≤ a.Num ∧ a.Num < 9223372036854775808 ∧ 0 < a.Den ∧ a.Den < 9223372036854775808
def lessL (a b : Loss) : Bool := decide (a.Num * b.Den < b.Num * a.Den)

theorem compare_less (N : Nat) {a b : Loss} (ha : Fine a) (hb : Fine b) : ∃ c, check_Loss_compare (N + 3) a b = some c ∧ decide (c < 0) = lessL a b := by
  obtain ⟨a1, a2, a3, a4⟩ := ha
  obtain ⟨b1, b2, b3, b4⟩ := hb
  unfold check_Loss_compare
  rw [convU a1 a2, convU b1 b2, convU (Int.le_of_lt a3) a4, convU (Int.le_of_lt b3) b4, mul64_eq _ a1 a2 (Int.le_of_lt b3) b4, mul64_eq _ b1 b2 (Int.le_of_lt a3) a4]
  simp only [Option.bind_some, compare_u64, cmp_or2]
  refine ⟨_, rfl, ?_⟩
  have p1 : 0 ≤ a.Num * b.Den := Int.mul_nonneg a1 (Int.le_of_lt b3)
  have p2 : 0 ≤ b.Num * a.Den := Int.mul_nonneg b1 (Int.le_of_lt a3)
  unfold lessL
  generalize a.Num * b.Den = u at *
  generalize b.Num * a.Den = v at *
  rw [Bool.eq_iff_iff]
  simp only [decide_eq_true_eq]
  repeat' split
  all_goals omega
end Go.Arm
namespace Go.Arm
open Go Go.RowKit

theorem gcd_step (a b : Int) (ha : 0 ≤ a) (hb : 0 < b) : Int.gcd b (Int.tmod a b) = Int.gcd a b := by
  rw [Int.tmod_eq_emod_of_nonneg ha]
  obtain ⟨x, rfl⟩ := Int.eq_ofNat_of_zero_le ha
  obtain ⟨y, rfl⟩ := Int.eq_ofNat_of_zero_le (Int.le_of_lt hb)
  rw [← Int.natCast_emod]
  show Nat.gcd y (x % y) = Nat.gcd x y
  rw [Nat.gcd_comm x y, Nat.gcd_comm y (x % y)]
  exact (Nat.gcd_rec y x).symm
theorem divisor_eq : ∀ (N : Nat) (a b : Int), 0 ≤ a → 0 ≤ b → b.toNat < N → check_divisor N a b = some (Int.gcd a b : Int)
  | 0, _, _, _, _, h => absurd h (Nat.not_lt_zero _)
  | N + 1, a, b, ha, hb, h => by
    rw [check_divisor.eq_2]
    by_cases h0 : b = 0
    · subst h0
      simp
      omega
    · have hpos : 0 < b := by omega
      have hm0 : 0 ≤ Int.tmod a b := by rw [Int.tmod_eq_emod_of_nonneg ha]; exact Int.emod_nonneg _ h0
      have hm1 : Int.tmod a b < b := by rw [Int.tmod_eq_emod_of_nonneg ha]; exact Int.emod_lt_of_pos _ hpos
      simp only [h0, decide_false, Bool.false_eq_true, if_false, chk, ne_eq, not_false_eq_true, if_true]
      rw [divisor_eq N b (Int.tmod a b) hb hm0 (by omega), gcd_step a b ha hpos]
      rfl
theorem idx_at {α : Type} {xs : List α} {i : Int} {y : α} (h0 : 0 ≤ i) (h : xs[i.toNat]? = some y) : idx xs i = some y := by
  unfold idx; rw [if_pos h0, h]

/-- One level's part of a loss. -/
def term (T w c m : Int) : Int := Int.tdiv T w * c + Int.tdiv T (2 * m) * w
structure TermOk (T w c m : Int) : Prop where
  w0 : 0 < w
  w1 : w ≤ 262144
  c0 : 1 ≤ c
  c1 : c ≤ 1024
  m0 : 1 ≤ m
  m1 : m ≤ 1024
  t0 : 0 ≤ T
  t1 : T ≤ 562949953421312
  t2 : T ≤ 2 * m * 274877906944

theorem TermOk.all {T w c m : Int} (h : TermOk T w c m) : (w ≠ 0 ∧ inR (Int.tdiv T w)) ∧ inR (Int.tdiv T w * c) ∧ inR (2 * m) ∧ (2 * m ≠ 0 ∧ inR (Int.tdiv T (2 * m))) ∧ inR (Int.tdiv T (2 * m) * w) ∧
    inR (Int.tdiv T w * c + Int.tdiv T (2 * m) * w) ∧ 0 ≤ term T w c m ∧ term T w c m ≤ 700000000000000000 := by
  obtain ⟨w0, w1, c0, c1, m0, m1, t0, t1, t2⟩ := h
  unfold term inR
  rw [Int.tdiv_eq_ediv_of_nonneg t0, Int.tdiv_eq_ediv_of_nonneg t0]
  have a0 : 0 ≤ T / w := Int.ediv_nonneg t0 (by omega)
  have a1 : T / w ≤ T := Int.ediv_le_self _ t0
  have b0 : 0 ≤ T / (2 * m) := Int.ediv_nonneg t0 (by omega)
  have b1 : T / (2 * m) ≤ 274877906944 := Int.ediv_le_of_le_mul (by omega) (by rw [Int.mul_comm]; exact t2)
  generalize T / w = A at *
  generalize T / (2 * m) = B at *
  have p0 : 0 ≤ A * c := Int.mul_nonneg a0 (by omega)
  have p1 : A * c ≤ 562949953421312 * 1024 := Int.mul_le_mul (by omega) c1 (by omega) (by decide)
  have q0 : 0 ≤ B * w := Int.mul_nonneg b0 (by omega)
  have q1 : B * w ≤ 274877906944 * 262144 := Int.mul_le_mul b1 w1 (by omega) (by decide)
  generalize A * c = X at *
  generalize B * w = Y at *
  refine ⟨⟨by omega, by omega⟩, by omega, by omega, ⟨by omega, by omega⟩, by omega, by omega, by omega, by omega⟩

theorem lose_l3_step {N : Nat} {ls : List Level} {wv : List Int} {den last acc i : Int} {k : Nat} {l : Level} {w : Int} (hi : i < ls.length) (hin : inR (i + 1)) (hl : idx ls i = some l) (hw : idx wv i = some w)
    (ht : TermOk (den * last) w l.Cost l.Mean) (h0 : 0 ≤ acc) (h1 : acc ≤ 1400000000000000000) :
    check_lose_l3 N ls wv den last (k + 1) acc i = check_lose_l3 N ls wv den last k (acc + term (den * last) w l.Cost l.Mean) (i + 1) := by
  obtain ⟨e1, e2, e3, e4, e5, e6, e7, e8⟩ := ht.all
  have e9 : inR (acc + term (den * last) w l.Cost l.Mean) := by unfold inR; omega
  rw [check_lose_l3.eq_2]
  simp only [hi, decide_true, if_true, hl, hw, Option.bind_some, chk]
  rw [if_pos e1, if_pos e2, if_pos e3, if_pos e4, if_pos e5, if_pos e6, if_pos (show inR (acc + (Int.tdiv (den * last) w * l.Cost + Int.tdiv (den * last) (2 * l.Mean) * w)) from e9), if_pos hin]
  rfl
theorem lose_l3_end {N : Nat} {ls : List Level} {wv : List Int} {den last acc i : Int} {k : Nat} (hi : ¬ i < ls.length) : check_lose_l3 N ls wv den last (k + 1) acc i = some acc := by
  rw [check_lose_l3.eq_2]; simp [hi]
def LevOk (l : Level) : Prop := 1 ≤ l.Cost ∧ l.Cost ≤ 1024 ∧ 1 ≤ l.Mean ∧ l.Mean ≤ 1024
theorem mul_bd {a b A B : Int} (h0 : 0 ≤ a) (h1 : a ≤ A) (h2 : 0 ≤ b) (h3 : b ≤ B) : 0 ≤ a * b ∧ a * b ≤ A * B :=
  ⟨Int.mul_nonneg h0 h2, Int.mul_le_mul h1 h3 h2 (by omega)⟩

/-- The least common multiple so far. -/
def dstep (d m : Int) : Int := Int.tdiv d (Int.gcd d (2 * m) : Int) * (2 * m)
def DenOk (d K : Int) : Prop := 0 < d ∧ (2 : Int) ∣ d ∧ d ≤ 2 * K
theorem dstep_ok {d m K : Int} (h : DenOk d K) (h1 : 1 ≤ m) : DenOk (dstep d m) (K * m) ∧ (2 : Int) ≤ (Int.gcd d (2 * m) : Int) ∧ 0 < Int.tdiv d (Int.gcd d (2 * m) : Int) ∧ Int.tdiv d (Int.gcd d (2 * m) : Int) ≤ K := by
  obtain ⟨d0, d1, d2⟩ := h
  have g2 : (2 : Int) ∣ (Int.gcd d (2 * m) : Int) := Int.dvd_coe_gcd d1 (Int.dvd_mul_right _ _)
  have g0 : 0 < Int.gcd d (2 * m) := Int.gcd_pos_of_ne_zero_left _ (by omega)
  have g3 : (Int.gcd d (2 * m) : Int) ∣ d := Int.gcd_dvd_left ..
  unfold dstep
  generalize hg : (Int.gcd d (2 * m) : Int) = g at *
  have gp : 0 < g := by omega
  have ge : 2 ≤ g := Int.le_of_dvd gp g2
  rw [Int.tdiv_eq_ediv_of_nonneg (by omega)]
  obtain ⟨q, rfl⟩ := g3
  rw [Int.mul_ediv_cancel_left _ (by omega)]
  have q0 : 0 < q := Int.pos_of_mul_pos_right d0 gp
  have q1 : 2 * q ≤ g * q := Int.mul_le_mul_of_nonneg_right ge (by omega)
  have q2 : q ≤ K := by omega
  refine ⟨⟨Int.mul_pos q0 (by omega), ⟨q * m, by grind⟩, ?_⟩, ge, q0, q2⟩
  have : q * m ≤ K * m := Int.mul_le_mul_of_nonneg_right q2 (by omega)
  have e : q * (2 * m) = 2 * (q * m) := by grind
  omega

theorem lose_l2_step {N : Nat} {ls : List Level} {d i K : Int} {k : Nat} {l : Level} (hi : i < ls.length) (hin : inR (i + 1)) (hl : idx ls i = some l) (hL : LevOk l) (hd : DenOk d K) (hK : K ≤ 1073741824) (hN : 2048 < N) :
    check_lose_l2 N ls (k + 1) d i = check_lose_l2 N ls k (dstep d l.Mean) (i + 1) := by
  obtain ⟨_, _, m0, m1⟩ := hL
  obtain ⟨_, g2, q0, q1⟩ := dstep_ok hd m0
  have hd0 := hd.1
  rw [check_lose_l2.eq_2]
  simp only [hi, decide_true, if_true, hl, Option.bind_some, chk]
  rw [if_pos (show inR (2 * l.Mean) by unfold inR; omega), divisor_eq N d (2 * l.Mean) (by omega) (by omega) (by omega)]
  simp only [Option.bind_some]
  unfold dstep
  generalize (Int.gcd d (2 * l.Mean) : Int) = g at *
  generalize Int.tdiv d g = q at *
  have b1 := mul_bd (show 0 ≤ q by omega) (show q ≤ 1073741824 by omega) (show 0 ≤ l.Mean by omega) m1
  have e : q * 2 * l.Mean = q * (2 * l.Mean) := by grind
  have e2 : q * 2 * l.Mean = 2 * (q * l.Mean) := by grind
  rw [if_pos (show g ≠ 0 ∧ inR q from ⟨by omega, by unfold inR; omega⟩), if_pos (show inR (q * 2) by unfold inR; omega), if_pos (show inR (q * 2 * l.Mean) by unfold inR; omega), if_pos hin, e]
/-- The first step: from one. -/
theorem lose_l2_first {N : Nat} {ls : List Level} {k : Nat} {l : Level} (hi : (0 : Int) < ls.length) (hl : idx ls 0 = some l) (hL : LevOk l) (hN : 2048 < N) :
    check_lose_l2 N ls (k + 1) 1 0 = check_lose_l2 N ls k (2 * l.Mean) 1 := by
  obtain ⟨_, _, m0, m1⟩ := hL
  rw [check_lose_l2.eq_2]
  simp only [hi, decide_true, if_true, hl, Option.bind_some, chk]
  rw [if_pos (show inR (2 * l.Mean) by unfold inR; omega), divisor_eq N 1 (2 * l.Mean) (by omega) (by omega) (by omega)]
  simp only [Option.bind_some]
  have g1 : (Int.gcd 1 (2 * l.Mean) : Int) = 1 := by simp
  rw [g1]
  have t1 : Int.tdiv 1 1 = 1 := by decide
  rw [t1, if_pos (show (1 : Int) ≠ 0 ∧ inR 1 by decide), if_pos (show inR (1 * 2) by decide), if_pos (show inR (1 * 2 * l.Mean) by unfold inR; omega), if_pos (show inR (0 + 1) by decide)]
  congr 1
theorem lose_l2_end {N : Nat} {ls : List Level} {d i : Int} {k : Nat} (hi : ¬ i < ls.length) : check_lose_l2 N ls (k + 1) d i = some d := by
  rw [check_lose_l2.eq_2]; simp [hi]

theorem lose_l1_step {N : Nat} {ds : List Int} {wv : List Int} {i w d : Int} {k : Nat} (hi : i < ds.length) (hin : inR (i + 1)) (hd : idx ds i = some d) (hw : idx wv ((wv.length : Int) - 1) = some w) (hl : wv.length ≤ 10) (hr : inR (w * d)) :
    check_lose_l1 N ds (k + 1) wv i = check_lose_l1 N ds k (wv ++ [w * d]) (i + 1) := by
  rw [check_lose_l1.eq_2]
  simp only [hi, decide_true, if_true, hd, hw, Option.bind_some, chk]
  rw [if_pos (show inR ((wv.length : Int) - 1) by unfold inR; omega)]
  rw [if_pos hr, if_pos ⟨by simp; omega, by simp [maxLen]; omega⟩, if_pos hin]
theorem lose_l1_end {N : Nat} {ds : List Int} {wv : List Int} {i : Int} {k : Nat} (hi : ¬ i < ds.length) : check_lose_l1 N ds (k + 1) wv i = some wv := by
  rw [check_lose_l1.eq_2]; simp [hi]

def lowest (num T : Int) : Loss := ⟨Int.tdiv num (Int.gcd num T : Int), Int.tdiv T (Int.gcd num T : Int)⟩
theorem lowest_parts {num T : Int} (h0 : 0 ≤ num) (h1 : num ≤ 2100000000000000000) (t0 : 0 < T) (t1 : T ≤ 562949953421312) :
    Fine (lowest num T) ∧ ((Int.gcd num T : Int) ≠ 0 ∧ inR (Int.tdiv num (Int.gcd num T : Int))) ∧ ((Int.gcd num T : Int) ≠ 0 ∧ inR (Int.tdiv T (Int.gcd num T : Int))) := by
  have g0 : 0 < Int.gcd num T := Int.gcd_pos_of_ne_zero_right _ (by omega)
  have g3 : (Int.gcd num T : Int) ∣ T := Int.gcd_dvd_right ..
  unfold lowest Fine inR
  simp only
  generalize hg : (Int.gcd num T : Int) = g at *
  have gp : 0 < g := by omega
  rw [Int.tdiv_eq_ediv_of_nonneg h0, Int.tdiv_eq_ediv_of_nonneg (Int.le_of_lt t0)]
  have a0 : 0 ≤ num / g := Int.ediv_nonneg h0 (by omega)
  have a1 : num / g ≤ num := Int.ediv_le_self _ h0
  have b1 : T / g ≤ T := Int.ediv_le_self _ (by omega)
  have b0 : 0 < T / g := by
    obtain ⟨q, rfl⟩ := g3
    rw [Int.mul_ediv_cancel_left _ (by omega)]
    exact Int.pos_of_mul_pos_right t0 gp
  refine ⟨⟨by omega, by omega, by omega, by omega⟩, ⟨by omega, by omega⟩, ⟨by omega, by omega⟩⟩

theorem lose_of {N : Nat} {ls : List Level} {P : Int} {ds wv : List Int} {D last num : Int} (l1 : check_lose_l1 N ds N [P] 0 = some wv) (l2 : check_lose_l2 N ls N 1 0 = some D) (hlen : wv.length ≤ 10) (hlast : idx wv ((wv.length : Int) - 1) = some last)
    (l3 : check_lose_l3 N ls wv D last N 0 0 = some num) (h0 : 0 ≤ num) (h1 : num ≤ 2100000000000000000) (t0 : 0 < D * last) (t1 : D * last ≤ 562949953421312) (hN : 562949953421312 < N) : check_lose N ls P ds = some (lowest num (D * last)) := by
  obtain ⟨_, f1, f2⟩ := lowest_parts h0 h1 t0 t1
  unfold check_lose
  rw [l1]
  simp only [Option.bind_some]
  rw [l2]
  simp only [Option.bind_some, chk]
  rw [if_pos (show inR ((wv.length : Int) - 1) by unfold inR; omega), hlast]
  simp only [Option.bind_some]
  rw [if_pos (show inR (D * last) by unfold inR; omega), l3]
  simp only [Option.bind_some]
  rw [divisor_eq N num (D * last) h0 (by omega) (by omega)]
  simp only [Option.bind_some]
  rw [if_pos f1, if_pos f2]; rfl
theorem t2_of {D last m o K : Int} (hD : D ≤ 2 * K) (hK : K = m * o) (h0 : 0 ≤ last) (hm : 0 ≤ m) (ho : o * last ≤ 274877906944) : D * last ≤ 2 * m * 274877906944 := by
  have h1 : D * last ≤ 2 * K * last := Int.mul_le_mul_of_nonneg_right hD h0
  have h2 : 2 * K * last = 2 * m * (o * last) := by rw [hK]; grind
  have h3 : 2 * m * (o * last) ≤ 2 * m * 274877906944 := Int.mul_le_mul_of_nonneg_left ho (by omega)
  omega

end Go.Arm
namespace Go.Arm
open Go Go.RowKit

theorem ix_lev (N : Nat) (xs : List Level) (f : Level → Option Bool) (p : Level → Bool) (hf : ∀ x ∈ xs, f x = some (p x)) (hlen : xs.length ≤ 1000) : ∀ (k i : Nat), xs.length < i + k → i ≤ xs.length →
    ∃ r, slices_IndexFunc_Lcheck_Level_check_Level_l1 N xs f k (i : Int) = some r ∧ ((r = .inl () ∧ (xs.drop i).any p = false) ∨ ∃ j : Int, r = .inr j ∧ 0 ≤ j ∧ (xs.drop i).any p = true)
  | 0, i, h, h2 => by omega
  | k + 1, i, h, h2 => by
    rw [slices_IndexFunc_Lcheck_Level_check_Level_l1.eq_2]
    by_cases hi : i < xs.length
    · have hx : idx xs (i : Int) = some xs[i] := idx_at (by omega) (by simp [hi])
      have hd : xs.drop i = xs[i] :: xs.drop (i + 1) := List.drop_eq_getElem_cons hi
      simp only [show ((i : Int) < xs.length) by omega, decide_true, if_true, hx, Option.bind_some, hf _ (List.getElem_mem hi)]
      have hin : inR ((i : Int) + 1) := by unfold inR; omega
      rw [hd]
      by_cases hp : p xs[i] = true
      · exact ⟨.inr i, if_pos hp, .inr ⟨i, rfl, by omega, by rw [List.any_cons, hp, Bool.true_or]⟩⟩
      · obtain ⟨r, h3, h4⟩ := ix_lev N xs f p hf hlen k (i + 1) (by omega) (by omega)
        have hp' : p xs[i] = false := by cases h : p xs[i]; rfl; exact absurd h hp
        refine ⟨r, ?_, ?_⟩
        · rw [if_neg hp]
          unfold chk
          rw [if_pos hin]
          exact h3
        · rw [List.any_cons, hp', Bool.false_or]; exact h4
    · have he : i = xs.length := by omega
      refine ⟨.inl (), ?_, .inl ⟨rfl, ?_⟩⟩
      · simp [show ¬ ((i : Int) < xs.length) by omega]
      · subst he; simp
theorem contains_lev (N : Nat) (xs : List Level) (f : Level → Option Bool) (p : Level → Bool) (hf : ∀ x ∈ xs, f x = some (p x)) (hlen : xs.length ≤ 1000) (hN : 1000 < N) : slices_ContainsFunc_Lcheck_Level_check_Level N xs f = some (xs.any p) := by
  unfold slices_ContainsFunc_Lcheck_Level_check_Level slices_IndexFunc_Lcheck_Level_check_Level
  obtain ⟨r, h1, h2⟩ := ix_lev N xs f p hf hlen N 0 (by omega) (by omega)
  have h1' : slices_IndexFunc_Lcheck_Level_check_Level_l1 N xs f N 0 = some r := h1
  rw [h1']
  rcases h2 with ⟨rfl, h3⟩ | ⟨j, rfl, h3, h4⟩
  · simp only [List.drop_zero] at h3; simp [h3]
  · simp only [List.drop_zero] at h4; simp [h4, h3]

theorem ix_int (N : Nat) (xs : List Int) (f : Int → Option Bool) (p : Int → Bool) (hf : ∀ x ∈ xs, f x = some (p x)) (hlen : xs.length ≤ 1000) : ∀ (k i : Nat), xs.length < i + k → i ≤ xs.length →
    ∃ r, slices_IndexFunc_Lint_int_l1 N xs f k (i : Int) = some r ∧ ((r = .inl () ∧ (xs.drop i).any p = false) ∨ ∃ j : Int, r = .inr j ∧ 0 ≤ j ∧ (xs.drop i).any p = true)
  | 0, i, h, h2 => by omega
  | k + 1, i, h, h2 => by
    rw [slices_IndexFunc_Lint_int_l1.eq_2]
    by_cases hi : i < xs.length
    · have hx : idx xs (i : Int) = some xs[i] := idx_at (by omega) (by simp [hi])
      have hd : xs.drop i = xs[i] :: xs.drop (i + 1) := List.drop_eq_getElem_cons hi
      simp only [show ((i : Int) < xs.length) by omega, decide_true, if_true, hx, Option.bind_some, hf _ (List.getElem_mem hi)]
      have hin : inR ((i : Int) + 1) := by unfold inR; omega
      rw [hd]
      by_cases hp : p xs[i] = true
      · exact ⟨.inr i, if_pos hp, .inr ⟨i, rfl, by omega, by rw [List.any_cons, hp, Bool.true_or]⟩⟩
      · obtain ⟨r, h3, h4⟩ := ix_int N xs f p hf hlen k (i + 1) (by omega) (by omega)
        have hp' : p xs[i] = false := by cases h : p xs[i]; rfl; exact absurd h hp
        refine ⟨r, ?_, ?_⟩
        · rw [if_neg hp]
          unfold chk
          rw [if_pos hin]
          exact h3
        · rw [List.any_cons, hp', Bool.false_or]; exact h4
    · have he : i = xs.length := by omega
      refine ⟨.inl (), ?_, .inl ⟨rfl, ?_⟩⟩
      · simp [show ¬ ((i : Int) < xs.length) by omega]
      · subst he; simp
theorem contains_int (N : Nat) (xs : List Int) (f : Int → Option Bool) (p : Int → Bool) (hf : ∀ x ∈ xs, f x = some (p x)) (hlen : xs.length ≤ 1000) (hN : 1000 < N) : slices_ContainsFunc_Lint_int N xs f = some (xs.any p) := by
  unfold slices_ContainsFunc_Lint_int slices_IndexFunc_Lint_int
  obtain ⟨r, h1, h2⟩ := ix_int N xs f p hf hlen N 0 (by omega) (by omega)
  have h1' : slices_IndexFunc_Lint_int_l1 N xs f N 0 = some r := h1
  rw [h1']
  rcases h2 with ⟨rfl, h3⟩ | ⟨j, rfl, h3, h4⟩
  · simp only [List.drop_zero] at h3; simp [h3]
  · simp only [List.drop_zero] at h4; simp [h4, h3]

def badL (l : Level) : Bool := decide (l.Cost < 1) || decide (1024 < l.Cost) || decide (l.Mean < 1) || decide (1024 < l.Mean)
theorem badL_ok {l : Level} (h : badL l = false) : LevOk l := by
  simp only [badL, Bool.or_eq_false_iff, decide_eq_false_iff_not] at h
  unfold LevOk; omega
def badD (d : Int) : Bool := decide (d < 1) || decide (8 < d)
theorem levelled_2 (N : Nat) (l : Level) : check_levelled_2 N l = some (badL l) := by
  unfold check_levelled_2 check_levelled_1 badL
  by_cases h1 : l.Cost < 1 <;> by_cases h2 : 1024 < l.Cost <;> by_cases h3 : l.Mean < 1 <;> by_cases h4 : 1024 < l.Mean <;> simp [h1, h2, h3, h4]
theorem lose_1 (N : Nat) (d : Int) : check_Lose_1 N d = some (badD d) := by
  unfold check_Lose_1 badD
  by_cases h1 : d < 1 <;> simp [h1]
/-- The levels are as they are to be. -/
def goodL (ls : List Level) : Bool := decide (1 ≤ ls.length) && decide (ls.length ≤ 3) && !ls.any badL
theorem levelled_eq (N : Nat) (ls : List Level) (hN : 1000 < N) : check_levelled N ls = some (if goodL ls then 0 else 3) := by
  unfold check_levelled goodL
  by_cases h1 : (ls.length : Int) < 1
  · have : ¬ 1 ≤ ls.length := by omega
    simp [h1, this]
  · by_cases h2 : 3 < (ls.length : Int)
    · have : ¬ ls.length ≤ 3 := by omega
      simp [h1, h2, this]
    · have a1 : 1 ≤ ls.length := by omega
      have a2 : ls.length ≤ 3 := by omega
      simp only [h1, h2, decide_false, Bool.false_eq_true, if_false, a1, a2, decide_true, Bool.and_self, Bool.true_and]
      rw [contains_lev N ls _ badL (fun x _ => levelled_2 N x) (by omega) hN]
      cases h : ls.any badL <;> simp
theorem goodL_ok {ls : List Level} (h : goodL ls = true) : 1 ≤ ls.length ∧ ls.length ≤ 3 ∧ ∀ l ∈ ls, LevOk l := by
  simp only [goodL, Bool.and_eq_true, decide_eq_true_eq, Bool.not_eq_true'] at h
  refine ⟨h.1.1, h.1.2, fun l hl => badL_ok ?_⟩
  have := List.any_eq_false.1 h.2 l hl
  simpa using this
/-- How much is still to be counted. -/
def rest (base : Int) : List Int → Nat
  | [] => 0
  | [d] => (base - d).toNat
  | d :: e :: _ => (base - d).toNat * 100 + (base - e).toNat
def CurOk (base : Int) (n : Nat) (cur : List Int) : Prop := cur.length = n ∧ ∀ d ∈ cur, 1 ≤ d ∧ d ≤ base

theorem clone_eq (N : Nat) (xs : List Int) (h : xs.length ≤ 1000) : slices_Clone_Lint_int N xs = some xs := by
  unfold slices_Clone_Lint_int chk
  rw [if_pos ⟨by simp; omega, by simp [maxLen]; omega⟩]; rfl

/-- What a search keeps. -/
def StOk (n : Nat) (q : Int × Loss × List Int) : Prop := (q.1 = 0 ∨ Fine q.2.1) ∧ q.2.2.length ≤ n

theorem best_1 {N : Nat} {ls : List Level} {P : Int} {cur : List Int} {R : Loss} {q : Int × Loss × List Int} (hR : Fine R) (hq : q.1 = 0 ∨ Fine q.2.1) (hl : check_lose N ls P cur = some R) (hN : 3 < N) :
    check_Best_1 N cur ls P q.1 q.2.1 q.2.2 = some (if decide (q.1 = 0) || lessL R q.2.1 then (P, R, cur) else q) := by
  unfold check_Best_1
  rw [hl]
  simp only [Option.bind_some]
  by_cases h0 : q.1 = 0
  · simp [h0]
  · have hF : Fine q.2.1 := hq.resolve_left h0
    obtain ⟨k, rfl⟩ : ∃ k, N = k + 3 := ⟨N - 3, by omega⟩
    obtain ⟨c, h1, h2⟩ := compare_less k hR hF
    simp only [h0, decide_false, Bool.false_eq_true, if_false, h1, Option.bind_some, h2, Bool.false_or]
    cases lessL R q.2.1 <;> rfl

theorem repeat_eq {N n : Nat} (hn : n ≤ 2) (hN : 10 < N) : slices_Repeat_Lint_int N [1] (n : Int) = some (List.replicate n 1) := by
  obtain ⟨k, hk⟩ : ∃ k, N = k + 3 := ⟨N - 3, by omega⟩
  unfold slices_Repeat_Lint_int math_bits_Mul
  have h0 : ¬ ((n : Int) < 0) := by omega
  have e1 : convK .u64 (([1] : List Int).length : Int) = 1 := by decide
  rw [convU (a := (n : Int)) (by omega) (by omega), e1, mul64_eq N (by decide) (by decide) (by omega) (by omega)]
  have e2 : (1 : Int) * (n : Int) / 18446744073709551616 = 0 := by omega
  have e3 : (1 : Int) * (n : Int) % 18446744073709551616 = n := by omega
  rw [e2, e3]
  have e4 : convK .i64 (n : Int) = n := wrap_in (by unfold inR; omega)
  have e5 : ¬ ((9223372036854775807 : Int) < n) := by omega
  simp only [h0, decide_false, Bool.false_eq_true, if_false, Option.bind_some, Int.lt_irrefl, e4, e5, Int.toNat_natCast]
  unfold chk
  rw [if_pos ⟨by omega, by omega, by omega⟩]
  rw [hk]
  match n, hn with
  | 0, _ => simp [slices_Repeat_Lint_int_l1, cpy, show convK .i64 0 = 0 by decide]
  | 1, _ => simp [slices_Repeat_Lint_int_l1, cpy, show convK .i64 1 = 1 by decide]
  | 2, _ => simp [slices_Repeat_Lint_int_l1, cpy, cut, chk, show convK .i64 2 = 2 by decide, show inR 2 by decide]

end Go.Arm
namespace Go.Arm
open Go Go.RowKit

theorem low_parts {n T : Int} (hn : 0 ≤ n) (hT : 0 < T) : ∃ g a b : Int, 0 < g ∧ 0 ≤ a ∧ 0 < b ∧ n = g * a ∧ T = g * b ∧ lowest n T = ⟨a, b⟩ := by
  have g0 : 0 < Int.gcd n T := Int.gcd_pos_of_ne_zero_right _ (by omega)
  have g2 : (Int.gcd n T : Int) ∣ n := Int.gcd_dvd_left ..
  have g3 : (Int.gcd n T : Int) ∣ T := Int.gcd_dvd_right ..
  unfold lowest
  generalize hg : (Int.gcd n T : Int) = g at *
  have gp : 0 < g := by omega
  obtain ⟨a, rfl⟩ := g2
  obtain ⟨b, rfl⟩ := g3
  have b0 : 0 < b := Int.pos_of_mul_pos_right hT gp
  have a0 : 0 ≤ a := by
    by_cases h : a < 0
    · have : g * a < 0 := Int.mul_neg_of_pos_of_neg gp h
      omega
    · omega
  refine ⟨g, a, b, gp, a0, b0, rfl, rfl, ?_⟩
  rw [Int.mul_tdiv_cancel_left _ (by omega), Int.mul_tdiv_cancel_left _ (by omega)]

theorem less_low {n T n' T' : Int} (hn : 0 ≤ n) (hT : 0 < T) (hn' : 0 ≤ n') (hT' : 0 < T') : lessL (lowest n T) (lowest n' T') = decide (n * T' < n' * T) := by
  obtain ⟨g, a, b, g0, a0, b0, rfl, rfl, e⟩ := low_parts hn hT
  obtain ⟨h, c, d, h0, c0, d0, rfl, rfl, e'⟩ := low_parts hn' hT'
  rw [e, e']
  unfold lessL
  simp only
  have e1 : g * a * (h * d) = g * h * (a * d) := by grind
  have e2 : h * c * (g * b) = g * h * (c * b) := by grind
  rw [e1, e2, Bool.eq_iff_iff]
  simp only [decide_eq_true_eq]
  have gh : 0 < g * h := Int.mul_pos g0 h0
  exact ⟨fun k => Int.mul_lt_mul_of_pos_left k gh, fun k => Int.lt_of_mul_lt_mul_left k (Int.le_of_lt gh)⟩
theorem low_le {n T : Int} (hn : 0 ≤ n) (hT : 0 < T) : (lowest n T).Num ≤ n ∧ (lowest n T).Den ≤ T ∧ 1 ≤ (lowest n T).Den ∧ 0 ≤ (lowest n T).Num := by
  obtain ⟨g, a, b, g0, a0, b0, rfl, rfl, e⟩ := low_parts hn hT
  rw [e]
  have h1 : 1 * a ≤ g * a := Int.mul_le_mul_of_nonneg_right (by omega) a0
  have h2 : 1 * b ≤ g * b := Int.mul_le_mul_of_nonneg_right (by omega) (by omega)
  exact ⟨by simp only; omega, by simp only; omega, by simp only; omega, a0⟩

theorem lessL_trans {x r l : Loss} (hx : Fine x) (hr : Fine r) (hl : Fine l) (h : lessL x l = false) (k : lessL r l = true) : lessL x r = false := by
  obtain ⟨_, _, x0, _⟩ := hx
  obtain ⟨_, _, r0, _⟩ := hr
  obtain ⟨_, _, l0, _⟩ := hl
  unfold lessL at *
  simp only [decide_eq_true_eq, decide_eq_false_iff_not, Int.not_lt] at *
  refine Int.le_of_mul_le_mul_right (a := l.Den) ?_ l0
  have h1 : l.Num * x.Den * r.Den ≤ x.Num * l.Den * r.Den := Int.mul_le_mul_of_nonneg_right h (by omega)
  have h2 : r.Num * l.Den * x.Den ≤ l.Num * r.Den * x.Den := Int.mul_le_mul_of_nonneg_right (Int.le_of_lt k) (by omega)
  have e1 : r.Num * x.Den * l.Den = r.Num * l.Den * x.Den := by grind
  have e2 : x.Num * r.Den * l.Den = x.Num * l.Den * r.Den := by grind
  have e3 : l.Num * r.Den * x.Den = l.Num * x.Den * r.Den := by grind
  omega

theorem term1 {m P c : Int} (hm : 0 < m) (hP : 0 < P) : term (2 * m * P) P c m = 2 * m * c + P * P := by
  unfold term
  rw [Int.mul_tdiv_cancel _ (by omega), Int.mul_tdiv_cancel_left _ (by omega)]
theorem lose1 {N : Nat} {x : Level} {P : Int} (hx : LevOk x) (hP : 1 ≤ P ∧ P ≤ 4096) (hN : 562949953421312 < N) :
    check_lose N [x] P [] = some (lowest (2 * x.Mean * x.Cost + P * P) (2 * x.Mean * P)) ∧ Fine (lowest (2 * x.Mean * x.Cost + P * P) (2 * x.Mean * P)) := by
  have ⟨xc0, xc1, xm0, xm1⟩ := hx
  have hT : 0 < 2 * x.Mean * P := Int.mul_pos (by omega) (by omega)
  have b1 := mul_bd (show 0 ≤ 2 * x.Mean by omega) (show 2 * x.Mean ≤ 2048 by omega) (show 0 ≤ P by omega) hP.2
  have D1 : DenOk (2 * x.Mean) x.Mean := ⟨by omega, Int.dvd_mul_right _ _, by omega⟩
  have T1 : TermOk (2 * x.Mean * P) P x.Cost x.Mean := ⟨by omega, by omega, xc0, xc1, xm0, xm1, by omega, by omega, t2_of D1.2.2 (Int.mul_one _).symm (by omega) (by omega) (by omega)⟩
  obtain ⟨_, _, _, _, _, _, n0, n1⟩ := T1.all
  have et := term1 (m := x.Mean) (P := P) (c := x.Cost) (by omega) (by omega)
  rw [← et]
  have e0 : term (2 * x.Mean * P) P x.Cost x.Mean = 0 + term (2 * x.Mean * P) P x.Cost x.Mean := by omega
  rw [e0]
  refine ⟨?_, (lowest_parts (by omega) (by omega) hT (by omega)).1⟩
  obtain ⟨k, rfl⟩ : ∃ k, N = k + 2 := ⟨N - 2, by omega⟩
  refine lose_of (wv := [P]) (D := 2 * x.Mean) (last := P) (lose_l1_end (by simp)) ?_ (by simp) rfl ?_ (by omega) (by omega) hT (by omega) hN
  · rw [lose_l2_first (by simp) rfl hx (by omega), lose_l2_end (by simp)]
  · rw [lose_l3_step (l := x) (w := P) (by simp) (by decide) rfl rfl T1 (by omega) (by omega), lose_l3_end (by simp)]

theorem term_le {T w c m : Int} (hT : 0 ≤ T) (hw : 0 < w) (hm : 0 < m) (hc : 0 ≤ c) (hc1 : c ≤ 30) (hw1 : w ≤ 160) : term T w c m ≤ T * 190 := by
  unfold term
  rw [Int.tdiv_eq_ediv_of_nonneg hT, Int.tdiv_eq_ediv_of_nonneg hT]
  have a0 : 0 ≤ T / w := Int.ediv_nonneg hT (by omega)
  have a1 : T / w ≤ T := Int.ediv_le_self _ hT
  have b0 : 0 ≤ T / (2 * m) := Int.ediv_nonneg hT (by omega)
  have b1 : T / (2 * m) ≤ T := Int.ediv_le_self _ hT
  have p1 : T / w * c ≤ T * 30 := Int.mul_le_mul a1 hc1 hc hT
  have p2 : T / (2 * m) * w ≤ T * 160 := Int.mul_le_mul b1 hw1 (by omega) hT
  omega

theorem lose2 {N : Nat} {x y : Level} {P d : Int} (hx : LevOk x) (hy : LevOk y) (hP : 1 ≤ P ∧ P ≤ 4096) (hd : 1 ≤ d ∧ d ≤ 8) (hN : 562949953421312 < N) :
    ∃ n T, check_lose N [x, y] P [d] = some (lowest n T) ∧ Fine (lowest n T) ∧ 0 ≤ n ∧ 0 < T ∧ (x.Cost ≤ 30 → x.Mean ≤ 30 → y.Cost ≤ 30 → y.Mean ≤ 30 → P ≤ 40 → d ≤ 4 → n ≤ 1073741824 ∧ T ≤ 1073741824) := by
  have ⟨xc0, xc1, xm0, xm1⟩ := hx
  have ⟨yc0, yc1, ym0, ym1⟩ := hy
  have D1 : DenOk (2 * x.Mean) x.Mean := ⟨by omega, Int.dvd_mul_right _ _, by omega⟩
  have D2 := (dstep_ok D1 ym0).1
  have w1 := mul_bd (show 0 ≤ P by omega) hP.2 (show 0 ≤ d by omega) hd.2
  have w1p : 0 < P * d := Int.mul_pos (by omega) (by omega)
  have k2 := mul_bd (show 0 ≤ x.Mean by omega) xm1 (show 0 ≤ y.Mean by omega) ym1
  have hT : 0 < dstep (2 * x.Mean) y.Mean * (P * d) := Int.mul_pos D2.1 w1p
  have b1 := mul_bd (Int.le_of_lt D2.1) (show dstep (2 * x.Mean) y.Mean ≤ 2 * 1048576 by have := D2.2.2; omega) w1.1 (show P * d ≤ 32768 by omega)
  have o1 := mul_bd (show 0 ≤ y.Mean by omega) ym1 w1.1 (show P * d ≤ 32768 by omega)
  have o2 := mul_bd (show 0 ≤ x.Mean by omega) xm1 w1.1 (show P * d ≤ 32768 by omega)
  have T1 : TermOk (dstep (2 * x.Mean) y.Mean * (P * d)) P x.Cost x.Mean := ⟨by omega, by omega, xc0, xc1, xm0, xm1, by omega, by omega, t2_of D2.2.2 rfl w1.1 (by omega) (by omega)⟩
  have T2 : TermOk (dstep (2 * x.Mean) y.Mean * (P * d)) (P * d) y.Cost y.Mean := ⟨by omega, by omega, yc0, yc1, ym0, ym1, by omega, by omega, t2_of D2.2.2 (Int.mul_comm _ _) w1.1 (by omega) (by omega)⟩
  obtain ⟨_, _, _, _, _, _, n0, n1⟩ := T1.all
  obtain ⟨_, _, _, _, _, _, n2, n3⟩ := T2.all
  generalize hD : dstep (2 * x.Mean) y.Mean = D at *
  refine ⟨0 + term (D * (P * d)) P x.Cost x.Mean + term (D * (P * d)) (P * d) y.Cost y.Mean, D * (P * d), ?_, (lowest_parts (by omega) (by omega) hT (by omega)).1, by omega, hT, ?_⟩
  · obtain ⟨k, rfl⟩ : ∃ k, N = k + 3 := ⟨N - 3, by omega⟩
    refine lose_of (wv := [P, P * d]) (D := D) (last := P * d) ?_ ?_ (by simp) rfl ?_ (by omega) (by omega) hT (by omega) hN
    · rw [lose_l1_step (d := d) (w := P) (by simp) (by decide) rfl rfl (by simp) (by unfold inR; omega), lose_l1_end (by simp)]; rfl
    · rw [lose_l2_first (by simp) rfl hx (by omega), lose_l2_step (l := y) (by simp) (by decide) rfl hy D1 (by omega) (by omega), lose_l2_end (by simp), hD]
    · rw [lose_l3_step (l := x) (w := P) (by simp) (by decide) rfl rfl T1 (by omega) (by omega), lose_l3_step (l := y) (w := P * d) (by simp) (by decide) rfl rfl T2 (by omega) (by omega), lose_l3_end (by simp)]
  · intro c1 m1 c2 m2 p1 d1
    have k3 := mul_bd (show 0 ≤ x.Mean by omega) m1 (show 0 ≤ y.Mean by omega) m2
    have w2 := mul_bd (show 0 ≤ P by omega) p1 (show 0 ≤ d by omega) d1
    have b2 := mul_bd (Int.le_of_lt D2.1) (show D ≤ 1800 by have := D2.2.2; omega) w1.1 (show P * d ≤ 160 by omega)
    have t1 := term_le (T := D * (P * d)) (w := P) (c := x.Cost) (m := x.Mean) (by omega) (by omega) (by omega) (by omega) c1 (by omega)
    have t2 := term_le (T := D * (P * d)) (w := P * d) (c := y.Cost) (m := y.Mean) (by omega) (by omega) (by omega) (by omega) c2 (by omega)
    omega
end Go.Arm
namespace Go.Arm
open Go Go.RowKit

def LO (N : Nat) (ls : List Level) (P : Int) (ds : List Int) : Loss := (check_lose N ls P ds).getD ⟨0, 0⟩
/-- All plans within the limits have a loss. -/
def HL (N : Nat) (ls : List Level) (top base : Int) (n : Nat) : Prop := ∀ P ds, 1 ≤ P → P ≤ top → CurOk base n ds → check_lose N ls P ds = some (LO N ls P ds) ∧ Fine (LO N ls P ds)
/-- The best among the plans in S. -/
structure Good (N : Nat) (ls : List Level) (top base : Int) (n : Nat) (S : Int → List Int → Prop) (q : Int × Loss × List Int) : Prop where
  zero : q.1 = 0 → ∀ P ds, ¬ S P ds
  pos : q.1 ≠ 0 → 1 ≤ q.1 ∧ q.1 ≤ top ∧ CurOk base n q.2.2 ∧ q.2.1 = LO N ls q.1 q.2.2
  ok : ∀ P ds, S P ds → 1 ≤ P ∧ P ≤ top ∧ CurOk base n ds
  min : q.1 ≠ 0 → ∀ P ds, S P ds → lessL (LO N ls P ds) q.2.1 = false
section
variable {N : Nat} {ls : List Level} {top base : Int} {n : Nat} {S S' : Int → List Int → Prop} {q : Int × Loss × List Int}
theorem Good.ext (h : Good N ls top base n S q) (hS : ∀ P ds, S P ds ↔ S' P ds) : Good N ls top base n S' q :=
  ⟨fun e P ds k => h.zero e P ds ((hS P ds).2 k), h.pos, fun P ds k => h.ok P ds ((hS P ds).2 k), fun e P ds k => h.min e P ds ((hS P ds).2 k)⟩
theorem Good.fine (h : Good N ls top base n S q) (hL : HL N ls top base n) : q.1 = 0 ∨ Fine q.2.1 := by
  by_cases e : q.1 = 0
  · exact .inl e
  · obtain ⟨a, b, c, d⟩ := h.pos e
    rw [d]; exact .inr (hL _ _ a b c).2

theorem lessL_irrefl (a : Loss) : lessL a a = false := by unfold lessL; simp

theorem Good.step (h : Good N ls top base n S q) (hL : HL N ls top base n) {P : Int} {cur : List Int} (hP : 1 ≤ P ∧ P ≤ top) (hc : CurOk base n cur) (hN : 3 < N) :
    ∃ q', check_Best_1 N cur ls P q.1 q.2.1 q.2.2 = some q' ∧ Good N ls top base n (fun P' ds' => S P' ds' ∨ (P' = P ∧ ds' = cur)) q' := by
  obtain ⟨l1, l2⟩ := hL P cur hP.1 hP.2 hc
  refine ⟨_, best_1 l2 (h.fine hL) l1 hN, ?_⟩
  have hok : ∀ P' ds', (S P' ds' ∨ (P' = P ∧ ds' = cur)) → 1 ≤ P' ∧ P' ≤ top ∧ CurOk base n ds' := by
    rintro P' ds' (k | ⟨rfl, rfl⟩)
    · exact h.ok P' ds' k
    · exact ⟨hP.1, hP.2, hc⟩
  by_cases hb : (decide (q.1 = 0) || lessL (LO N ls P cur) q.2.1) = true
  · rw [if_pos hb]
    refine ⟨fun e => by simp at e; omega, fun _ => ⟨hP.1, hP.2, hc, rfl⟩, hok, fun _ P' ds' k => ?_⟩
    simp only
    rcases k with k | ⟨rfl, rfl⟩
    · by_cases e : q.1 = 0
      · exact absurd k (h.zero e P' ds')
      · have hlt : lessL (LO N ls P cur) q.2.1 = true := by simpa [e] using hb
        obtain ⟨a, b, c⟩ := h.ok P' ds' k
        exact lessL_trans (hL P' ds' a b c).2 l2 ((h.fine hL).resolve_left e) (h.min e P' ds' k) hlt
    · exact lessL_irrefl _
  · rw [if_neg hb]
    simp only [Bool.or_eq_true, decide_eq_true_eq, not_or, Bool.not_eq_true] at hb
    refine ⟨fun e => absurd e hb.1, h.pos, hok, fun e P' ds' k => ?_⟩
    rcases k with k | ⟨rfl, rfl⟩
    · exact h.min e P' ds' k
    · exact hb.2

theorem cur0 {ds : List Int} : CurOk base 0 ds ↔ ds = [] := by
  unfold CurOk
  constructor
  · rintro ⟨h, _⟩; exact List.eq_nil_of_length_eq_zero h
  · rintro rfl; simp
theorem cur1 {ds : List Int} : CurOk base 1 ds ↔ ∃ d, ds = [d] ∧ 1 ≤ d ∧ d ≤ base := by
  unfold CurOk
  constructor
  · rintro ⟨h, k⟩
    match ds, h with
    | [d], _ => exact ⟨d, rfl, k d (by simp)⟩
  · rintro ⟨d, rfl, h⟩; refine ⟨rfl, fun e he => ?_⟩; simp at he; rw [he]; exact h

theorem visit0 (h : Good N ls top base 0 S q) (hL : HL N ls top base 0) {P : Int} (hP : 1 ≤ P ∧ P ≤ top) (hN : 36893488147419103232 < N) :
    ∃ q', check_numbers N 0 base (fun x q => check_Best_1 N x ls P q.1 q.2.1 q.2.2) q = some q' ∧ Good N ls top base 0 (fun P' ds' => S P' ds' ∨ (P' = P ∧ CurOk base 0 ds')) q' := by
  obtain ⟨q', h1, h2⟩ := h.step hL hP (cur0.2 rfl) (by omega)
  refine ⟨q', ?_, h2.ext fun P' ds' => by rw [cur0]⟩
  unfold check_numbers
  have e := repeat_eq (N := N) (n := 0) (by omega) (by omega)
  rw [show slices_Repeat_Lint_int N [1] 0 = some [] from e]
  simp only [Option.bind_some]
  obtain ⟨k, hk⟩ : ∃ k, N = k + 1 := ⟨N - 1, by omega⟩
  have e1 : check_numbers_l1 N 0 base (fun x q => check_Best_1 N x ls P q.1 q.2.1 q.2.2) N q [] = some (.inr q') := by
    conv => lhs; arg 5; rw [hk]
    rw [check_numbers_l1.eq_2, clone_eq N [] (by simp)]
    simp only [Option.bind_some, h1]
    have e2 : check_numbers_l2 N base N (0 - 1) [] = some (-1, []) := by
      conv => lhs; arg 3; rw [hk]
      rw [check_numbers_l2.eq_2]
      simp
    rw [e2]
    simp [chk, show inR (-1) by decide]
  rw [e1]; rfl

theorem visit1_l (hL : HL N ls top base 1) {P : Int} (hP : 1 ≤ P ∧ P ≤ top) (hb : base ≤ 8) (hN : 36893488147419103232 < N) : ∀ (m : Nat) (d : Int) (q : Int × Loss × List Int) (S : Int → List Int → Prop), 1 ≤ d → d ≤ base → (base - d).toNat < m → Good N ls top base 1 S q →
    ∃ q', check_numbers_l1 N 1 base (fun x q => check_Best_1 N x ls P q.1 q.2.1 q.2.2) m q [d] = some (.inr q') ∧ Good N ls top base 1 (fun P' ds' => S P' ds' ∨ (P' = P ∧ ∃ e, ds' = [e] ∧ d ≤ e ∧ e ≤ base)) q'
  | 0, _, _, _, _, _, h, _ => absurd h (Nat.not_lt_zero _)
  | m + 1, d, q, S, h1, h2, hm, h => by
    obtain ⟨q1, e1, g1⟩ := h.step hL hP (cur1.2 ⟨d, rfl, h1, h2⟩) (by omega)
    rw [check_numbers_l1.eq_2, clone_eq N [d] (by simp)]
    simp only [Option.bind_some, e1]
    obtain ⟨k, hk⟩ : ∃ k, N = k + 2 := ⟨N - 2, by omega⟩
    have n1 : ¬ (0 : Int) ≤ -1 := by omega
    by_cases hd : d = base
    · have e2 : check_numbers_l2 N base N (1 - 1) [d] = some (-1, [1]) := by
        conv => lhs; arg 3; rw [hk]
        subst hd
        simp [check_numbers_l2, idx, chk, show inR (-1) by decide]
      rw [e2]
      refine ⟨q1, by simp [chk, show inR 0 by decide], g1.ext fun P' ds' => ?_⟩
      constructor
      · rintro (k | ⟨rfl, rfl⟩)
        · exact .inl k
        · exact .inr ⟨rfl, d, rfl, by omega, by omega⟩
      · rintro (k | ⟨rfl, e, rfl, e1, e2⟩)
        · exact .inl k
        · exact .inr ⟨rfl, by rw [show e = d by omega]⟩
    · have e2 : check_numbers_l2 N base N (1 - 1) [d] = some (0, [d]) := by
        conv => lhs; arg 3; rw [hk]
        simp [check_numbers_l2, idx, hd]
      rw [e2]
      obtain ⟨q2, e3, g2⟩ := visit1_l hL hP hb hN m (d + 1) q1 _ (by omega) (by omega) (by omega) g1
      refine ⟨q2, ?_, g2.ext fun P' ds' => ?_⟩
      · simp only [Option.bind_some, show ¬ ((0 : Int) < 0) by omega, decide_false, Bool.false_eq_true, if_false]
        simp only [idx, chk, show inR (1 - 1) by decide, if_true, show (0 : Int) ≤ 0 by omega]
        simp only [Int.toNat_zero, List.getElem?_cons_zero, Option.bind_some, List.set_cons_zero]
        rw [if_pos (show inR (d + 1) by unfold inR; omega)]
        exact e3
      · constructor
        · rintro ((k | ⟨rfl, rfl⟩) | ⟨rfl, e, rfl, a, b⟩)
          · exact .inl k
          · exact .inr ⟨rfl, d, rfl, by omega, by omega⟩
          · exact .inr ⟨rfl, e, rfl, by omega, b⟩
        · rintro (k | ⟨rfl, e, rfl, a, b⟩)
          · exact .inl (.inl k)
          · by_cases he : e = d
            · exact .inl (.inr ⟨rfl, by rw [he]⟩)
            · exact .inr ⟨rfl, e, rfl, by omega, b⟩

theorem visit (hn : n ≤ 1) (h : Good N ls top base n S q) (hL : HL N ls top base n) {P : Int} (hP : 1 ≤ P ∧ P ≤ top) (hb : 1 ≤ base ∧ base ≤ 8) (hN : 36893488147419103232 < N) :
    ∃ q', check_numbers N (n : Int) base (fun x q => check_Best_1 N x ls P q.1 q.2.1 q.2.2) q = some q' ∧ Good N ls top base n (fun P' ds' => S P' ds' ∨ (P' = P ∧ CurOk base n ds')) q' := by
  match n, hn with
  | 0, _ => exact visit0 h hL hP hN
  | 1, _ =>
    obtain ⟨q', h1, h2⟩ := visit1_l hL hP hb.2 hN N 1 q S (by omega) hb.1 (by omega) h
    refine ⟨q', ?_, h2.ext fun P' ds' => by rw [cur1]⟩
    unfold check_numbers
    have e := repeat_eq (N := N) (n := 1) (by omega) (by omega)
    rw [show slices_Repeat_Lint_int N [1] ((1 : Nat) : Int) = some [1] from e]
    simp only [Option.bind_some]
    rw [show ((1 : Nat) : Int) = 1 from rfl, h1]
    rfl

theorem groups (hn : n ≤ 1) (hl : n + 1 = ls.length) (hL : HL N ls top base n) (htop : top ≤ 4096) (hb : 1 ≤ base ∧ base ≤ 8) (hN : 36893488147419103232 < N) :
    ∀ (m : Nat) (P best : Int) (divs : List Int) (least : Loss), 1 ≤ P → (top + 1 - P).toNat < m → Good N ls top base n (fun P' ds' => 1 ≤ P' ∧ P' < P ∧ P' ≤ top ∧ CurOk base n ds') (best, least, divs) →
      ∃ b ds R, check_Best_l1 N ls top base m P best divs least = some (b, ds) ∧ Good N ls top base n (fun P' ds' => 1 ≤ P' ∧ P' ≤ top ∧ CurOk base n ds') (b, R, ds)
  | 0, _, _, _, _, _, h, _ => absurd h (Nat.not_lt_zero _)
  | m + 1, P, best, divs, least, hP, hm, h => by
    have hnn : (ls.length : Int) - 1 = (n : Int) := by omega
    rw [check_Best_l1.eq_2]
    by_cases ht : P ≤ top
    · obtain ⟨q, h1, h2⟩ := visit hn h hL ⟨hP, ht⟩ hb hN
      obtain ⟨b, ds, R, e1, e2⟩ := groups hn hl hL htop hb hN m (P + 1) q.1 q.2.2 q.2.1 (by omega) (by omega) (h2.ext fun P' ds' => ⟨fun k => by
          rcases k with ⟨a, b, c, d⟩ | ⟨rfl, d⟩
          · exact ⟨a, by omega, c, d⟩
          · exact ⟨hP, by omega, ht, d⟩, fun ⟨a, b, c, d⟩ => by
          by_cases e : P' = P
          · exact .inr ⟨e, d⟩
          · exact .inl ⟨a, by omega, c, d⟩⟩)
      refine ⟨b, ds, R, ?_, e2⟩
      simp only [ht, decide_true, if_true, hnn]
      unfold chk
      rw [if_pos (show inR (n : Int) by unfold inR; omega), h1]
      simp only [Option.bind_some]
      rw [if_pos (show inR (P + 1) by unfold inR; omega)]
      exact e1
    · exact ⟨best, divs, least, by simp [ht], h.ext fun P' ds' => ⟨fun ⟨a, _, c, d⟩ => ⟨a, c, d⟩, fun ⟨a, c, d⟩ => ⟨a, by omega, c, d⟩⟩⟩

theorem ones_ok (hb : 1 ≤ base) (n : Nat) : CurOk base n (List.replicate n 1) := ⟨by simp, fun d hd => by rw [List.eq_of_mem_replicate hd]; omega⟩

/-- Best: it finds a plan within the limits, and no other one has less loss. -/
theorem Best_min (hg : goodL ls = true) (hn : n ≤ 1) (hl : n + 1 = ls.length) (hL : HL N ls top base n) (htop : 1 ≤ top ∧ top ≤ 4096) (hb : 1 ≤ base ∧ base ≤ 8) (hN : 36893488147419103232 < N) :
    ∃ b ds, check_Best N ls top base = some (b, ds, 0) ∧ 1 ≤ b ∧ b ≤ top ∧ CurOk base n ds ∧ ∀ P ds', 1 ≤ P → P ≤ top → CurOk base n ds' → lessL (LO N ls P ds') (LO N ls b ds) = false := by
  unfold check_Best
  rw [levelled_eq N ls (by omega)]
  simp only [Option.bind_some, hg, if_true, decide_true, Bool.not_true, Bool.false_eq_true, if_false, show ¬ top < 1 by omega, show ¬ 4096 < top by omega, show ¬ base < 1 by omega, show ¬ 8 < base by omega, decide_false]
  obtain ⟨b, ds, R, e1, e2⟩ := groups hn hl hL htop.2 hb hN N 1 0 [] ⟨0, 0⟩ (by omega) (by omega) ⟨fun _ P ds k => by omega, fun e => absurd rfl e, fun P ds k => by omega, fun e => absurd rfl e⟩
  rw [e1]
  have hb0 : b ≠ 0 := fun e => e2.zero e 1 (List.replicate n 1) ⟨by omega, htop.1, ones_ok hb.1 n⟩
  obtain ⟨p1, p2, p3, p4⟩ := e2.pos hb0
  simp only at p1 p2 p3 p4
  refine ⟨b, ds, rfl, p1, p2, p3, fun P ds' a c d => ?_⟩
  have := e2.min hb0 P ds' ⟨a, c, d⟩
  simp only [p4] at this
  exact this
end
end Go.Arm
namespace Go.Arm
open Go Go.RowKit

theorem goodL_of {ls : List Level} (h0 : 1 ≤ ls.length) (h1 : ls.length ≤ 3) (h : ∀ l ∈ ls, LevOk l) : goodL ls = true := by
  unfold goodL
  simp only [Bool.and_eq_true, decide_eq_true_eq, Bool.not_eq_true']
  refine ⟨⟨h0, h1⟩, List.any_eq_false.2 fun l hl => ?_⟩
  obtain ⟨a, b, c, d⟩ := h l hl
  simp only [badL, Bool.or_eq_true, decide_eq_true_eq]
  omega
def Small (l : Level) : Prop := 1 ≤ l.Cost ∧ l.Cost ≤ 30 ∧ 1 ≤ l.Mean ∧ l.Mean ≤ 30
theorem Small.ok {l : Level} (h : Small l) : LevOk l := by obtain ⟨a, b, c, d⟩ := h; exact ⟨a, by omega, c, by omega⟩

theorem HL1 {N : Nat} {x : Level} {top base : Int} (hx : LevOk x) (ht : top ≤ 4096) (hN : 562949953421312 < N) : HL N [x] top base 0 := by
  intro P ds h1 h2 hc
  rw [cur0] at hc
  subst hc
  obtain ⟨a, b⟩ := lose1 (P := P) hx ⟨h1, by omega⟩ hN
  unfold LO
  rw [a]; exact ⟨rfl, b⟩
theorem HL2 {N : Nat} {x y : Level} {top base : Int} (hx : LevOk x) (hy : LevOk y) (ht : top ≤ 4096) (hb : base ≤ 8) (hN : 562949953421312 < N) : HL N [x, y] top base 1 := by
  intro P ds h1 h2 hc
  obtain ⟨d, rfl, d1, d2⟩ := cur1.1 hc
  obtain ⟨n, T, a, b, _⟩ := lose2 (P := P) (d := d) hx hy ⟨h1, by omega⟩ ⟨d1, by omega⟩ hN
  unfold LO
  rw [a]; exact ⟨rfl, b⟩

theorem Lose_ok {N : Nat} {ls : List Level} {P : Int} {ds : List Int} {R : Loss} (hg : goodL ls = true) (hP : 1 ≤ P ∧ P ≤ 4096) (hl : ds.length + 1 = ls.length) (hd : ∀ d ∈ ds, 1 ≤ d ∧ d ≤ 8) (hR : check_lose N ls P ds = some R) (hN : 1000 < N) :
    check_Lose N ls P ds = some (R, 0) := by
  have hll := (goodL_ok hg).2.1
  unfold check_Lose
  rw [levelled_eq N ls hN]
  have e : (ds.length : Int) = (ls.length : Int) - 1 := by omega
  have ha : ds.any badD = false := List.any_eq_false.2 fun d hd' => by have := hd d hd'; simp only [badD, Bool.or_eq_true, decide_eq_true_eq]; omega
  simp only [Option.bind_some, hg, if_true, decide_true, Bool.not_true, Bool.false_eq_true, if_false, show ¬ P < 1 by omega, show ¬ 4096 < P by omega, decide_false, chk]
  rw [if_pos (show inR ((ls.length : Int) - 1) by unfold inR; omega)]
  simp only [e, decide_true, Bool.not_true, Bool.false_eq_true, if_false]
  rw [contains_int N ds _ badD (fun x _ => lose_1 N x) (by omega) hN]
  simp only [Option.bind_some, ha, Bool.false_eq_true, if_false, hR]

theorem l1_step {N : Nat} {ls : List Level} {i : Int} {k : Nat} {l : Level} (hi : i < ls.length) (hin : inR (i + 1)) (hl : idx ls i = some l) (hs : Small l) : law14_CheckBest_l1 N ls (k + 1) i = law14_CheckBest_l1 N ls k (i + 1) := by
  obtain ⟨a, b, c, d⟩ := hs
  rw [law14_CheckBest_l1.eq_2]
  simp only [hi, decide_true, if_true, hl, Option.bind_some, show ¬ l.Cost < 1 by omega, show ¬ 30 < l.Cost by omega, show ¬ l.Mean < 1 by omega, show ¬ 30 < l.Mean by omega, decide_false, Bool.false_eq_true, if_false, chk, if_pos hin]
theorem l1_bad {N : Nat} {ls : List Level} {i : Int} {k : Nat} {l : Level} (hi : i < ls.length) (hl : idx ls i = some l) (hs : ¬ Small l) : law14_CheckBest_l1 N ls (k + 1) i = some (.inr true) := by
  rw [law14_CheckBest_l1.eq_2]
  simp only [hi, decide_true, if_true, hl, Option.bind_some]
  have hb : (if decide (l.Cost < 1) = true then some true else if decide (30 < l.Cost) = true then some true else if decide (l.Mean < 1) = true then some true else some (decide (30 < l.Mean))) = some true := by
    unfold Small at hs
    repeat' split
    all_goals first | rfl | skip
    simp only [decide_eq_true_eq, Option.some.injEq] at *
    omega
  rw [hb]
  rfl
theorem l1_end {N : Nat} {ls : List Level} {i : Int} {k : Nat} (hi : ¬ i < ls.length) : law14_CheckBest_l1 N ls (k + 1) i = some (.inl ()) := by
  rw [law14_CheckBest_l1.eq_2]; simp [hi]

theorem best_free {N : Nat} {x : Level} (hx : Small x) (hN : 36893488147419103232 < N) : ∃ t ds, check_Best N [x] 4096 1 = some (t, ds, 0) ∧ 1 ≤ t ∧ t ≤ 4096 ∧
    (t - 1) * (t - 1) < 2 * x.Cost * x.Mean ∧ 2 * x.Cost * x.Mean < (t + 1) * (t + 1) := by
  have hL := hx.ok
  obtain ⟨c0, c1, m0, m1⟩ := hx
  obtain ⟨t, ds, e, t0, t1, hc, hmin⟩ := Best_min (N := N) (ls := [x]) (top := 4096) (base := 1) (n := 0) (goodL_of (by simp) (by simp) (by simpa using hL)) (by omega) (by simp) (HL1 hL (by omega) (by omega)) (by omega) (by omega) hN
  refine ⟨t, ds, e, t0, t1, ?_⟩
  rw [cur0] at hc
  subst hc
  have key : ∀ P, 1 ≤ P → P ≤ 4096 → (2 * x.Mean * x.Cost + t * t) * P ≤ (2 * x.Mean * x.Cost + P * P) * t := by
    intro P p0 p1
    have h := hmin P [] p0 p1 (cur0.2 rfl)
    have e1 : LO N [x] P [] = lowest (2 * x.Mean * x.Cost + P * P) (2 * x.Mean * P) := by unfold LO; rw [(lose1 (P := P) hL ⟨p0, p1⟩ (by omega)).1]; rfl
    have e2 : LO N [x] t [] = lowest (2 * x.Mean * x.Cost + t * t) (2 * x.Mean * t) := by unfold LO; rw [(lose1 (P := t) hL ⟨t0, t1⟩ (by omega)).1]; rfl
    have z0 : 0 ≤ 2 * x.Mean * x.Cost := Int.mul_nonneg (by omega) (by omega)
    have q1 : 0 ≤ P * P := Int.mul_nonneg (by omega) (by omega)
    have q2 : 0 ≤ t * t := Int.mul_nonneg (by omega) (by omega)
    have hm2 : 0 < 2 * x.Mean := by omega
    rw [e1, e2, less_low (by omega) (Int.mul_pos hm2 (by omega)) (by omega) (Int.mul_pos hm2 (by omega))] at h
    simp only [decide_eq_false_iff_not, Int.not_lt] at h
    refine Int.le_of_mul_le_mul_left (a := 2 * x.Mean) ?_ hm2
    have e3 : 2 * x.Mean * ((2 * x.Mean * x.Cost + t * t) * P) = (2 * x.Mean * x.Cost + t * t) * (2 * x.Mean * P) := by grind
    have e4 : 2 * x.Mean * ((2 * x.Mean * x.Cost + P * P) * t) = (2 * x.Mean * x.Cost + P * P) * (2 * x.Mean * t) := by grind
    omega
  have ez : 2 * x.Mean * x.Cost = 2 * x.Cost * x.Mean := by grind
  rw [ez] at key
  have z0 : 1 ≤ 2 * x.Cost * x.Mean := by
    have : 0 < 2 * x.Cost * x.Mean := Int.mul_pos (by omega) (by omega)
    omega
  have z1 : 2 * x.Cost * x.Mean ≤ 60 * 30 := Int.mul_le_mul (by omega) m1 (by omega) (by omega)
  generalize 2 * x.Cost * x.Mean = z at *
  have low : (t - 1) * (t - 1) < z := by
    by_cases h1 : t = 1
    · subst h1; simp; omega
    · have h := key (t - 1) (by omega) (by omega)
      have e1 : (z + t * t) * (t - 1) = z * t - z + (t * t) * (t - 1) := by grind
      have e2 : (z + (t - 1) * (t - 1)) * t = z * t + t * (t - 1) * (t - 1) := by grind
      have e3 : (t * t) * (t - 1) = t * (t - 1) * (t - 1) + t * (t - 1) := by grind
      have e4 : t * (t - 1) = (t - 1) * (t - 1) + (t - 1) := by grind
      omega
  have ht : t ≤ 44 := by
    have : ¬ 44 ≤ t - 1 := by
      intro h
      have : 44 * 44 ≤ (t - 1) * (t - 1) := Int.mul_le_mul h h (by omega) (by omega)
      omega
    omega
  refine ⟨low, ?_⟩
  have h := key (t + 1) (by omega) (by omega)
  have e1 : (z + t * t) * (t + 1) = z * t + z + (t * t * t + t * t) := by grind
  have e2 : (z + (t + 1) * (t + 1)) * t = z * t + (t * t * t + 2 * (t * t) + t) := by grind
  have e3 : (t + 1) * (t + 1) = t * t + 2 * t + 1 := by grind
  omega

/-- The part of the law behind the checks. -/
theorem body {N : Nat} {R R' : Loss} (hR : R.Den ≥ 1 ∧ R.Num ≤ 1073741824 ∧ R.Den ≤ 1073741824 ∧ 0 ≤ R.Num) (hR' : R'.Den ≥ 1 ∧ R'.Num ≤ 1073741824 ∧ R'.Den ≤ 1073741824 ∧ 0 ≤ R'.Num)
    (hless : lessL R' R = false) : (if decide (R.Den < 1) then some true else if decide (R'.Den < 1) then some true else if decide (1073741824 < max (max (max R.Num R.Den) R'.Num) R'.Den) then some true else Option.bind (law14_less N R' R) fun y => some y) = some false := by
  obtain ⟨a1, a2, a3, a4⟩ := hR
  obtain ⟨b1, b2, b3, b4⟩ := hR'
  have hm : ¬ 1073741824 < max (max (max R.Num R.Den) R'.Num) R'.Den := by omega
  simp only [show ¬ R.Den < 1 by omega, show ¬ R'.Den < 1 by omega, hm, decide_false, Bool.false_eq_true, if_false]
  unfold law14_less chk
  have p1 := mul_bd b4 b2 (show 0 ≤ R.Den by omega) a3
  have p2 := mul_bd a4 a2 (show 0 ≤ R'.Den by omega) b3
  unfold lessL at hless
  rw [if_pos (show inR (R'.Num * R.Den) by unfold inR; omega), if_pos (show inR (R.Num * R'.Den) by unfold inR; omega), hless]
  rfl
end Go.Arm
namespace Go.Arm
open Go Go.RowKit

def Byte (x : U8) : Prop := 0 ≤ x.n ∧ x.n < 256
theorem tm {x k : Int} (hx : 0 ≤ x) (hk : 0 < k) : 0 ≤ Int.tmod x k ∧ Int.tmod x k < k := by
  rw [Int.tmod_eq_emod_of_nonneg hx]
  exact ⟨Int.emod_nonneg _ (by omega), Int.emod_lt_of_pos _ hk⟩

/-- What is known of the losses of small plans. -/
def Fits40 (N : Nat) (ls : List Level) (n : Nat) : Prop := ∀ P ds, 1 ≤ P → P ≤ 40 → CurOk 4 n ds → (LO N ls P ds).Den ≥ 1 ∧ (LO N ls P ds).Num ≤ 1073741824 ∧ (LO N ls P ds).Den ≤ 1073741824 ∧ 0 ≤ (LO N ls P ds).Num
theorem fits1 {N : Nat} {x : Level} (hx : Small x) (hN : 562949953421312 < N) : Fits40 N [x] 0 := by
  intro P ds h1 h2 hc
  rw [cur0] at hc
  subst hc
  have e := (lose1 (P := P) hx.ok ⟨h1, by omega⟩ hN).1
  obtain ⟨c0, c1, m0, m1⟩ := hx
  unfold LO
  rw [e]
  have b1 := mul_bd (show 0 ≤ 2 * x.Mean by omega) (show 2 * x.Mean ≤ 60 by omega) (show 0 ≤ x.Cost by omega) c1
  have b2 := mul_bd (show 0 ≤ P by omega) h2 (show 0 ≤ P by omega) h2
  have b3 := mul_bd (show 0 ≤ 2 * x.Mean by omega) (show 2 * x.Mean ≤ 60 by omega) (show 0 ≤ P by omega) h2
  have hT : 0 < 2 * x.Mean * P := Int.mul_pos (by omega) (by omega)
  obtain ⟨l1, l2, l3, l4⟩ := low_le (n := 2 * x.Mean * x.Cost + P * P) (by omega) hT
  simp only [Option.getD_some]
  exact ⟨l3, by omega, by omega, l4⟩
theorem fits2 {N : Nat} {x y : Level} (hx : Small x) (hy : Small y) (hN : 562949953421312 < N) : Fits40 N [x, y] 1 := by
  intro P ds h1 h2 hc
  obtain ⟨d, rfl, d1, d2⟩ := cur1.1 hc
  obtain ⟨n, T, e, _, n0, T0, hb⟩ := lose2 (P := P) (d := d) hx.ok hy.ok ⟨h1, by omega⟩ ⟨d1, by omega⟩ hN
  obtain ⟨c0, c1, m0, m1⟩ := hx
  obtain ⟨k0, k1, j0, j1⟩ := hy
  obtain ⟨b1, b2⟩ := hb c1 m1 k1 j1 h2 d2
  unfold LO
  rw [e]
  obtain ⟨l1, l2, l3, l4⟩ := low_le n0 T0
  simp only [Option.getD_some]
  exact ⟨l3, by omega, by omega, l4⟩

theorem l2_eq {N n : Nat} {a2 a4 : U8} {y : Int × List Int × Int} {nb : Int} (hnb : 1 + Int.tmod a2.n 4 = nb) (hb : 1 ≤ nb ∧ nb ≤ 4) (h4 : Byte a4) (hn : n ≤ 1) (hc : CurOk nb n y.2.1) (hN : 3 < N) :
    law14_CheckBest_l2 N a2 a4 y N 0 (List.replicate ((y.2.1.length : Int)).toNat (0 : Int)) = some (.inl (List.replicate n (1 + Int.tmod a4.n nb))) := by
  obtain ⟨k, hk⟩ : ∃ k, N = k + 2 := ⟨N - 2, by omega⟩
  obtain ⟨b, ds, e⟩ := y
  simp only at hc
  have ht := tm h4.1 (show 0 < nb by omega)
  have h4' := h4
  unfold Byte at h4'
  match n, hn with
  | 0, _ =>
    rw [cur0] at hc
    subst hc
    conv => lhs; arg 5; rw [hk]
    simp [law14_CheckBest_l2]
  | 1, _ =>
    obtain ⟨d, rfl, d1, d2⟩ := cur1.1 hc
    conv => lhs; arg 5; rw [hk]
    have i1 : inR a4.n := by unfold inR; omega
    have i2 : inR (1 + Int.tmod a4.n nb) := by unfold inR; omega
    simp [law14_CheckBest_l2, idx, hnb, show ¬ d < 1 by omega, show ¬ nb < d by omega, chk, i1, i2, show ¬ nb = 0 by omega, show inR 1 by decide]

theorem rest_ok {N n : Nat} {ls : List Level} {a1 a2 a3 a4 : U8} (h1 : Byte a1) (h2 : Byte a2) (h3 : Byte a3) (h4 : Byte a4) (hn : n ≤ 1) (hl : n + 1 = ls.length) (hs : ∀ l ∈ ls, Small l) (hN : 36893488147419103232 < N)
    (hH : ∀ top base, top ≤ 4096 → base ≤ 8 → HL N ls top base n) (hF : Fits40 N ls n) (hl1 : law14_CheckBest_l1 N ls N 0 = some (.inl ())) : law14_CheckBest N ls a1 a2 a3 a4 = some true := by
  have hw : ∀ N, law14_works N = some true := fun _ => rfl
  have hg : goodL ls = true := goodL_of (by omega) (by omega) (fun l hl => (hs l hl).ok)
  unfold law14_CheckBest
  have t1 := tm h1.1 (show (0 : Int) < 40 by decide)
  have t2 := tm h2.1 (show (0 : Int) < 4 by decide)
  have b1 := h1
  have b2 := h2
  have b3 := h3
  have b4 := h4
  unfold Byte at b1 b2 b3 b4
  obtain ⟨up, hup⟩ : ∃ up, 1 + Int.tmod a1.n 40 = up := ⟨_, rfl⟩
  obtain ⟨nb, hnb⟩ : ∃ nb, 1 + Int.tmod a2.n 4 = nb := ⟨_, rfl⟩
  have t3 := tm h3.1 (show (0 : Int) < up by omega)
  have t4 := tm h4.1 (show (0 : Int) < nb by omega)
  obtain ⟨b, ds, e, p1, p2, hc, hmin⟩ := Best_min (N := N) (top := up) (base := nb) hg hn hl (hH up nb (by omega) (by omega)) (by omega) (by omega) hN
  have hdl : (ds.length : Int) = (ls.length : Int) - 1 := by rw [hc.1]; omega
  have hc4 : ∀ ds', CurOk nb n ds' → CurOk 4 n ds' := fun ds' h => ⟨h.1, fun d hd => by have := h.2 d hd; omega⟩
  have ho : CurOk nb n (List.replicate n (1 + Int.tmod a4.n nb)) := ⟨by simp, fun d hd => by rw [List.eq_of_mem_replicate hd]; omega⟩
  have hL1 := Lose_ok hg (P := b) (ds := ds) ⟨p1, by omega⟩ (by rw [hc.1]; exact hl) (fun d hd => by have := hc.2 d hd; omega) (hH up nb (by omega) (by omega) b ds p1 p2 hc).1 (by omega)
  have hL2 := Lose_ok hg (P := 1 + Int.tmod a3.n up) (ds := List.replicate n (1 + Int.tmod a4.n nb)) ⟨by omega, by omega⟩ (by rw [ho.1]; exact hl) (fun d hd => by have := ho.2 d hd; omega) (hH up nb (by omega) (by omega) (1 + Int.tmod a3.n up) _ (by omega) (by omega) ho).1 (by omega)
  have hbody := body (N := N) (hF b ds p1 (by omega) (hc4 ds hc)) (hF (1 + Int.tmod a3.n up) _ (by omega) (by omega) (hc4 _ ho)) (hmin (1 + Int.tmod a3.n up) _ (by omega) (by omega) ho)
  have e2 := l2_eq (N := N) (y := (b, ds, (0 : Int))) hnb (by omega) h4 hn hc (by omega)
  simp only at e2
  simp only [show ¬ ((ls.length : Int) < 1) by omega, show ¬ (2 < (ls.length : Int)) by omega, decide_false, Bool.false_eq_true, if_false, Option.bind_some, hl1]
  unfold chk
  rw [if_pos (show inR a1.n by unfold inR; omega), if_pos (show (40 : Int) ≠ 0 by decide), hup, if_pos (show inR up by unfold inR; omega), if_pos (show inR a2.n by unfold inR; omega), if_pos (show (4 : Int) ≠ 0 by decide), hnb, if_pos (show inR nb by unfold inR; omega)]
  rw [e]
  simp only [Option.bind_some, decide_true, Bool.not_true, Bool.false_eq_true, if_false, show ¬ b < 1 by omega, show ¬ up < b by omega, decide_false, hdl]
  rw [if_pos (show inR ((ls.length : Int) - 1) by unfold inR; omega)]
  simp only [Option.bind_some, Bool.false_eq_true, if_false]
  rw [if_pos ⟨by omega, by omega, by omega⟩]
  rw [hdl] at e2
  rw [e2]
  simp only [Option.bind_some, hL1]
  rw [if_pos (show inR a3.n by unfold inR; omega), if_pos (show up ≠ 0 by omega), if_pos (show inR (1 + Int.tmod a3.n up) by unfold inR; omega), hL2]
  simp only [Option.bind_some, decide_true, Bool.not_true, Bool.false_eq_true, if_false]
  rw [hbody]
  simp only [Option.bind_some, Bool.false_eq_true, if_false]
  by_cases hone : (ls.length : Int) = 1
  · match ls, hone with
    | [x], _ =>
      have hx : Small x := hs x (by simp)
      obtain ⟨t, ds', f1, f2, f3, f4, f5⟩ := best_free hx hN
      have hi : idx [x] 0 = some x := rfl
      obtain ⟨c0, c1, m0, m1⟩ := hx
      have z1 : 2 * x.Cost * x.Mean ≤ 60 * 30 := Int.mul_le_mul (by omega) m1 (by omega) (by omega)
      have z0 : 0 ≤ 2 * x.Cost * x.Mean := Int.mul_nonneg (by omega) (by omega)
      have q1 := mul_bd (show 0 ≤ t - 1 by omega) (show t - 1 ≤ 4096 by omega) (show 0 ≤ t - 1 by omega) (show t - 1 ≤ 4096 by omega)
      have q2 := mul_bd (show 0 ≤ t + 1 by omega) (show t + 1 ≤ 4097 by omega) (show 0 ≤ t + 1 by omega) (show t + 1 ≤ 4097 by omega)
      simp only [hi, Option.bind_some]
      rw [if_pos (show inR (2 * x.Cost) by unfold inR; omega), if_pos (show inR (2 * x.Cost * x.Mean) by unfold inR; omega), f1]
      simp only [Option.bind_some, decide_true, Bool.not_true, Bool.false_eq_true, if_false]
      rw [if_pos (show inR (t - 1) by unfold inR; omega), if_pos (show inR (t - 1) by unfold inR; omega), if_pos (show inR ((t - 1) * (t - 1)) by unfold inR; omega)]
      simp only [show ¬ (2 * x.Cost * x.Mean ≤ (t - 1) * (t - 1)) by omega, decide_false, Bool.false_eq_true, if_false]
      rw [if_pos (show inR (t + 1) by unfold inR; omega), if_pos (show inR (t + 1) by unfold inR; omega), if_pos (show inR ((t + 1) * (t + 1)) by unfold inR; omega)]
      simp only [show ¬ ((t + 1) * (t + 1) ≤ 2 * x.Cost * x.Mean) by omega, decide_false, Bool.false_eq_true, if_false, Option.bind_some, hw]
      exact ite_self _
  · simp only [hone, decide_false, Bool.false_eq_true, if_false, hw, Option.bind_some]

theorem law_bad {N : Nat} {ls : List Level} {a1 a2 a3 a4 : U8} (h0 : ¬ ((ls.length : Int) < 1)) (h2 : ¬ (2 < (ls.length : Int))) (hl1 : law14_CheckBest_l1 N ls N 0 = some (.inr true)) : law14_CheckBest N ls a1 a2 a3 a4 = some true := by
  unfold law14_CheckBest
  simp only [h0, h2, decide_false, Bool.false_eq_true, if_false, Option.bind_some, hl1]

/-- The law: whatever the input, true. -/
theorem law (a0 : List Level) (a1 a2 a3 a4 : U8) (h1 : Byte a1) (h2 : Byte a2) (h3 : Byte a3) (h4 : Byte a4) : ∃ N, law14_CheckBest N a0 a1 a2 a3 a4 = some true := by
  refine ⟨36893488147419103233, ?_⟩
  generalize hN' : (36893488147419103233 : Nat) = N
  have hN : 36893488147419103232 < N := by omega
  clear hN'
  have hw : ∀ N, law14_works N = some true := fun _ => rfl
  obtain ⟨k, hk⟩ : ∃ k, N = k + 3 := ⟨N - 3, by omega⟩
  match a0 with
  | [] => unfold law14_CheckBest; simp [hw]
  | [x] =>
    by_cases hx : Small x
    · refine rest_ok h1 h2 h3 h4 (n := 0) (by omega) rfl (by simpa using hx) hN (fun top base ht hb => HL1 hx.ok ht (by omega)) (fits1 hx (by omega)) ?_
      conv => lhs; arg 3; rw [hk]
      rw [l1_step (l := x) (by simp) (by decide) rfl hx, l1_end (by simp)]
    · refine law_bad (by simp) (by simp) ?_
      conv => lhs; arg 3; rw [hk]
      rw [l1_bad (l := x) (by simp) rfl hx]
  | [x, y] =>
    by_cases hx : Small x
    · by_cases hy : Small y
      · refine rest_ok h1 h2 h3 h4 (n := 1) (by omega) rfl (by simp [hx, hy]) hN (fun top base ht hb => HL2 hx.ok hy.ok ht hb (by omega)) (fits2 hx hy (by omega)) ?_
        conv => lhs; arg 3; rw [hk]
        rw [l1_step (l := x) (by simp) (by decide) rfl hx, l1_step (l := y) (by simp) (by decide) rfl hy, l1_end (by simp)]
      · refine law_bad (by simp) (by simp) ?_
        conv => lhs; arg 3; rw [hk]
        rw [l1_step (l := x) (by simp) (by decide) rfl hx, l1_bad (l := y) (by simp) rfl hy]
    · refine law_bad (by simp) (by simp) ?_
      conv => lhs; arg 3; rw [hk]
      rw [l1_bad (l := x) (by simp) rfl hx]
  | x :: y :: z :: l =>
    have e1 : ¬ (((x :: y :: z :: l).length : Int) < 1) := by simp only [List.length_cons]; omega
    have e2 : 2 < ((x :: y :: z :: l).length : Int) := by simp only [List.length_cons]; omega
    unfold law14_CheckBest
    simp only [e1, e2, decide_false, decide_true, Bool.false_eq_true, if_false, if_true, Option.bind_some, hw]
end Go.Arm
