/- Plain laws. -/
import Derived.Test.YtdaedcoolcicoaaGreatPrf
namespace Go.Arm
open Go Go.RowKit

theorem wrapU (x : Int) : IntKind.wrap .u64 x = x % 18446744073709551616 := by
  simp [IntKind.wrap, IntKind.bits, IntKind.signed]
theorem shr32 (a : Int) : shrK .u64 a 32 = a / 4294967296 := by
  simp [shrK, IntKind.bits, Int.fdiv_eq_ediv_of_nonneg]
theorem and32 {a : Int} (h : 0 ≤ a) (h2 : a < 18446744073709551616) : andK .u64 a 4294967295 = a % 4294967296 := by
  unfold andK
  rw [wrapU]
  obtain ⟨k, rfl⟩ := Int.eq_ofNat_of_zero_le h
  have hk : k < 2 ^ 64 := by have : (k : Int) < 18446744073709551616 := h2; omega
  have e1 : (BitVec.ofInt (IntKind.bits .u64) (k : Int)).toNat = k := by
    show (BitVec.ofInt 64 (k : Int)).toNat = k
    simp; omega
  have e2 : (BitVec.ofInt (IntKind.bits .u64) (4294967295 : Int)).toNat = 4294967295 := by decide
  rw [BitVec.toNat_and, e1, e2]
  have e3 : k &&& 4294967295 = k % 4294967296 := Nat.and_two_pow_sub_one_eq_mod k 32
  rw [e3]
  omega

theorem mul64_eq (N : Nat) {x y : Int} (hx : 0 ≤ x) (hx2 : x < 9223372036854775808) (hy : 0 ≤ y) (hy2 : y < 9223372036854775808) :
    math_bits_Mul64 N ⟨x⟩ ⟨y⟩ = some (⟨x * y / 18446744073709551616⟩, ⟨x * y % 18446744073709551616⟩) := by
  have hb : x / 4294967296 < 2147483648 := by omega
  have hd : y / 4294967296 < 2147483648 := by omega
  have hb0 : 0 ≤ x / 4294967296 := by omega
  have hd0 : 0 ≤ y / 4294967296 := by omega
  generalize hB : x / 4294967296 = B at *
  generalize hA : x % 4294967296 = A
  generalize hD : y / 4294967296 = D at *
  generalize hC : y % 4294967296 = C
  have hx' : x = B * 4294967296 + A := by omega
  have hy' : y = D * 4294967296 + C := by omega
  have hA0 : 0 ≤ A := by omega
  have hA1 : A ≤ 4294967295 := by omega
  have hC0 : 0 ≤ C := by omega
  have hC1 : C ≤ 4294967295 := by omega
  have m1 : 0 ≤ A * C := Int.mul_nonneg hA0 hC0
  have m2 : A * C ≤ 4294967295 * 4294967295 := Int.mul_le_mul hA1 hC1 hC0 (by decide)
  have m3 : 0 ≤ B * C := Int.mul_nonneg hb0 hC0
  have m4 : B * C ≤ 2147483647 * 4294967295 := Int.mul_le_mul (by omega) hC1 hC0 (by decide)
  have m5 : 0 ≤ A * D := Int.mul_nonneg hA0 hd0
  have m6 : A * D ≤ 4294967295 * 2147483647 := Int.mul_le_mul hA1 (by omega) hd0 (by decide)
  have m7 : 0 ≤ B * D := Int.mul_nonneg hb0 hd0
  have m8 : B * D ≤ 2147483647 * 2147483647 := Int.mul_le_mul (by omega) (by omega) hd0 (by decide)
  have hxy : x * y = B * D * 18446744073709551616 + (B * C + A * D) * 4294967296 + A * C := by
    rw [hx', hy']
    grind
  unfold math_bits_Mul64 chk
  simp only [if_pos (show (0 : Int) ≤ 32 by decide), shr32, and32 hx (by omega), and32 hy (by omega), hB, hA, hD, hC]
  simp only [mulK, addK, wrapU]
  rw [Int.emod_eq_of_lt m1 (by omega), Int.emod_eq_of_lt m3 (by omega), Int.emod_eq_of_lt m5 (by omega), Int.emod_eq_of_lt m7 (by omega)]
  rw [hxy]
  generalize A * C = p at *
  generalize B * C = q at *
  generalize A * D = r at *
  generalize B * D = t at *
  rw [Int.emod_eq_of_lt (a := q + p / 4294967296) (by omega) (by omega)]
  rw [and32 (a := q + p / 4294967296) (by omega) (by omega)]
  rw [Int.emod_eq_of_lt (a := (q + p / 4294967296) % 4294967296 + r) (by omega) (by omega)]
  rw [Int.emod_eq_of_lt (a := t + (q + p / 4294967296) / 4294967296) (by omega) (by omega)]
  rw [Int.emod_eq_of_lt (a := t + (q + p / 4294967296) / 4294967296 + ((q + p / 4294967296) % 4294967296 + r) / 4294967296) (by omega) (by omega)]
  congr 3
  congr 1
  omega

theorem compare_u64 (N : Nat) (x y : Int) : cmp_Compare_uint64 N ⟨x⟩ ⟨y⟩ = some (if x < y then -1 else if y < x then 1 else 0) := by
  unfold cmp_Compare_uint64 cmp_isNaN_uint64
  simp only [Option.bind_some, decide_true, Bool.not_true, Bool.false_eq_true, if_false]
  by_cases h : x < y
  · simp [h]
  · by_cases h2 : y < x <;> simp [h, h2]
theorem cmp_or2 (N : Nat) (x y : Int) : cmp_Or_int (N + 3) [x, y] = some (if x = 0 then y else x) := by
  unfold cmp_Or_int
  by_cases hx : x = 0
  · by_cases hy : y = 0
    · simp [cmp_Or_int_l1, hx, hy, chk, idx, show inR 1 by decide, show inR 2 by decide]
    · simp [cmp_Or_int_l1, hx, hy, chk, idx, show inR 1 by decide, show inR 2 by decide]
  · simp [cmp_Or_int_l1, hx, idx]

theorem convU {a : Int} (h : 0 ≤ a) (h2 : a < 9223372036854775808) : convK .u64 a = a := by
  unfold convK; rw [wrapU]; exact Int.emod_eq_of_lt h (by omega)

/-- Numbers that a loss may have. -/
def Fine (a : Loss) : Prop := 0 ≤ a.Num ∧ a.Num < 9223372036854775808 ∧ 0 < a.Den ∧ a.Den < 9223372036854775808
def lessL (a b : Loss) : Bool := decide (a.Num * b.Den < b.Num * a.Den)

theorem compare_less (N : Nat) {a b : Loss} (ha : Fine a) (hb : Fine b) : ∃ c, check_Loss_compare (N + 3) a b = some c ∧ decide (c < 0) = lessL a b := by
  obtain ⟨a1, a2, a3, a4⟩ := ha
  obtain ⟨b1, b2, b3, b4⟩ := hb
  unfold check_Loss_compare
  rw [convU a1 a2, convU b1 b2, convU (Int.le_of_lt a3) a4, convU (Int.le_of_lt b3) b4, mul64_eq _ a1 a2 (Int.le_of_lt b3) b4, mul64_eq _ b1 b2 (Int.le_of_lt a3) a4]
  simp only [Option.bind_some, compare_u64, cmp_or2]
  refine ⟨_, rfl, ?_⟩
  have p1 : 0 ≤ a.Num * b.Den := Int.mul_nonneg a1 (Int.le_of_lt b3)
  have p2 : 0 ≤ b.Num * a.Den := Int.mul_nonneg b1 (Int.le_of_lt a3)
  unfold lessL
  generalize a.Num * b.Den = u at *
  generalize b.Num * a.Den = v at *
  rw [Bool.eq_iff_iff]
  simp only [decide_eq_true_eq]
  repeat' split
  all_goals omega
end Go.Arm
namespace Go.Arm
open Go Go.RowKit

theorem lessL_quot {an ad bn bd : Int} (had : 0 < ad) (hbd : 0 < bd) :
    decide (an * bd < bn * ad) = if an / ad = bn / bd then decide ((an % ad) * bd < (bn % bd) * ad) else decide (an / ad < bn / bd) := by
  have e1 : an = an / ad * ad + an % ad := by have := Int.mul_ediv_add_emod an ad; rw [Int.mul_comm] at this; omega
  have e2 : bn = bn / bd * bd + bn % bd := by have := Int.mul_ediv_add_emod bn bd; rw [Int.mul_comm] at this; omega
  have r1 : 0 ≤ an % ad := Int.emod_nonneg _ (by omega)
  have r2 : an % ad < ad := Int.emod_lt_of_pos _ had
  have r3 : 0 ≤ bn % bd := Int.emod_nonneg _ (by omega)
  have r4 : bn % bd < bd := Int.emod_lt_of_pos _ hbd
  generalize an / ad = q at *
  generalize bn / bd = p at *
  generalize an % ad = r at *
  generalize bn % bd = t at *
  subst e1 e2
  have x1 : 0 ≤ r * bd := Int.mul_nonneg r1 (by omega)
  have x2 : 0 ≤ t * ad := Int.mul_nonneg r3 (by omega)
  have x3 : r * bd < ad * bd := Int.mul_lt_mul_of_pos_right r2 hbd
  have x4 : t * ad < bd * ad := Int.mul_lt_mul_of_pos_right r4 had
  have x5 : bd * ad = ad * bd := Int.mul_comm _ _
  have y1 : (q * ad + r) * bd = q * (ad * bd) + r * bd := by grind
  have y2 : (p * bd + t) * ad = p * (ad * bd) + t * ad := by grind
  rw [y1, y2]
  have hk : 0 < ad * bd := Int.mul_pos had hbd
  generalize ad * bd = K at *
  generalize r * bd = u at *
  generalize t * ad = v at *
  rw [Bool.eq_iff_iff]
  split
  · rename_i h; subst h; simp
  · rename_i h
    simp only [decide_eq_true_eq]
    rcases Int.lt_or_gt_of_ne h with h1 | h1
    · have : (q + 1) * K ≤ p * K := Int.mul_le_mul_of_nonneg_right (by omega) (by omega)
      rw [Int.add_mul] at this
      constructor <;> intro _ <;> omega
    · have : (p + 1) * K ≤ q * K := Int.mul_le_mul_of_nonneg_right (by omega) (by omega)
      rw [Int.add_mul] at this
      constructor <;> intro _ <;> omega

theorem less_eq : ∀ (N : Nat) (a b : Loss), Fine a → Fine b → (a.Den + b.Den).toNat < N → ref14_Less N a b = some (lessL a b)
  | 0, _, _, _, _, h => absurd h (Nat.not_lt_zero _)
  | N + 1, a, b, ha, hb, h => by
    have ⟨a1, a2, a3, a4⟩ := ha
    have ⟨b1, b2, b3, b4⟩ := hb
    have ta : Int.tdiv a.Num a.Den = a.Num / a.Den := Int.tdiv_eq_ediv_of_nonneg a1
    have tb : Int.tdiv b.Num b.Den = b.Num / b.Den := Int.tdiv_eq_ediv_of_nonneg b1
    have ma : Int.tmod a.Num a.Den = a.Num % a.Den := Int.tmod_eq_emod_of_nonneg a1
    have mb : Int.tmod b.Num b.Den = b.Num % b.Den := Int.tmod_eq_emod_of_nonneg b1
    have qa : 0 ≤ a.Num / a.Den := Int.ediv_nonneg a1 (by omega)
    have qa2 : a.Num / a.Den ≤ a.Num := Int.ediv_le_self _ a1
    have qb : 0 ≤ b.Num / b.Den := Int.ediv_nonneg b1 (by omega)
    have qb2 : b.Num / b.Den ≤ b.Num := Int.ediv_le_self _ b1
    have r1 : 0 ≤ a.Num % a.Den := Int.emod_nonneg _ (by omega)
    have r2 : a.Num % a.Den < a.Den := Int.emod_lt_of_pos _ a3
    have r3 : 0 ≤ b.Num % b.Den := Int.emod_nonneg _ (by omega)
    have r4 : b.Num % b.Den < b.Den := Int.emod_lt_of_pos _ b3
    have c1 : a.Den ≠ 0 ∧ inR (a.Num / a.Den) := ⟨by omega, by unfold inR; omega⟩
    have c2 : b.Den ≠ 0 ∧ inR (b.Num / b.Den) := ⟨by omega, by unfold inR; omega⟩
    have hq := lessL_quot (an := a.Num) (bn := b.Num) a3 b3
    unfold lessL
    rw [hq, ref14_Less.eq_2, ta, tb, ma, mb]
    unfold chk
    rw [if_pos c1, if_pos c2, if_pos c1.1, if_pos c2.1]
    by_cases h1 : a.Num / a.Den = b.Num / b.Den
    · simp only [h1, decide_true, Bool.not_true, Bool.false_eq_true, if_false, if_true]
      by_cases h2 : a.Num % a.Den = 0
      · have : decide (a.Num % a.Den * b.Den < b.Num % b.Den * a.Den) = !decide (b.Num % b.Den = 0) := by
          rw [h2, Bool.eq_iff_iff]
          simp only [Int.zero_mul, decide_eq_true_eq, Bool.not_eq_true', decide_eq_false_iff_not]
          constructor
          · intro h3 h4; rw [h4] at h3; simp at h3
          · intro h3; exact Int.mul_pos (by omega) a3
        rw [this]; simp [h2]
      · by_cases h3 : b.Num % b.Den = 0
        · have : decide (a.Num % a.Den * b.Den < b.Num % b.Den * a.Den) = false := by
            rw [h3]
            have : 0 ≤ a.Num % a.Den * b.Den := Int.mul_nonneg r1 (by omega)
            simp; omega
          rw [this]; simp [h2, h3]
        · have := less_eq N ⟨b.Den, b.Num % b.Den⟩ ⟨a.Den, a.Num % a.Den⟩ ⟨by show 0 ≤ b.Den; omega, b4, by show 0 < b.Num % b.Den; omega, by show b.Num % b.Den < _; omega⟩ ⟨by show 0 ≤ a.Den; omega, a4, by show 0 < a.Num % a.Den; omega, by show a.Num % a.Den < _; omega⟩ (by show (b.Num % b.Den + a.Num % a.Den).toNat < N; omega)
          simp only [h2, h3, decide_false, Bool.false_eq_true, if_false, Option.bind_some, this]
          unfold lessL
          simp only [Option.some.injEq]
          rw [Int.mul_comm b.Den, Int.mul_comm a.Den]
    · simp [h1]
end Go.Arm
namespace Go.Arm
open Go Go.RowKit

theorem gcd_step (a b : Int) (ha : 0 ≤ a) (hb : 0 < b) : Int.gcd b (Int.tmod a b) = Int.gcd a b := by
  rw [Int.tmod_eq_emod_of_nonneg ha]
  obtain ⟨x, rfl⟩ := Int.eq_ofNat_of_zero_le ha
  obtain ⟨y, rfl⟩ := Int.eq_ofNat_of_zero_le (Int.le_of_lt hb)
  rw [← Int.natCast_emod]
  show Nat.gcd y (x % y) = Nat.gcd x y
  rw [Nat.gcd_comm x y, Nat.gcd_comm y (x % y)]
  exact (Nat.gcd_rec y x).symm
theorem divisor_eq : ∀ (N : Nat) (a b : Int), 0 ≤ a → 0 ≤ b → b.toNat < N → check_divisor N a b = some (Int.gcd a b : Int)
  | 0, _, _, _, _, h => absurd h (Nat.not_lt_zero _)
  | N + 1, a, b, ha, hb, h => by
    rw [check_divisor.eq_2]
    by_cases h0 : b = 0
    · subst h0
      simp
      omega
    · have hpos : 0 < b := by omega
      have hm0 : 0 ≤ Int.tmod a b := by rw [Int.tmod_eq_emod_of_nonneg ha]; exact Int.emod_nonneg _ h0
      have hm1 : Int.tmod a b < b := by rw [Int.tmod_eq_emod_of_nonneg ha]; exact Int.emod_lt_of_pos _ hpos
      simp only [h0, decide_false, Bool.false_eq_true, if_false, chk, ne_eq, not_false_eq_true, if_true]
      rw [divisor_eq N b (Int.tmod a b) hb hm0 (by omega), gcd_step a b ha hpos]
      rfl
theorem common_l (N : Nat) : ∀ (m : Nat) (a b : Int), 0 ≤ a → 0 ≤ b → b.toNat < m → ref14_common_l1 N m a b = some (Int.gcd a b : Int)
  | 0, _, _, _, _, h => absurd h (Nat.not_lt_zero _)
  | m + 1, a, b, ha, hb, h => by
    rw [ref14_common_l1.eq_2]
    by_cases h0 : b = 0
    · subst h0
      simp
      omega
    · have hpos : 0 < b := by omega
      have hm0 : 0 ≤ Int.tmod a b := by rw [Int.tmod_eq_emod_of_nonneg ha]; exact Int.emod_nonneg _ h0
      have hm1 : Int.tmod a b < b := by rw [Int.tmod_eq_emod_of_nonneg ha]; exact Int.emod_lt_of_pos _ hpos
      simp only [h0, decide_false, Bool.not_false, chk, ne_eq, not_false_eq_true, if_true]
      rw [common_l N m b (Int.tmod a b) hb hm0 (by omega), gcd_step a b ha hpos]
theorem common_eq (N : Nat) (a b : Int) (ha : 0 ≤ a) (hb : 0 ≤ b) (h : b.toNat < N) : ref14_common N a b = some (Int.gcd a b : Int) := by
  unfold ref14_common
  rw [common_l N N a b ha hb h]; rfl

theorem idx_at {α : Type} {xs : List α} {i : Int} {y : α} (h0 : 0 ≤ i) (h : xs[i.toNat]? = some y) : idx xs i = some y := by
  unfold idx; rw [if_pos h0, h]

/-- One level's part of a loss. -/
def term (T w c m : Int) : Int := Int.tdiv T w * c + Int.tdiv T (2 * m) * w
structure TermOk (T w c m : Int) : Prop where
  w0 : 0 < w
  w1 : w ≤ 262144
  c0 : 1 ≤ c
  c1 : c ≤ 1024
  m0 : 1 ≤ m
  m1 : m ≤ 1024
  t0 : 0 ≤ T
  t1 : T ≤ 562949953421312
  t2 : T ≤ 2 * m * 274877906944

theorem TermOk.all {T w c m : Int} (h : TermOk T w c m) : (w ≠ 0 ∧ inR (Int.tdiv T w)) ∧ inR (Int.tdiv T w * c) ∧ inR (2 * m) ∧ (2 * m ≠ 0 ∧ inR (Int.tdiv T (2 * m))) ∧ inR (Int.tdiv T (2 * m) * w) ∧
    inR (Int.tdiv T w * c + Int.tdiv T (2 * m) * w) ∧ 0 ≤ term T w c m ∧ term T w c m ≤ 700000000000000000 := by
  obtain ⟨w0, w1, c0, c1, m0, m1, t0, t1, t2⟩ := h
  unfold term inR
  rw [Int.tdiv_eq_ediv_of_nonneg t0, Int.tdiv_eq_ediv_of_nonneg t0]
  have a0 : 0 ≤ T / w := Int.ediv_nonneg t0 (by omega)
  have a1 : T / w ≤ T := Int.ediv_le_self _ t0
  have b0 : 0 ≤ T / (2 * m) := Int.ediv_nonneg t0 (by omega)
  have b1 : T / (2 * m) ≤ 274877906944 := Int.ediv_le_of_le_mul (by omega) (by rw [Int.mul_comm]; exact t2)
  generalize T / w = A at *
  generalize T / (2 * m) = B at *
  have p0 : 0 ≤ A * c := Int.mul_nonneg a0 (by omega)
  have p1 : A * c ≤ 562949953421312 * 1024 := Int.mul_le_mul (by omega) c1 (by omega) (by decide)
  have q0 : 0 ≤ B * w := Int.mul_nonneg b0 (by omega)
  have q1 : B * w ≤ 274877906944 * 262144 := Int.mul_le_mul b1 w1 (by omega) (by decide)
  generalize A * c = X at *
  generalize B * w = Y at *
  refine ⟨⟨by omega, by omega⟩, by omega, by omega, ⟨by omega, by omega⟩, by omega, by omega, by omega, by omega⟩

theorem lose_l3_step {N : Nat} {ls : List Level} {wv : List Int} {den last acc i : Int} {k : Nat} {l : Level} {w : Int} (hi : i < ls.length) (hin : inR (i + 1)) (hl : idx ls i = some l) (hw : idx wv i = some w)
    (ht : TermOk (den * last) w l.Cost l.Mean) (h0 : 0 ≤ acc) (h1 : acc ≤ 1400000000000000000) :
    check_lose_l3 N ls wv den last (k + 1) acc i = check_lose_l3 N ls wv den last k (acc + term (den * last) w l.Cost l.Mean) (i + 1) := by
  obtain ⟨e1, e2, e3, e4, e5, e6, e7, e8⟩ := ht.all
  have e9 : inR (acc + term (den * last) w l.Cost l.Mean) := by unfold inR; omega
  rw [check_lose_l3.eq_2]
  simp only [hi, decide_true, if_true, hl, hw, Option.bind_some, chk]
  rw [if_pos e1, if_pos e2, if_pos e3, if_pos e4, if_pos e5, if_pos e6, if_pos (show inR (acc + (Int.tdiv (den * last) w * l.Cost + Int.tdiv (den * last) (2 * l.Mean) * w)) from e9), if_pos hin]
  rfl
theorem loss_l2_step {N : Nat} {ls : List Level} {wv : List Int} {den last acc i : Int} {k : Nat} {l : Level} {w : Int} (hi : i < ls.length) (hin : inR (i + 1)) (hl : idx ls i = some l) (hw : idx wv i = some w)
    (ht : TermOk (den * last) w l.Cost l.Mean) (h0 : 0 ≤ acc) (h1 : acc ≤ 1400000000000000000) :
    ref14_loss_l2 N ls wv den last (k + 1) acc i = ref14_loss_l2 N ls wv den last k (acc + term (den * last) w l.Cost l.Mean) (i + 1) := by
  obtain ⟨e1, e2, e3, e4, e5, e6, e7, e8⟩ := ht.all
  have e9 : inR (acc + term (den * last) w l.Cost l.Mean) := by unfold inR; omega
  rw [ref14_loss_l2.eq_2]
  simp only [hi, decide_true, if_true, hl, hw, Option.bind_some, chk]
  rw [if_pos e1, if_pos e2, if_pos e3, if_pos e4, if_pos e5, if_pos e6, if_pos (show inR (acc + (Int.tdiv (den * last) w * l.Cost + Int.tdiv (den * last) (2 * l.Mean) * w)) from e9), if_pos hin]
  rfl
theorem lose_l3_end {N : Nat} {ls : List Level} {wv : List Int} {den last acc i : Int} {k : Nat} (hi : ¬ i < ls.length) : check_lose_l3 N ls wv den last (k + 1) acc i = some acc := by
  rw [check_lose_l3.eq_2]; simp [hi]
theorem loss_l2_end {N : Nat} {ls : List Level} {wv : List Int} {den last acc i : Int} {k : Nat} (hi : ¬ i < ls.length) : ref14_loss_l2 N ls wv den last (k + 1) acc i = some acc := by
  rw [ref14_loss_l2.eq_2]; simp [hi]
end Go.Arm
namespace Go.Arm
open Go Go.RowKit

def LevOk (l : Level) : Prop := 1 ≤ l.Cost ∧ l.Cost ≤ 1024 ∧ 1 ≤ l.Mean ∧ l.Mean ≤ 1024
theorem mul_bd {a b A B : Int} (h0 : 0 ≤ a) (h1 : a ≤ A) (h2 : 0 ≤ b) (h3 : b ≤ B) : 0 ≤ a * b ∧ a * b ≤ A * B :=
  ⟨Int.mul_nonneg h0 h2, Int.mul_le_mul h1 h3 h2 (by omega)⟩

/-- The least common multiple so far. -/
def dstep (d m : Int) : Int := Int.tdiv d (Int.gcd d (2 * m) : Int) * (2 * m)
def DenOk (d K : Int) : Prop := 0 < d ∧ (2 : Int) ∣ d ∧ d ≤ 2 * K
theorem dstep_ok {d m K : Int} (h : DenOk d K) (h1 : 1 ≤ m) : DenOk (dstep d m) (K * m) ∧ (2 : Int) ≤ (Int.gcd d (2 * m) : Int) ∧ 0 < Int.tdiv d (Int.gcd d (2 * m) : Int) ∧ Int.tdiv d (Int.gcd d (2 * m) : Int) ≤ K := by
  obtain ⟨d0, d1, d2⟩ := h
  have g2 : (2 : Int) ∣ (Int.gcd d (2 * m) : Int) := Int.dvd_coe_gcd d1 (Int.dvd_mul_right _ _)
  have g0 : 0 < Int.gcd d (2 * m) := Int.gcd_pos_of_ne_zero_left _ (by omega)
  have g3 : (Int.gcd d (2 * m) : Int) ∣ d := Int.gcd_dvd_left ..
  unfold dstep
  generalize hg : (Int.gcd d (2 * m) : Int) = g at *
  have gp : 0 < g := by omega
  have ge : 2 ≤ g := Int.le_of_dvd gp g2
  rw [Int.tdiv_eq_ediv_of_nonneg (by omega)]
  obtain ⟨q, rfl⟩ := g3
  rw [Int.mul_ediv_cancel_left _ (by omega)]
  have q0 : 0 < q := Int.pos_of_mul_pos_right d0 gp
  have q1 : 2 * q ≤ g * q := Int.mul_le_mul_of_nonneg_right ge (by omega)
  have q2 : q ≤ K := by omega
  refine ⟨⟨Int.mul_pos q0 (by omega), ⟨q * m, by grind⟩, ?_⟩, ge, q0, q2⟩
  have : q * m ≤ K * m := Int.mul_le_mul_of_nonneg_right q2 (by omega)
  have e : q * (2 * m) = 2 * (q * m) := by grind
  omega

theorem lose_l2_step {N : Nat} {ls : List Level} {d i K : Int} {k : Nat} {l : Level} (hi : i < ls.length) (hin : inR (i + 1)) (hl : idx ls i = some l) (hL : LevOk l) (hd : DenOk d K) (hK : K ≤ 1073741824) (hN : 2048 < N) :
    check_lose_l2 N ls (k + 1) d i = check_lose_l2 N ls k (dstep d l.Mean) (i + 1) := by
  obtain ⟨_, _, m0, m1⟩ := hL
  obtain ⟨_, g2, q0, q1⟩ := dstep_ok hd m0
  have hd0 := hd.1
  rw [check_lose_l2.eq_2]
  simp only [hi, decide_true, if_true, hl, Option.bind_some, chk]
  rw [if_pos (show inR (2 * l.Mean) by unfold inR; omega), divisor_eq N d (2 * l.Mean) (by omega) (by omega) (by omega)]
  simp only [Option.bind_some]
  unfold dstep
  generalize (Int.gcd d (2 * l.Mean) : Int) = g at *
  generalize Int.tdiv d g = q at *
  have b1 := mul_bd (show 0 ≤ q by omega) (show q ≤ 1073741824 by omega) (show 0 ≤ l.Mean by omega) m1
  have e : q * 2 * l.Mean = q * (2 * l.Mean) := by grind
  have e2 : q * 2 * l.Mean = 2 * (q * l.Mean) := by grind
  rw [if_pos (show g ≠ 0 ∧ inR q from ⟨by omega, by unfold inR; omega⟩), if_pos (show inR (q * 2) by unfold inR; omega), if_pos (show inR (q * 2 * l.Mean) by unfold inR; omega), if_pos hin, e]
/-- The first step: from one. -/
theorem lose_l2_first {N : Nat} {ls : List Level} {k : Nat} {l : Level} (hi : (0 : Int) < ls.length) (hl : idx ls 0 = some l) (hL : LevOk l) (hN : 2048 < N) :
    check_lose_l2 N ls (k + 1) 1 0 = check_lose_l2 N ls k (2 * l.Mean) 1 := by
  obtain ⟨_, _, m0, m1⟩ := hL
  rw [check_lose_l2.eq_2]
  simp only [hi, decide_true, if_true, hl, Option.bind_some, chk]
  rw [if_pos (show inR (2 * l.Mean) by unfold inR; omega), divisor_eq N 1 (2 * l.Mean) (by omega) (by omega) (by omega)]
  simp only [Option.bind_some]
  have g1 : (Int.gcd 1 (2 * l.Mean) : Int) = 1 := by simp
  rw [g1]
  have t1 : Int.tdiv 1 1 = 1 := by decide
  rw [t1, if_pos (show (1 : Int) ≠ 0 ∧ inR 1 by decide), if_pos (show inR (1 * 2) by decide), if_pos (show inR (1 * 2 * l.Mean) by unfold inR; omega), if_pos (show inR (0 + 1) by decide)]
  congr 1
theorem lose_l2_end {N : Nat} {ls : List Level} {d i : Int} {k : Nat} (hi : ¬ i < ls.length) : check_lose_l2 N ls (k + 1) d i = some d := by
  rw [check_lose_l2.eq_2]; simp [hi]

theorem lose_l1_step {N : Nat} {ds : List Int} {wv : List Int} {i w d : Int} {k : Nat} (hi : i < ds.length) (hin : inR (i + 1)) (hd : idx ds i = some d) (hw : idx wv ((wv.length : Int) - 1) = some w) (hl : wv.length ≤ 10) (hr : inR (w * d)) :
    check_lose_l1 N ds (k + 1) wv i = check_lose_l1 N ds k (wv ++ [w * d]) (i + 1) := by
  rw [check_lose_l1.eq_2]
  simp only [hi, decide_true, if_true, hd, hw, Option.bind_some, chk]
  rw [if_pos (show inR ((wv.length : Int) - 1) by unfold inR; omega)]
  rw [if_pos hr, if_pos ⟨by simp; omega, by simp [maxLen]; omega⟩, if_pos hin]
theorem lose_l1_end {N : Nat} {ds : List Int} {wv : List Int} {i : Int} {k : Nat} (hi : ¬ i < ds.length) : check_lose_l1 N ds (k + 1) wv i = some wv := by
  rw [check_lose_l1.eq_2]; simp [hi]

theorem loss_l1_first {N : Nat} {ls : List Level} {ds : List Int} {wv : List Int} {k : Nat} {l : Level} (hi : (0 : Int) < ls.length) (hl : idx ls 0 = some l) (hL : LevOk l) (hN : 2048 < N) :
    ref14_loss_l1 N ls ds (k + 1) wv 2 0 = ref14_loss_l1 N ls ds k wv (2 * l.Mean) 1 := by
  obtain ⟨_, _, m0, m1⟩ := hL
  rw [ref14_loss_l1.eq_2]
  simp only [hi, decide_true, if_true, hl, Option.bind_some, chk, Int.lt_irrefl, decide_false, Bool.false_eq_true, if_false]
  rw [if_pos (show inR (2 * l.Mean) by unfold inR; omega), common_eq N 2 (2 * l.Mean) (by omega) (by omega) (by omega)]
  simp only [Option.bind_some]
  have g1 : (Int.gcd 2 (2 * l.Mean) : Int) = 2 := by
    have : Int.gcd 2 (2 * l.Mean) = 2 := by
      rw [show (2 : Int) = 2 * 1 from rfl, Int.mul_assoc, Int.gcd_mul_left]; simp
    omega
  rw [g1]
  have t1 : Int.tdiv 2 2 = 1 := by decide
  rw [t1, if_pos (show (2 : Int) ≠ 0 ∧ inR 1 by decide)]
  rw [if_pos (show inR (2 * l.Mean) by unfold inR; omega), if_pos (show inR (1 * (2 * l.Mean)) by unfold inR; omega), if_pos (show inR (0 + 1) by decide)]
  congr 1
  omega
theorem loss_l1_step {N : Nat} {ls : List Level} {ds : List Int} {wv : List Int} {i w d K D : Int} {k : Nat} {l : Level} (h0 : 0 < i) (hi : i < ls.length) (hin : inR (i + 1)) (hin1 : inR (i - 1)) (hd : idx ds (i - 1) = some d) (hw : idx wv (i - 1) = some w) (hlen : wv.length ≤ 10) (hr : inR (w * d))
    (hl : idx ls i = some l) (hL : LevOk l) (hD : DenOk D K) (hK : K ≤ 1073741824) (hN : 2048 < N) :
    ref14_loss_l1 N ls ds (k + 1) wv D i = ref14_loss_l1 N ls ds k (wv ++ [w * d]) (dstep D l.Mean) (i + 1) := by
  obtain ⟨_, _, m0, m1⟩ := hL
  obtain ⟨_, g2, q0, q1⟩ := dstep_ok hD m0
  have hd0 := hD.1
  rw [ref14_loss_l1.eq_2]
  simp only [hi, h0, decide_true, if_true, hl, hd, hw, Option.bind_some, chk]
  rw [if_pos hin1]
  rw [if_pos hin1]
  rw [if_pos hr, if_pos ⟨by simp; omega, by simp [maxLen]; omega⟩]
  rw [if_pos (show inR (2 * l.Mean) by unfold inR; omega), common_eq N D (2 * l.Mean) (by omega) (by omega) (by omega)]
  simp only [Option.bind_some]
  unfold dstep
  generalize (Int.gcd D (2 * l.Mean) : Int) = g at *
  generalize Int.tdiv D g = q at *
  have b1 := mul_bd (show 0 ≤ q by omega) (show q ≤ 1073741824 by omega) (show 0 ≤ l.Mean by omega) m1
  have e2 : q * (2 * l.Mean) = 2 * (q * l.Mean) := by grind
  rw [if_pos (show g ≠ 0 ∧ inR q from ⟨by omega, by unfold inR; omega⟩)]
  rw [if_pos (show inR (2 * l.Mean) by unfold inR; omega), if_pos (show inR (q * (2 * l.Mean)) by unfold inR; omega), if_pos hin]
theorem loss_l1_end {N : Nat} {ls : List Level} {ds : List Int} {wv : List Int} {D i : Int} {k : Nat} (hi : ¬ i < ls.length) : ref14_loss_l1 N ls ds (k + 1) wv D i = some (wv, D) := by
  rw [ref14_loss_l1.eq_2]; simp [hi]
end Go.Arm
namespace Go.Arm
open Go Go.RowKit

def lowest (num T : Int) : Loss := ⟨Int.tdiv num (Int.gcd num T : Int), Int.tdiv T (Int.gcd num T : Int)⟩
theorem lowest_parts {num T : Int} (h0 : 0 ≤ num) (h1 : num ≤ 2100000000000000000) (t0 : 0 < T) (t1 : T ≤ 562949953421312) :
    Fine (lowest num T) ∧ ((Int.gcd num T : Int) ≠ 0 ∧ inR (Int.tdiv num (Int.gcd num T : Int))) ∧ ((Int.gcd num T : Int) ≠ 0 ∧ inR (Int.tdiv T (Int.gcd num T : Int))) := by
  have g0 : 0 < Int.gcd num T := Int.gcd_pos_of_ne_zero_right _ (by omega)
  have g3 : (Int.gcd num T : Int) ∣ T := Int.gcd_dvd_right ..
  unfold lowest Fine inR
  simp only
  generalize hg : (Int.gcd num T : Int) = g at *
  have gp : 0 < g := by omega
  rw [Int.tdiv_eq_ediv_of_nonneg h0, Int.tdiv_eq_ediv_of_nonneg (Int.le_of_lt t0)]
  have a0 : 0 ≤ num / g := Int.ediv_nonneg h0 (by omega)
  have a1 : num / g ≤ num := Int.ediv_le_self _ h0
  have b1 : T / g ≤ T := Int.ediv_le_self _ (by omega)
  have b0 : 0 < T / g := by
    obtain ⟨q, rfl⟩ := g3
    rw [Int.mul_ediv_cancel_left _ (by omega)]
    exact Int.pos_of_mul_pos_right t0 gp
  refine ⟨⟨by omega, by omega, by omega, by omega⟩, ⟨by omega, by omega⟩, ⟨by omega, by omega⟩⟩

theorem lose_of {N : Nat} {ls : List Level} {P : Int} {ds wv : List Int} {D last num : Int} (l1 : check_lose_l1 N ds N [P] 0 = some wv) (l2 : check_lose_l2 N ls N 1 0 = some D) (hlen : wv.length ≤ 10) (hlast : idx wv ((wv.length : Int) - 1) = some last)
    (l3 : check_lose_l3 N ls wv D last N 0 0 = some num) (h0 : 0 ≤ num) (h1 : num ≤ 2100000000000000000) (t0 : 0 < D * last) (t1 : D * last ≤ 562949953421312) (hN : 562949953421312 < N) : check_lose N ls P ds = some (lowest num (D * last)) := by
  obtain ⟨_, f1, f2⟩ := lowest_parts h0 h1 t0 t1
  unfold check_lose
  rw [l1]
  simp only [Option.bind_some]
  rw [l2]
  simp only [Option.bind_some, chk]
  rw [if_pos (show inR ((wv.length : Int) - 1) by unfold inR; omega), hlast]
  simp only [Option.bind_some]
  rw [if_pos (show inR (D * last) by unfold inR; omega), l3]
  simp only [Option.bind_some]
  rw [divisor_eq N num (D * last) h0 (by omega) (by omega)]
  simp only [Option.bind_some]
  rw [if_pos f1, if_pos f2]; rfl
theorem loss_of {N : Nat} {ls : List Level} {P : Int} {ds wv : List Int} {D last num : Int} (l1 : ref14_loss_l1 N ls ds N [P] 2 0 = some (wv, D)) (hlen : ls.length ≤ 10) (hlast : idx wv ((ls.length : Int) - 1) = some last)
    (l3 : ref14_loss_l2 N ls wv D last N 0 0 = some num) (h0 : 0 ≤ num) (h1 : num ≤ 2100000000000000000) (t0 : 0 < D * last) (t1 : D * last ≤ 562949953421312) (hN : 562949953421312 < N) : ref14_loss N ls P ds = some (lowest num (D * last)) := by
  obtain ⟨_, f1, f2⟩ := lowest_parts h0 h1 t0 t1
  unfold ref14_loss
  rw [l1]
  simp only [Option.bind_some, chk]
  rw [if_pos (show inR ((ls.length : Int) - 1) by unfold inR; omega), hlast]
  simp only [Option.bind_some]
  rw [if_pos (show inR (D * last) by unfold inR; omega), l3]
  simp only [Option.bind_some]
  rw [common_eq N num (D * last) h0 (by omega) (by omega)]
  simp only [Option.bind_some]
  rw [if_pos f1, if_pos f2]; rfl

theorem t2_of {D last m o K : Int} (hD : D ≤ 2 * K) (hK : K = m * o) (h0 : 0 ≤ last) (hm : 0 ≤ m) (ho : o * last ≤ 274877906944) : D * last ≤ 2 * m * 274877906944 := by
  have h1 : D * last ≤ 2 * K * last := Int.mul_le_mul_of_nonneg_right hD h0
  have h2 : 2 * K * last = 2 * m * (o * last) := by rw [hK]; grind
  have h3 : 2 * m * (o * last) ≤ 2 * m * 274877906944 := Int.mul_le_mul_of_nonneg_left ho (by omega)
  omega

/-- They agree. -/
def Same (ls : List Level) (P : Int) (ds : List Int) : Prop := ∃ R, Fine R ∧ ∀ N : Nat, 562949953421312 < N → check_lose N ls P ds = some R ∧ ref14_loss N ls P ds = some R

theorem shape1 {x : Level} {P : Int} (hx : LevOk x) (hP : 1 ≤ P ∧ P ≤ 4096) : Same [x] P [] := by
  have ⟨xc0, xc1, xm0, xm1⟩ := hx
  have hT : 0 < 2 * x.Mean * P := Int.mul_pos (by omega) (by omega)
  have b1 := mul_bd (show 0 ≤ 2 * x.Mean by omega) (show 2 * x.Mean ≤ 2048 by omega) (show 0 ≤ P by omega) hP.2
  have D1 : DenOk (2 * x.Mean) x.Mean := ⟨by omega, Int.dvd_mul_right _ _, by omega⟩
  have T1 : TermOk (2 * x.Mean * P) P x.Cost x.Mean := ⟨by omega, by omega, xc0, xc1, xm0, xm1, by omega, by omega, t2_of D1.2.2 (Int.mul_one _).symm (by omega) (by omega) (by omega)⟩
  obtain ⟨_, _, _, _, _, _, n0, n1⟩ := T1.all
  refine ⟨lowest (0 + term (2 * x.Mean * P) P x.Cost x.Mean) (2 * x.Mean * P), (lowest_parts (by omega) (by omega) hT (by omega)).1, fun N hN => ?_⟩
  obtain ⟨k, rfl⟩ : ∃ k, N = k + 2 := ⟨N - 2, by omega⟩
  refine ⟨lose_of (wv := [P]) (D := 2 * x.Mean) (last := P) (lose_l1_end (by simp)) ?_ (by simp) rfl ?_ (by omega) (by omega) hT (by omega) hN, loss_of (wv := [P]) (D := 2 * x.Mean) (last := P) ?_ (by simp) rfl ?_ (by omega) (by omega) hT (by omega) hN⟩
  · rw [lose_l2_first (by simp) rfl hx (by omega), lose_l2_end (by simp)]
  · rw [lose_l3_step (l := x) (w := P) (by simp) (by decide) rfl rfl T1 (by omega) (by omega), lose_l3_end (by simp)]
  · rw [loss_l1_first (by simp) rfl hx (by omega), loss_l1_end (by simp)]
  · rw [loss_l2_step (l := x) (w := P) (by simp) (by decide) rfl rfl T1 (by omega) (by omega), loss_l2_end (by simp)]

theorem shape2 {x y : Level} {P d : Int} (hx : LevOk x) (hy : LevOk y) (hP : 1 ≤ P ∧ P ≤ 4096) (hd : 1 ≤ d ∧ d ≤ 8) : Same [x, y] P [d] := by
  have ⟨xc0, xc1, xm0, xm1⟩ := hx
  have ⟨yc0, yc1, ym0, ym1⟩ := hy
  have D1 : DenOk (2 * x.Mean) x.Mean := ⟨by omega, Int.dvd_mul_right _ _, by omega⟩
  have D2 := (dstep_ok D1 ym0).1
  have w1 := mul_bd (show 0 ≤ P by omega) hP.2 (show 0 ≤ d by omega) hd.2
  have w1p : 0 < P * d := Int.mul_pos (by omega) (by omega)
  have k2 := mul_bd (show 0 ≤ x.Mean by omega) xm1 (show 0 ≤ y.Mean by omega) ym1
  have hT : 0 < dstep (2 * x.Mean) y.Mean * (P * d) := Int.mul_pos D2.1 w1p
  have b1 := mul_bd (Int.le_of_lt D2.1) (show dstep (2 * x.Mean) y.Mean ≤ 2 * 1048576 by have := D2.2.2; omega) w1.1 (show P * d ≤ 32768 by omega)
  have o1 := mul_bd (show 0 ≤ y.Mean by omega) ym1 w1.1 (show P * d ≤ 32768 by omega)
  have o2 := mul_bd (show 0 ≤ x.Mean by omega) xm1 w1.1 (show P * d ≤ 32768 by omega)
  have T1 : TermOk (dstep (2 * x.Mean) y.Mean * (P * d)) P x.Cost x.Mean := ⟨by omega, by omega, xc0, xc1, xm0, xm1, by omega, by omega, t2_of D2.2.2 rfl w1.1 (by omega) (by omega)⟩
  have T2 : TermOk (dstep (2 * x.Mean) y.Mean * (P * d)) (P * d) y.Cost y.Mean := ⟨by omega, by omega, yc0, yc1, ym0, ym1, by omega, by omega, t2_of D2.2.2 (Int.mul_comm _ _) w1.1 (by omega) (by omega)⟩
  obtain ⟨_, _, _, _, _, _, n0, n1⟩ := T1.all
  obtain ⟨_, _, _, _, _, _, n2, n3⟩ := T2.all
  generalize hD : dstep (2 * x.Mean) y.Mean = D at *
  refine ⟨lowest (0 + term (D * (P * d)) P x.Cost x.Mean + term (D * (P * d)) (P * d) y.Cost y.Mean) (D * (P * d)), (lowest_parts (by omega) (by omega) hT (by omega)).1, fun N hN => ?_⟩
  obtain ⟨k, rfl⟩ : ∃ k, N = k + 3 := ⟨N - 3, by omega⟩
  refine ⟨lose_of (wv := [P, P * d]) (D := D) (last := P * d) ?_ ?_ (by simp) rfl ?_ (by omega) (by omega) hT (by omega) hN, loss_of (wv := [P, P * d]) (D := D) (last := P * d) ?_ (by simp) rfl ?_ (by omega) (by omega) hT (by omega) hN⟩
  · rw [lose_l1_step (d := d) (w := P) (by simp) (by decide) rfl rfl (by simp) (by unfold inR; omega), lose_l1_end (by simp)]; rfl
  · rw [lose_l2_first (by simp) rfl hx (by omega), lose_l2_step (l := y) (by simp) (by decide) rfl hy D1 (by omega) (by omega), lose_l2_end (by simp), hD]
  · rw [lose_l3_step (l := x) (w := P) (by simp) (by decide) rfl rfl T1 (by omega) (by omega), lose_l3_step (l := y) (w := P * d) (by simp) (by decide) rfl rfl T2 (by omega) (by omega), lose_l3_end (by simp)]
  · rw [loss_l1_first (by simp) rfl hx (by omega), loss_l1_step (l := y) (d := d) (w := P) (by decide) (by simp) (by decide) (by decide) rfl rfl (by simp) (by unfold inR; omega) rfl hy D1 (by omega) (by omega), loss_l1_end (by simp), hD]; rfl
  · rw [loss_l2_step (l := x) (w := P) (by simp) (by decide) rfl rfl T1 (by omega) (by omega), loss_l2_step (l := y) (w := P * d) (by simp) (by decide) rfl rfl T2 (by omega) (by omega), loss_l2_end (by simp)]
end Go.Arm
namespace Go.Arm
open Go Go.RowKit

theorem shape3 {x y z : Level} {P d e : Int} (hx : LevOk x) (hy : LevOk y) (hz : LevOk z) (hP : 1 ≤ P ∧ P ≤ 4096) (hd : 1 ≤ d ∧ d ≤ 8) (he : 1 ≤ e ∧ e ≤ 8) : Same [x, y, z] P [d, e] := by
  have ⟨xc0, xc1, xm0, xm1⟩ := hx
  have ⟨yc0, yc1, ym0, ym1⟩ := hy
  have ⟨zc0, zc1, zm0, zm1⟩ := hz
  have D1 : DenOk (2 * x.Mean) x.Mean := ⟨by omega, Int.dvd_mul_right _ _, by omega⟩
  have D2 := (dstep_ok D1 ym0).1
  have D3 := (dstep_ok D2 zm0).1
  have w1 := mul_bd (show 0 ≤ P by omega) hP.2 (show 0 ≤ d by omega) hd.2
  have w1p : 0 < P * d := Int.mul_pos (by omega) (by omega)
  have w2 := mul_bd w1.1 (show P * d ≤ 32768 by omega) (show 0 ≤ e by omega) he.2
  have w2p : 0 < P * d * e := Int.mul_pos w1p (by omega)
  have k2 := mul_bd (show 0 ≤ x.Mean by omega) xm1 (show 0 ≤ y.Mean by omega) ym1
  have k3 := mul_bd k2.1 (show x.Mean * y.Mean ≤ 1048576 by omega) (show 0 ≤ z.Mean by omega) zm1
  have kyz := mul_bd (show 0 ≤ y.Mean by omega) ym1 (show 0 ≤ z.Mean by omega) zm1
  have kxz := mul_bd (show 0 ≤ x.Mean by omega) xm1 (show 0 ≤ z.Mean by omega) zm1
  have hT : 0 < dstep (dstep (2 * x.Mean) y.Mean) z.Mean * (P * d * e) := Int.mul_pos D3.1 w2p
  have b1 := mul_bd (Int.le_of_lt D3.1) (show dstep (dstep (2 * x.Mean) y.Mean) z.Mean ≤ 2 * 1073741824 by have := D3.2.2; omega) w2.1 (show P * d * e ≤ 262144 by omega)
  have o1 := mul_bd kyz.1 (show y.Mean * z.Mean ≤ 1048576 by omega) w2.1 (show P * d * e ≤ 262144 by omega)
  have o2 := mul_bd kxz.1 (show x.Mean * z.Mean ≤ 1048576 by omega) w2.1 (show P * d * e ≤ 262144 by omega)
  have o3 := mul_bd k2.1 (show x.Mean * y.Mean ≤ 1048576 by omega) w2.1 (show P * d * e ≤ 262144 by omega)
  have T1 : TermOk (dstep (dstep (2 * x.Mean) y.Mean) z.Mean * (P * d * e)) P x.Cost x.Mean := ⟨by omega, by omega, xc0, xc1, xm0, xm1, by omega, by omega, t2_of (o := y.Mean * z.Mean) D3.2.2 (Int.mul_assoc _ _ _) w2.1 (by omega) (by omega)⟩
  have T2 : TermOk (dstep (dstep (2 * x.Mean) y.Mean) z.Mean * (P * d * e)) (P * d) y.Cost y.Mean := ⟨by omega, by omega, yc0, yc1, ym0, ym1, by omega, by omega, t2_of (o := x.Mean * z.Mean) D3.2.2 (by grind) w2.1 (by omega) (by omega)⟩
  have T3 : TermOk (dstep (dstep (2 * x.Mean) y.Mean) z.Mean * (P * d * e)) (P * d * e) z.Cost z.Mean := ⟨by omega, by omega, zc0, zc1, zm0, zm1, by omega, by omega, t2_of (o := x.Mean * y.Mean) D3.2.2 (Int.mul_comm _ _) w2.1 (by omega) (by omega)⟩
  obtain ⟨_, _, _, _, _, _, n0, n1⟩ := T1.all
  obtain ⟨_, _, _, _, _, _, n2, n3⟩ := T2.all
  obtain ⟨_, _, _, _, _, _, n4, n5⟩ := T3.all
  generalize hE : dstep (2 * x.Mean) y.Mean = E at *
  generalize hD : dstep E z.Mean = D at *
  refine ⟨lowest (0 + term (D * (P * d * e)) P x.Cost x.Mean + term (D * (P * d * e)) (P * d) y.Cost y.Mean + term (D * (P * d * e)) (P * d * e) z.Cost z.Mean) (D * (P * d * e)), (lowest_parts (by omega) (by omega) hT (by omega)).1, fun N hN => ?_⟩
  obtain ⟨k, rfl⟩ : ∃ k, N = k + 4 := ⟨N - 4, by omega⟩
  refine ⟨lose_of (wv := [P, P * d, P * d * e]) (D := D) (last := P * d * e) ?_ ?_ (by simp) rfl ?_ (by omega) (by omega) hT (by omega) hN, loss_of (wv := [P, P * d, P * d * e]) (D := D) (last := P * d * e) ?_ (by simp) rfl ?_ (by omega) (by omega) hT (by omega) hN⟩
  · rw [lose_l1_step (d := d) (w := P) (by simp) (by decide) rfl rfl (by simp) (by unfold inR; omega), lose_l1_step (d := e) (w := P * d) (by simp) (by decide) rfl rfl (by simp) (by unfold inR; omega), lose_l1_end (by simp)]; rfl
  · rw [lose_l2_first (by simp) rfl hx (by omega), lose_l2_step (l := y) (by simp) (by decide) rfl hy D1 (by omega) (by omega), hE, lose_l2_step (l := z) (by simp) (by decide) rfl hz D2 (by omega) (by omega), lose_l2_end (by simp), hD]
  · rw [lose_l3_step (l := x) (w := P) (by simp) (by decide) rfl rfl T1 (by omega) (by omega), lose_l3_step (l := y) (w := P * d) (by simp) (by decide) rfl rfl T2 (by omega) (by omega), lose_l3_step (l := z) (w := P * d * e) (by simp) (by decide) rfl rfl T3 (by omega) (by omega), lose_l3_end (by simp)]
  · rw [loss_l1_first (by simp) rfl hx (by omega), loss_l1_step (l := y) (d := d) (w := P) (by decide) (by simp) (by decide) (by decide) rfl rfl (by simp) (by unfold inR; omega) rfl hy D1 (by omega) (by omega), hE, loss_l1_step (l := z) (d := e) (w := P * d) (by decide) (by simp) (by decide) (by decide) rfl rfl (by simp) (by unfold inR; omega) rfl hz D2 (by omega) (by omega), loss_l1_end (by simp), hD]; rfl
  · rw [loss_l2_step (l := x) (w := P) (by simp) (by decide) rfl rfl T1 (by omega) (by omega), loss_l2_step (l := y) (w := P * d) (by simp) (by decide) rfl rfl T2 (by omega) (by omega), loss_l2_step (l := z) (w := P * d * e) (by simp) (by decide) rfl rfl T3 (by omega) (by omega), loss_l2_end (by simp)]

/-- Whatever the lists, of one to three levels. -/
theorem same_all {ls : List Level} {P : Int} {ds : List Int} (hl0 : 1 ≤ ls.length) (hl1 : ls.length ≤ 3) (hl : ∀ l ∈ ls, LevOk l) (hP : 1 ≤ P ∧ P ≤ 4096) (hlen : ds.length + 1 = ls.length) (hd : ∀ d ∈ ds, 1 ≤ d ∧ d ≤ 8) : Same ls P ds := by
  match ls, ds, hlen with
  | [x], [], _ => exact shape1 (hl x (by simp)) hP
  | [x, y], [d], _ => exact shape2 (hl x (by simp)) (hl y (by simp)) hP (hd d (by simp))
  | [x, y, z], [d, e], _ => exact shape3 (hl x (by simp)) (hl y (by simp)) (hl z (by simp)) hP (hd d (by simp)) (hd e (by simp))
  | _ :: _ :: _ :: _ :: _, _, _ => simp at hl1
  | [], _, _ => simp at hl0
end Go.Arm
