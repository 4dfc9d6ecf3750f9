/- A part of the proof. -/
import Derived.Test.YtdaedcoolcicoaaHand
namespace Go.Arm
open Go Go.RowKit Go.Proofs
variable {σ : Type}
def slices_IndexFunc_Lcheck_Level_check_Level_l1 (N : Nat) (a0 : List Level) (a1 : Level → Option Bool) : Nat → Int → Option (Sum Unit Int)
  | 0, _ => none
  | m + 1, x1 =>
  if decide (x1 < (a0.length : Int)) then
  (Option.bind (idx a0 x1) fun y12 =>
  Option.bind (a1 y12) fun y18 =>
  if y18 then
  (some (.inr (x1)))
  else
  (chk (inR (x1 + 1)) <|
  slices_IndexFunc_Lcheck_Level_check_Level_l1 N a0 a1 m (x1 + 1)))
  else
  (some (Sum.inl ()))
def slices_IndexFunc_Lcheck_Level_check_Level (N : Nat) (a0 : List Level) (a1 : Level → Option Bool) : Option (Int) :=
  Option.bind (slices_IndexFunc_Lcheck_Level_check_Level_l1 N a0 a1 N 0) fun o2 => match o2 with
  | .inl () =>
  (some (-1))
  | .inr r => some r

def slices_ContainsFunc_Lcheck_Level_check_Level (N : Nat) (a0 : List Level) (a1 : Level → Option Bool) : Option (Bool) :=
  Option.bind (slices_IndexFunc_Lcheck_Level_check_Level N a0 a1) fun y1 =>
  some (decide (0 ≤ y1))

def check_levelled_1 (_N : Nat) (a0 : Int) : Option (Bool) :=
  if decide (a0 < 1) then
  (some (true))
  else
  (some (decide (1024 < a0)))

def check_levelled_2 (N : Nat) (a0 : Level) : Option (Bool) :=
  Option.bind (check_levelled_1 N a0.Cost) fun y8 =>
  if y8 then
  (some (true))
  else
  (Option.bind (check_levelled_1 N a0.Mean) fun y18 =>
  some (y18))

def check_levelled (N : Nat) (a0 : List Level) : Option (Int) :=
  Option.bind (if decide ((a0.length : Int) < 1) then
  (some (true))
  else
  (if decide (3 < (a0.length : Int)) then
  (some (true))
  else
  (Option.bind (slices_ContainsFunc_Lcheck_Level_check_Level N a0 (fun x => check_levelled_2 N x )) fun y17 =>
  some (y17)))) fun o12 => match o12 with
  | x11 =>
  (if x11 then
  (some (3))
  else
  (some (0)))

def slices_Clone_Lint_int (_N : Nat) (a0 : List Int) : Option ((List Int)) :=
  chk ((([] : List Int).length + a0.length) * 8 ≤ 140737488355328 ∧ ([] : List Int).length + a0.length ≤ maxLen) <|
  some (([] : List Int) ++ a0)

def math_bits_Mul64 (_N : Nat) (a0 : U64) (a1 : U64) : Option (U64 × U64) :=
  chk ((0 : Int) ≤ (⟨32⟩ : U64).n) <|
  chk ((0 : Int) ≤ (⟨32⟩ : U64).n) <|
  chk ((0 : Int) ≤ (⟨32⟩ : U64).n) <|
  chk ((0 : Int) ≤ (⟨32⟩ : U64).n) <|
  chk ((0 : Int) ≤ (⟨32⟩ : U64).n) <|
  some (((⟨addK .u64 (⟨addK .u64 (⟨mulK .u64 (⟨shrK .u64 a0.n (⟨32⟩ : U64).n⟩ : U64).n (⟨shrK .u64 a1.n (⟨32⟩ : U64).n⟩ : U64).n⟩ : U64).n (⟨shrK .u64 (⟨addK .u64 (⟨mulK .u64 (⟨shrK .u64 a0.n (⟨32⟩ : U64).n⟩ : U64).n (⟨andK .u64 a1.n (⟨4294967295⟩ : U64).n⟩ : U64).n⟩ : U64).n (⟨shrK .u64 (⟨mulK .u64 (⟨andK .u64 a0.n (⟨4294967295⟩ : U64).n⟩ : U64).n (⟨andK .u64 a1.n (⟨4294967295⟩ : U64).n⟩ : U64).n⟩ : U64).n (⟨32⟩ : U64).n⟩ : U64).n⟩ : U64).n (⟨32⟩ : U64).n⟩ : U64).n⟩ : U64).n (⟨shrK .u64 (⟨addK .u64 (⟨andK .u64 (⟨addK .u64 (⟨mulK .u64 (⟨shrK .u64 a0.n (⟨32⟩ : U64).n⟩ : U64).n (⟨andK .u64 a1.n (⟨4294967295⟩ : U64).n⟩ : U64).n⟩ : U64).n (⟨shrK .u64 (⟨mulK .u64 (⟨andK .u64 a0.n (⟨4294967295⟩ : U64).n⟩ : U64).n (⟨andK .u64 a1.n (⟨4294967295⟩ : U64).n⟩ : U64).n⟩ : U64).n (⟨32⟩ : U64).n⟩ : U64).n⟩ : U64).n (⟨4294967295⟩ : U64).n⟩ : U64).n (⟨mulK .u64 (⟨andK .u64 a0.n (⟨4294967295⟩ : U64).n⟩ : U64).n (⟨shrK .u64 a1.n (⟨32⟩ : U64).n⟩ : U64).n⟩ : U64).n⟩ : U64).n (⟨32⟩ : U64).n⟩ : U64).n⟩ : U64), (⟨mulK .u64 a0.n a1.n⟩ : U64)))

def math_bits_Mul (N : Nat) (a0 : U64) (a1 : U64) : Option (U64 × U64) :=
  Option.bind (math_bits_Mul64 N a0 a1) fun y2 =>
  some ((y2.1, y2.2))

def slices_Repeat_Lint_int_l1 (N : Nat) (y2 : U64 × U64) : Nat → Int → (List Int) → Option ((List Int))
  | 0, _, _ => none
  | m + 1, x35, x34 =>
  if decide (x35 < (((convK .i64 y2.2.n).toNat : Nat) : Int)) then
  (chk ((0 : Int) ≤ x35 ∧ x35 < (((convK .i64 y2.2.n).toNat : Nat) : Int)) <|
  Option.bind (cut x34 0 x35) fun y53 =>
  chk (inR (x35 + ((min y53.length (((convK .i64 y2.2.n).toNat) - (x35).toNat) : Nat) : Int))) <|
  slices_Repeat_Lint_int_l1 N y2 m (x35 + ((min y53.length (((convK .i64 y2.2.n).toNat) - (x35).toNat) : Nat) : Int)) (cpy x34 (x35).toNat y53))
  else
  (some (x34))
def slices_Repeat_Lint_int (N : Nat) (a0 : List Int) (a1 : Int) : Option ((List Int)) :=
  if decide (a1 < 0) then
  (none)
  else
  (Option.bind (math_bits_Mul N (⟨convK .u64 (a0.length : Int)⟩ : U64) (⟨convK .u64 a1⟩ : U64)) fun y2 =>
  Option.bind (if decide ((⟨0⟩ : U64).n < y2.1.n) then
  (some (true))
  else
  (some (decide ((⟨9223372036854775807⟩ : U64).n < y2.2.n)))) fun o14 => match o14 with
  | x13 =>
  (if x13 then
  (none)
  else
  (chk ((0 : Int) ≤ (convK .i64 y2.2.n) ∧ (8 : Int) * (convK .i64 y2.2.n) ≤ 281474976710656 ∧ (convK .i64 y2.2.n) ≤ 9223372036854775807) <|
  Option.bind (slices_Repeat_Lint_int_l1 N y2 N ((min a0.length ((convK .i64 y2.2.n).toNat) : Nat) : Int) (cpy (List.replicate (convK .i64 y2.2.n).toNat (0 : Int)) 0 a0)) fun o37 => match o37 with
  | x36 =>
  (some (x36)))))

def check_numbers_l2 (N : Nat) (a1 : Int) : Nat → Int → (List Int) → Option (Int × (List Int))
  | 0, _, _ => none
  | m + 1, x56, x55 =>
  Option.bind (if decide (0 ≤ x56) then
  (Option.bind (idx x55 x56) fun y75 =>
  some (decide (y75 = a1)))
  else
  (some (false))) fun o71 => match o71 with
  | x70 =>
  (if x70 then
  (Option.bind (idx x55 x56) fun _ =>
  chk (inR (x56 - 1)) <|
  check_numbers_l2 N a1 m (x56 - 1) (x55.set (x56).toNat 1))
  else
  (some ((x56, x55))))
def check_numbers_l1 (N : Nat) (a0 : Int) (a1 : Int) (a2 : (List Int) → σ → Option σ) : Nat → σ → (List Int) → Option (Sum σ σ)
  | 0, _, _ => none
  | m + 1, x18, x19 =>
  Option.bind (slices_Clone_Lint_int N x19) fun y36 =>
  Option.bind (a2 y36 x18) fun y47 =>
  chk (inR (a0 - 1)) <|
  Option.bind (check_numbers_l2 N a1 N (a0 - 1) x19) fun o59 => match o59 with
  | (x58, x57) =>
  (if decide (x58 < 0) then
  (some (.inr (y47)))
  else
  (Option.bind (idx x57 x58) fun y106 =>
  chk (inR (y106 + 1)) <|
  Option.bind (idx x57 x58) fun _ =>
  check_numbers_l1 N a0 a1 a2 m y47 (x57.set (x58).toNat (y106 + 1))))
def check_numbers (N : Nat) (a0 : Int) (a1 : Int) (a2 : (List Int) → σ → Option σ) (q0 : σ) : Option (σ) :=
  Option.bind (slices_Repeat_Lint_int N ([1] : List Int) a0) fun y7 =>
  Option.bind (check_numbers_l1 N a0 a1 a2 N q0 y7) fun o21 => match o21 with
  | .inl x20 =>
  (some (x20))
  | .inr r => some r

def check_divisor : (N : Nat) → Int → Int → Option (Int)
  | 0, _, _ => none
  | N + 1, a0, a1 =>
  if decide (a1 = 0) then
  (some (a0))
  else
  (chk (a1 ≠ (0 : Int)) <|
  Option.bind (check_divisor N a1 (Int.tmod a0 a1)) fun y3 =>
  some (y3))

def check_lose_l1 (N : Nat) (a2 : List Int) : Nat → (List Int) → Int → Option ((List Int))
  | 0, _, _ => none
  | m + 1, x14, x16 =>
  if decide (x16 < (a2.length : Int)) then
  (Option.bind (idx a2 x16) fun y32 =>
  chk (inR ((x14.length : Int) - 1)) <|
  Option.bind (idx x14 ((x14.length : Int) - 1)) fun y39 =>
  chk (inR (y39 * y32)) <|
  chk ((x14.length + ([y39 * y32] : List Int).length) * 8 ≤ 140737488355328 ∧ x14.length + ([y39 * y32] : List Int).length ≤ maxLen) <|
  chk (inR (x16 + 1)) <|
  check_lose_l1 N a2 m (x14 ++ ([y39 * y32] : List Int)) (x16 + 1))
  else
  (some (x14))
def check_lose_l2 (N : Nat) (a0 : List Level) : Nat → Int → Int → Option (Int)
  | 0, _, _ => none
  | m + 1, x68, x69 =>
  if decide (x69 < (a0.length : Int)) then
  (Option.bind (idx a0 x69) fun y83 =>
  chk (inR (2 * y83.Mean)) <|
  Option.bind (check_divisor N x68 (2 * y83.Mean)) fun y104 =>
  chk (y104 ≠ (0 : Int) ∧ inR (Int.tdiv x68 y104)) <|
  chk (inR ((Int.tdiv x68 y104) * 2)) <|
  chk (inR (((Int.tdiv x68 y104) * 2) * y83.Mean)) <|
  chk (inR (x69 + 1)) <|
  check_lose_l2 N a0 m (((Int.tdiv x68 y104) * 2) * y83.Mean) (x69 + 1))
  else
  (some (x68))
def check_lose_l3 (N : Nat) (a0 : List Level) (x17 : List Int) (x70 : Int) (y236 : Int) : Nat → Int → Int → Option (Int)
  | 0, _, _ => none
  | m + 1, x241, x242 =>
  if decide (x242 < (a0.length : Int)) then
  (Option.bind (idx a0 x242) fun y256 =>
  Option.bind (idx x17 x242) fun y275 =>
  chk (y275 ≠ (0 : Int) ∧ inR (Int.tdiv (x70 * y236) y275)) <|
  chk (inR ((Int.tdiv (x70 * y236) y275) * y256.Cost)) <|
  chk (inR (2 * y256.Mean)) <|
  chk ((2 * y256.Mean) ≠ (0 : Int) ∧ inR (Int.tdiv (x70 * y236) (2 * y256.Mean))) <|
  Option.bind (idx x17 x242) fun y288 =>
  chk (inR ((Int.tdiv (x70 * y236) (2 * y256.Mean)) * y288)) <|
  chk (inR ((Int.tdiv (x70 * y236) y275) * y256.Cost + ((Int.tdiv (x70 * y236) (2 * y256.Mean)) * y288))) <|
  chk (inR (x241 + ((Int.tdiv (x70 * y236) y275) * y256.Cost + ((Int.tdiv (x70 * y236) (2 * y256.Mean)) * y288)))) <|
  chk (inR (x242 + 1)) <|
  check_lose_l3 N a0 x17 x70 y236 m (x241 + ((Int.tdiv (x70 * y236) y275) * y256.Cost + ((Int.tdiv (x70 * y236) (2 * y256.Mean)) * y288))) (x242 + 1))
  else
  (some (x241))
def check_lose (N : Nat) (a0 : List Level) (a1 : Int) (a2 : List Int) : Option (Loss) :=
  Option.bind (check_lose_l1 N a2 N ([a1] : List Int) 0) fun o19 => match o19 with
  | x17 =>
  (Option.bind (check_lose_l2 N a0 N 1 0) fun o71 => match o71 with
  | x70 =>
  (chk (inR ((x17.length : Int) - 1)) <|
  Option.bind (idx x17 ((x17.length : Int) - 1)) fun y236 =>
  chk (inR (x70 * y236)) <|
  Option.bind (check_lose_l3 N a0 x17 x70 y236 N 0 0) fun o244 => match o244 with
  | x243 =>
  (Option.bind (check_divisor N x243 (x70 * y236)) fun y505 =>
  chk (y505 ≠ (0 : Int) ∧ inR (Int.tdiv x243 y505)) <|
  chk (y505 ≠ (0 : Int) ∧ inR (Int.tdiv (x70 * y236) y505)) <|
  some ((⟨Int.tdiv x243 y505, Int.tdiv (x70 * y236) y505⟩ : Loss)))))

def cmp_Or_int_l1 (N : Nat) (a0 : List Int) : Nat → Int → Option (Sum Unit Int)
  | 0, _ => none
  | m + 1, x1 =>
  if decide (x1 < (a0.length : Int)) then
  (Option.bind (idx a0 x1) fun y12 =>
  if !decide (y12 = 0) then
  (some (.inr (y12)))
  else
  (chk (inR (x1 + 1)) <|
  cmp_Or_int_l1 N a0 m (x1 + 1)))
  else
  (some (Sum.inl ()))
def cmp_Or_int (N : Nat) (a0 : List Int) : Option (Int) :=
  Option.bind (cmp_Or_int_l1 N a0 N 0) fun o2 => match o2 with
  | .inl () =>
  (some (0))
  | .inr r => some r

def cmp_isNaN_uint64 (_N : Nat) (a0 : U64) : Option (Bool) :=
  some (!decide (a0.n = a0.n))

def cmp_Compare_uint64 (N : Nat) (a0 : U64) (a1 : U64) : Option (Int) :=
  Option.bind (cmp_isNaN_uint64 N a0) fun y1 =>
  Option.bind (cmp_isNaN_uint64 N a1) fun y8 =>
  if y1 then
  (if y8 then
  (some (0))
  else
  (some (-1)))
  else
  (if y8 then
  (some (1))
  else
  (if decide (a0.n < a1.n) then
  (some (-1))
  else
  (if decide (a1.n < a0.n) then
  (some (1))
  else
  (some (0)))))

def check_Loss_compare (N : Nat) (a0 : Loss) (a1 : Loss) : Option (Int) :=
  Option.bind (math_bits_Mul64 N (⟨convK .u64 a0.Num⟩ : U64) (⟨convK .u64 a1.Den⟩ : U64)) fun y15 =>
  Option.bind (math_bits_Mul64 N (⟨convK .u64 a1.Num⟩ : U64) (⟨convK .u64 a0.Den⟩ : U64)) fun y30 =>
  Option.bind (cmp_Compare_uint64 N y15.1 y30.1) fun y41 =>
  Option.bind (cmp_Compare_uint64 N y15.2 y30.2) fun y48 =>
  Option.bind (cmp_Or_int N ([y41, y48] : List Int)) fun y61 =>
  some (y61)

def check_Best_1 (N : Nat) (a0 : List Int) (a1 : List Level) (a2 : Int) (a3 : Int) (a4 : Loss) (a5 : List Int) : Option (Int × Loss × (List Int)) :=
  Option.bind (check_lose N a1 a2 a0) fun y5 =>
  Option.bind (if decide (a3 = 0) then
  (some (true))
  else
  (Option.bind (check_Loss_compare N y5 a4) fun y37 =>
  some (decide (y37 < 0)))) fun o27 => match o27 with
  | x26 =>
  (if x26 then
  (some ((a2, y5, a0)))
  else
  (some ((a3, a4, a5))))

def check_Best_l1 (N : Nat) (a0 : List Level) (a1 : Int) (a2 : Int) : Nat → Int → Int → (List Int) → Loss → Option (Int × (List Int))
  | 0, _, _, _, _ => none
  | m + 1, x79, x76, x77, x78 =>
  if decide (x79 ≤ a1) then
  (Option.bind (chk (inR ((a0.length : Int) - 1)) <|
  Option.bind (check_numbers N ((a0.length : Int) - 1) a2 (fun x q => check_Best_1 N x a0 x79 q.1 q.2.1 q.2.2) (x76, x78, x77)) fun y113 =>
  some ((y113.1, y113.2.2, y113.2.1))) fun o106 => match o106 with
  | (x103, x104, x105) =>
  (chk (inR (x79 + 1)) <|
  check_Best_l1 N a0 a1 a2 m (x79 + 1) x103 x104 x105))
  else
  (some ((x76, x77)))
def check_Best (N : Nat) (a0 : List Level) (a1 : Int) (a2 : Int) : Option (Int × (List Int) × Int) :=
  Option.bind (check_levelled N a0) fun y8 =>
  if !decide (y8 = 0) then
  (some ((0, ([] : List Int), y8)))
  else
  (Option.bind (if decide (a1 < 1) then
  (some (true))
  else
  (if decide (4096 < a1) then
  (some (true))
  else
  (if decide (a2 < 1) then
  (some (true))
  else
  (some (decide (8 < a2)))))) fun o17 => match o17 with
  | x16 =>
  (if x16 then
  (some ((0, ([] : List Int), 3)))
  else
  (Option.bind (check_Best_l1 N a0 a1 a2 N 1 0 ([] : List Int) (⟨0, 0⟩ : Loss)) fun o83 => match o83 with
  | (x81, x82) =>
  (some ((x81, x82, 0))))))

def slices_IndexFunc_Lint_int_l1 (N : Nat) (a0 : List Int) (a1 : Int → Option Bool) : Nat → Int → Option (Sum Unit Int)
  | 0, _ => none
  | m + 1, x1 =>
  if decide (x1 < (a0.length : Int)) then
  (Option.bind (idx a0 x1) fun y12 =>
  Option.bind (a1 y12) fun y16 =>
  if y16 then
  (some (.inr (x1)))
  else
  (chk (inR (x1 + 1)) <|
  slices_IndexFunc_Lint_int_l1 N a0 a1 m (x1 + 1)))
  else
  (some (Sum.inl ()))
def slices_IndexFunc_Lint_int (N : Nat) (a0 : List Int) (a1 : Int → Option Bool) : Option (Int) :=
  Option.bind (slices_IndexFunc_Lint_int_l1 N a0 a1 N 0) fun o2 => match o2 with
  | .inl () =>
  (some (-1))
  | .inr r => some r

def slices_ContainsFunc_Lint_int (N : Nat) (a0 : List Int) (a1 : Int → Option Bool) : Option (Bool) :=
  Option.bind (slices_IndexFunc_Lint_int N a0 a1) fun y1 =>
  some (decide (0 ≤ y1))

def check_Lose_1 (_N : Nat) (a0 : Int) : Option (Bool) :=
  if decide (a0 < 1) then
  (some (true))
  else
  (some (decide (8 < a0)))

def check_Lose (N : Nat) (a0 : List Level) (a1 : Int) (a2 : List Int) : Option (Loss × Int) :=
  Option.bind (check_levelled N a0) fun y7 =>
  if !decide (y7 = 0) then
  (some (((⟨0, 0⟩ : Loss), y7)))
  else
  (Option.bind (Option.bind (if decide (a1 < 1) then
  (some (true))
  else
  (some (decide (4096 < a1)))) fun o26 => match o26 with
  | x25 =>
  (if x25 then
  (some (.inr (((⟨0, 0⟩ : Loss), 3))))
  else
  (chk (inR ((a0.length : Int) - 1)) <|
  if !decide ((a2.length : Int) = ((a0.length : Int) - 1)) then
  (some (.inr (((⟨0, 0⟩ : Loss), 26))))
  else
  (Option.bind (slices_ContainsFunc_Lint_int N a2 (fun x => check_Lose_1 N x )) fun y50 =>
  if y50 then
  (some (.inr (((⟨0, 0⟩ : Loss), 3))))
  else
  (some (Sum.inl (⟨0, 0⟩ : Loss))))))) fun o22 => match o22 with
  | .inl _ =>
  (Option.bind (check_lose N a0 a1 a2) fun y71 =>
  some ((y71, 0)))
  | .inr r => some r)

def law14_less (_N : Nat) (a0 : Loss) (a1 : Loss) : Option (Bool) :=
  chk (inR (a0.Num * a1.Den)) <|
  chk (inR (a1.Num * a0.Den)) <|
  some (decide ((a0.Num * a1.Den) < (a1.Num * a0.Den)))

def law14_CheckBest_l1 (N : Nat) (a0 : List Level) : Nat → Int → Option (Sum Unit Bool)
  | 0, _ => none
  | m + 1, x18 =>
  if decide (x18 < (a0.length : Int)) then
  (Option.bind (Option.bind (idx a0 x18) fun y33 =>
  if decide (y33.Cost < 1) then
  (some (true))
  else
  (Option.bind (idx a0 x18) fun y40 =>
  if decide (30 < y40.Cost) then
  (some (true))
  else
  (Option.bind (idx a0 x18) fun y47 =>
  if decide (y47.Mean < 1) then
  (some (true))
  else
  (Option.bind (idx a0 x18) fun y54 =>
  some (decide (30 < y54.Mean)))))) fun o30 => match o30 with
  | x29 =>
  (if x29 then
  (Option.bind (law14_works N ) fun y65 =>
  some (.inr (y65)))
  else
  (chk (inR (x18 + 1)) <|
  law14_CheckBest_l1 N a0 m (x18 + 1))))
  else
  (some (Sum.inl ()))
def law14_CheckBest_l2 (N : Nat) (a2 : U8) (a4 : U8) (y89 : Int × (List Int) × Int) : Nat → Int → (List Int) → Option (Sum ((List Int)) Bool)
  | 0, _, _ => none
  | m + 1, x123, x122 =>
  if decide (x123 < (y89.2.1.length : Int)) then
  (Option.bind (Option.bind (idx y89.2.1 x123) fun y140 =>
  if decide (y140 < 1) then
  (some (true))
  else
  (Option.bind (idx y89.2.1 x123) fun y145 =>
  some (decide ((1 + (Int.tmod a2.n 4)) < y145)))) fun o137 => match o137 with
  | x136 =>
  (if x136 then
  (some (.inr (false)))
  else
  (chk (inR (a4.n)) <|
  chk ((1 + (Int.tmod a2.n 4)) ≠ (0 : Int)) <|
  chk (inR (1 + (Int.tmod a4.n (1 + (Int.tmod a2.n 4))))) <|
  Option.bind (idx x122 x123) fun _ =>
  chk (inR (x123 + 1)) <|
  law14_CheckBest_l2 N a2 a4 y89 m (x123 + 1) (x122.set (x123).toNat (1 + (Int.tmod a4.n (1 + (Int.tmod a2.n 4))))))))
  else
  (some (Sum.inl x122))
def law14_CheckBest (N : Nat) (a0 : List Level) (a1 : U8) (a2 : U8) (a3 : U8) (a4 : U8) : Option (Bool) :=
  Option.bind (if decide ((a0.length : Int) < 1) then
  (some (true))
  else
  (some (decide (2 < (a0.length : Int))))) fun o2 => match o2 with
  | x1 =>
  (if x1 then
  (Option.bind (law14_works N ) fun y11 =>
  some (y11))
  else
  (Option.bind (law14_CheckBest_l1 N a0 N 0) fun o19 => match o19 with
  | .inl () =>
  (chk (inR (a1.n)) <|
  chk (40 ≠ (0 : Int)) <|
  chk (inR (1 + (Int.tmod a1.n 40))) <|
  chk (inR (a2.n)) <|
  chk (4 ≠ (0 : Int)) <|
  chk (inR (1 + (Int.tmod a2.n 4))) <|
  Option.bind (check_Best N a0 (1 + (Int.tmod a1.n 40)) (1 + (Int.tmod a2.n 4))) fun y89 =>
  Option.bind (if !decide (y89.2.2 = 0) then
  (some (true))
  else
  (if decide (y89.1 < 1) then
  (some (true))
  else
  (if decide ((1 + (Int.tmod a1.n 40)) < y89.1) then
  (some (true))
  else
  (chk (inR ((a0.length : Int) - 1)) <|
  some (!decide ((y89.2.1.length : Int) = ((a0.length : Int) - 1))))))) fun o103 => match o103 with
  | x102 =>
  (if x102 then
  (some (false))
  else
  (chk ((0 : Int) ≤ (y89.2.1.length : Int) ∧ (8 : Int) * (y89.2.1.length : Int) ≤ 281474976710656 ∧ (y89.2.1.length : Int) ≤ 9223372036854775807) <|
  Option.bind (law14_CheckBest_l2 N a2 a4 y89 N 0 (List.replicate ((y89.2.1.length : Int)).toNat (0 : Int))) fun o125 => match o125 with
  | .inl x124 =>
  (Option.bind (check_Lose N a0 y89.1 y89.2.1) fun y176 =>
  chk (inR (a3.n)) <|
  chk ((1 + (Int.tmod a1.n 40)) ≠ (0 : Int)) <|
  chk (inR (1 + (Int.tmod a3.n (1 + (Int.tmod a1.n 40))))) <|
  Option.bind (check_Lose N a0 (1 + (Int.tmod a3.n (1 + (Int.tmod a1.n 40)))) x124) fun y205 =>
  Option.bind (if !decide (y176.2 = 0) then
  (some (true))
  else
  (if !decide (y205.2 = 0) then
  (some (true))
  else
  (if decide (y176.1.Den < 1) then
  (some (true))
  else
  (if decide (y205.1.Den < 1) then
  (some (true))
  else
  (if decide (1073741824 < (max (max (max y176.1.Num y176.1.Den) y205.1.Num) y205.1.Den)) then
  (some (true))
  else
  (Option.bind (law14_less N y205.1 y176.1) fun y255 =>
  some (y255))))))) fun o231 => match o231 with
  | x230 =>
  (if x230 then
  (some (false))
  else
  (if decide ((a0.length : Int) = 1) then
  (Option.bind (idx a0 0) fun y268 =>
  chk (inR (2 * y268.Cost)) <|
  Option.bind (idx a0 0) fun y275 =>
  chk (inR ((2 * y268.Cost) * y275.Mean)) <|
  Option.bind (check_Best N a0 4096 1) fun y386 =>
  Option.bind (if !decide (y386.2.2 = 0) then
  (some (true))
  else
  (chk (inR (y386.1 - 1)) <|
  chk (inR (y386.1 - 1)) <|
  chk (inR ((y386.1 - 1) * (y386.1 - 1))) <|
  if decide (((2 * y268.Cost) * y275.Mean) ≤ ((y386.1 - 1) * (y386.1 - 1))) then
  (some (true))
  else
  (chk (inR (y386.1 + 1)) <|
  chk (inR (y386.1 + 1)) <|
  chk (inR ((y386.1 + 1) * (y386.1 + 1))) <|
  if decide (((y386.1 + 1) * (y386.1 + 1)) ≤ ((2 * y268.Cost) * y275.Mean)) then
  (chk (inR (y386.1 * y386.1)) <|
  some (!decide ((y386.1 * y386.1) = ((2 * y268.Cost) * y275.Mean))))
  else
  (some (false))))) fun o400 => match o400 with
  | x399 =>
  (if x399 then
  (some (false))
  else
  (Option.bind (law14_works N ) fun y418 =>
  some (y418))))
  else
  (Option.bind (law14_works N ) fun y427 =>
  some (y427)))))
  | .inr r => some r)))
  | .inr r => some r))

end Go.Arm
