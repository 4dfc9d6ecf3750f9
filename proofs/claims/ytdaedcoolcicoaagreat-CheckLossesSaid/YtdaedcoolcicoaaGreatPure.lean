/- A part of the proof. -/
import Derived.Test.YtdaedcoolcicoaaGreatHand
namespace Go.Arm
open Go Go.RowKit Go.Proofs
variable {σ : Type}
def slices_IndexFunc_Lcheck_Level_check_Level_l1 (N : Nat) (a0 : List Level) (a1 : Level → Option Bool) : Nat → Int → Option (Sum Unit Int)
  | 0, _ => none
  | m + 1, x1 =>
  if decide (x1 < (a0.length : Int)) then
  (Option.bind (idx a0 x1) fun y12 =>
  Option.bind (a1 y12) fun y18 =>
  if y18 then
  (some (.inr (x1)))
  else
  (chk (inR (x1 + 1)) <|
  slices_IndexFunc_Lcheck_Level_check_Level_l1 N a0 a1 m (x1 + 1)))
  else
  (some (Sum.inl ()))
def slices_IndexFunc_Lcheck_Level_check_Level (N : Nat) (a0 : List Level) (a1 : Level → Option Bool) : Option (Int) :=
  Option.bind (slices_IndexFunc_Lcheck_Level_check_Level_l1 N a0 a1 N 0) fun o2 => match o2 with
  | .inl () =>
  (some (-1))
  | .inr r => some r

def slices_ContainsFunc_Lcheck_Level_check_Level (N : Nat) (a0 : List Level) (a1 : Level → Option Bool) : Option (Bool) :=
  Option.bind (slices_IndexFunc_Lcheck_Level_check_Level N a0 a1) fun y1 =>
  some (decide (0 ≤ y1))

def check_levelled_1 (_N : Nat) (a0 : Int) : Option (Bool) :=
  if decide (a0 < 1) then
  (some (true))
  else
  (some (decide (1024 < a0)))

def check_levelled_2 (N : Nat) (a0 : Level) : Option (Bool) :=
  Option.bind (check_levelled_1 N a0.Cost) fun y8 =>
  if y8 then
  (some (true))
  else
  (Option.bind (check_levelled_1 N a0.Mean) fun y18 =>
  some (y18))

def check_levelled (N : Nat) (a0 : List Level) : Option (Int) :=
  Option.bind (if decide ((a0.length : Int) < 1) then
  (some (true))
  else
  (if decide (3 < (a0.length : Int)) then
  (some (true))
  else
  (Option.bind (slices_ContainsFunc_Lcheck_Level_check_Level N a0 (fun x => check_levelled_2 N x )) fun y17 =>
  some (y17)))) fun o12 => match o12 with
  | x11 =>
  (if x11 then
  (some (3))
  else
  (some (0)))

def slices_IndexFunc_Lint_int_l1 (N : Nat) (a0 : List Int) (a1 : Int → Option Bool) : Nat → Int → Option (Sum Unit Int)
  | 0, _ => none
  | m + 1, x1 =>
  if decide (x1 < (a0.length : Int)) then
  (Option.bind (idx a0 x1) fun y12 =>
  Option.bind (a1 y12) fun y16 =>
  if y16 then
  (some (.inr (x1)))
  else
  (chk (inR (x1 + 1)) <|
  slices_IndexFunc_Lint_int_l1 N a0 a1 m (x1 + 1)))
  else
  (some (Sum.inl ()))
def slices_IndexFunc_Lint_int (N : Nat) (a0 : List Int) (a1 : Int → Option Bool) : Option (Int) :=
  Option.bind (slices_IndexFunc_Lint_int_l1 N a0 a1 N 0) fun o2 => match o2 with
  | .inl () =>
  (some (-1))
  | .inr r => some r

def slices_ContainsFunc_Lint_int (N : Nat) (a0 : List Int) (a1 : Int → Option Bool) : Option (Bool) :=
  Option.bind (slices_IndexFunc_Lint_int N a0 a1) fun y1 =>
  some (decide (0 ≤ y1))

def check_Lose_1 (_N : Nat) (a0 : Int) : Option (Bool) :=
  if decide (a0 < 1) then
  (some (true))
  else
  (some (decide (8 < a0)))

def check_divisor : (N : Nat) → Int → Int → Option (Int)
  | 0, _, _ => none
  | N + 1, a0, a1 =>
  if decide (a1 = 0) then
  (some (a0))
  else
  (chk (a1 ≠ (0 : Int)) <|
  Option.bind (check_divisor N a1 (Int.tmod a0 a1)) fun y3 =>
  some (y3))

def check_lose_l1 (N : Nat) (a2 : List Int) : Nat → (List Int) → Int → Option ((List Int))
  | 0, _, _ => none
  | m + 1, x14, x16 =>
  if decide (x16 < (a2.length : Int)) then
  (Option.bind (idx a2 x16) fun y32 =>
  chk (inR ((x14.length : Int) - 1)) <|
  Option.bind (idx x14 ((x14.length : Int) - 1)) fun y39 =>
  chk (inR (y39 * y32)) <|
  chk ((x14.length + ([y39 * y32] : List Int).length) * 8 ≤ 140737488355328 ∧ x14.length + ([y39 * y32] : List Int).length ≤ maxLen) <|
  chk (inR (x16 + 1)) <|
  check_lose_l1 N a2 m (x14 ++ ([y39 * y32] : List Int)) (x16 + 1))
  else
  (some (x14))
def check_lose_l2 (N : Nat) (a0 : List Level) : Nat → Int → Int → Option (Int)
  | 0, _, _ => none
  | m + 1, x68, x69 =>
  if decide (x69 < (a0.length : Int)) then
  (Option.bind (idx a0 x69) fun y83 =>
  chk (inR (2 * y83.Mean)) <|
  Option.bind (check_divisor N x68 (2 * y83.Mean)) fun y104 =>
  chk (y104 ≠ (0 : Int) ∧ inR (Int.tdiv x68 y104)) <|
  chk (inR ((Int.tdiv x68 y104) * 2)) <|
  chk (inR (((Int.tdiv x68 y104) * 2) * y83.Mean)) <|
  chk (inR (x69 + 1)) <|
  check_lose_l2 N a0 m (((Int.tdiv x68 y104) * 2) * y83.Mean) (x69 + 1))
  else
  (some (x68))
def check_lose_l3 (N : Nat) (a0 : List Level) (x17 : List Int) (x70 : Int) (y236 : Int) : Nat → Int → Int → Option (Int)
  | 0, _, _ => none
  | m + 1, x241, x242 =>
  if decide (x242 < (a0.length : Int)) then
  (Option.bind (idx a0 x242) fun y256 =>
  Option.bind (idx x17 x242) fun y275 =>
  chk (y275 ≠ (0 : Int) ∧ inR (Int.tdiv (x70 * y236) y275)) <|
  chk (inR ((Int.tdiv (x70 * y236) y275) * y256.Cost)) <|
  chk (inR (2 * y256.Mean)) <|
  chk ((2 * y256.Mean) ≠ (0 : Int) ∧ inR (Int.tdiv (x70 * y236) (2 * y256.Mean))) <|
  Option.bind (idx x17 x242) fun y288 =>
  chk (inR ((Int.tdiv (x70 * y236) (2 * y256.Mean)) * y288)) <|
  chk (inR ((Int.tdiv (x70 * y236) y275) * y256.Cost + ((Int.tdiv (x70 * y236) (2 * y256.Mean)) * y288))) <|
  chk (inR (x241 + ((Int.tdiv (x70 * y236) y275) * y256.Cost + ((Int.tdiv (x70 * y236) (2 * y256.Mean)) * y288)))) <|
  chk (inR (x242 + 1)) <|
  check_lose_l3 N a0 x17 x70 y236 m (x241 + ((Int.tdiv (x70 * y236) y275) * y256.Cost + ((Int.tdiv (x70 * y236) (2 * y256.Mean)) * y288))) (x242 + 1))
  else
  (some (x241))
def check_lose (N : Nat) (a0 : List Level) (a1 : Int) (a2 : List Int) : Option (Loss) :=
  Option.bind (check_lose_l1 N a2 N ([a1] : List Int) 0) fun o19 => match o19 with
  | x17 =>
  (Option.bind (check_lose_l2 N a0 N 1 0) fun o71 => match o71 with
  | x70 =>
  (chk (inR ((x17.length : Int) - 1)) <|
  Option.bind (idx x17 ((x17.length : Int) - 1)) fun y236 =>
  chk (inR (x70 * y236)) <|
  Option.bind (check_lose_l3 N a0 x17 x70 y236 N 0 0) fun o244 => match o244 with
  | x243 =>
  (Option.bind (check_divisor N x243 (x70 * y236)) fun y505 =>
  chk (y505 ≠ (0 : Int) ∧ inR (Int.tdiv x243 y505)) <|
  chk (y505 ≠ (0 : Int) ∧ inR (Int.tdiv (x70 * y236) y505)) <|
  some ((⟨Int.tdiv x243 y505, Int.tdiv (x70 * y236) y505⟩ : Loss)))))

def check_Lose (N : Nat) (a0 : List Level) (a1 : Int) (a2 : List Int) : Option (Loss × Int) :=
  Option.bind (check_levelled N a0) fun y7 =>
  if !decide (y7 = 0) then
  (some (((⟨0, 0⟩ : Loss), y7)))
  else
  (Option.bind (Option.bind (if decide (a1 < 1) then
  (some (true))
  else
  (some (decide (4096 < a1)))) fun o26 => match o26 with
  | x25 =>
  (if x25 then
  (some (.inr (((⟨0, 0⟩ : Loss), 3))))
  else
  (chk (inR ((a0.length : Int) - 1)) <|
  if !decide ((a2.length : Int) = ((a0.length : Int) - 1)) then
  (some (.inr (((⟨0, 0⟩ : Loss), 26))))
  else
  (Option.bind (slices_ContainsFunc_Lint_int N a2 (fun x => check_Lose_1 N x )) fun y50 =>
  if y50 then
  (some (.inr (((⟨0, 0⟩ : Loss), 3))))
  else
  (some (Sum.inl (⟨0, 0⟩ : Loss))))))) fun o22 => match o22 with
  | .inl _ =>
  (Option.bind (check_lose N a0 a1 a2) fun y71 =>
  some ((y71, 0)))
  | .inr r => some r)

def law14_levels_l1 (N : Nat) (a0 : List Level) : Nat → (List Level) → Int → Option ((List Level))
  | 0, _, _ => none
  | m + 1, x1, x3 =>
  if decide (x3 < (a0.length : Int)) then
  (Option.bind (idx a0 x3) fun y17 =>
  Option.bind (idx a0 x3) fun y23 =>
  chk ((x1.length + ([(⟨y17.Cost, y23.Mean⟩ : Level)] : List Level).length) * 16 ≤ 140737488355328 ∧ x1.length + ([(⟨y17.Cost, y23.Mean⟩ : Level)] : List Level).length ≤ maxLen) <|
  chk (inR (x3 + 1)) <|
  law14_levels_l1 N a0 m (x1 ++ ([(⟨y17.Cost, y23.Mean⟩ : Level)] : List Level)) (x3 + 1))
  else
  (some (x1))
def law14_levels (N : Nat) (a0 : List Level) : Option ((List Level)) :=
  Option.bind (law14_levels_l1 N a0 N ([] : List Level) 0) fun o6 => match o6 with
  | x4 =>
  (some (x4))

def ref14_levels_l1 (N : Nat) (a0 : List Level) : Nat → Int → Option (Sum Unit Int)
  | 0, _ => none
  | m + 1, x11 =>
  if decide (x11 < (a0.length : Int)) then
  (Option.bind (Option.bind (idx a0 x11) fun y26 =>
  if decide (y26.Cost < 1) then
  (some (true))
  else
  (Option.bind (idx a0 x11) fun y33 =>
  if decide (1024 < y33.Cost) then
  (some (true))
  else
  (Option.bind (idx a0 x11) fun y40 =>
  if decide (y40.Mean < 1) then
  (some (true))
  else
  (Option.bind (idx a0 x11) fun y47 =>
  some (decide (1024 < y47.Mean)))))) fun o23 => match o23 with
  | x22 =>
  (if x22 then
  (some (.inr (3)))
  else
  (chk (inR (x11 + 1)) <|
  ref14_levels_l1 N a0 m (x11 + 1))))
  else
  (some (Sum.inl ()))
def ref14_levels (N : Nat) (a0 : List Level) : Option (Int) :=
  Option.bind (if decide ((a0.length : Int) < 1) then
  (some (true))
  else
  (some (decide (3 < (a0.length : Int))))) fun o2 => match o2 with
  | x1 =>
  (if x1 then
  (some (3))
  else
  (Option.bind (ref14_levels_l1 N a0 N 0) fun o12 => match o12 with
  | .inl () =>
  (some (0))
  | .inr r => some r))

def ref14_common_l1 (N : Nat)  : Nat → Int → Int → Option (Int)
  | 0, _, _ => none
  | m + 1, x1, x2 =>
  if !decide (x2 = 0) then
  (chk (x2 ≠ (0 : Int)) <|
  ref14_common_l1 N m x2 (Int.tmod x1 x2))
  else
  (some (x1))
def ref14_common (N : Nat) (a0 : Int) (a1 : Int) : Option (Int) :=
  Option.bind (ref14_common_l1 N N a0 a1) fun o4 => match o4 with
  | x3 =>
  (some (x3))

def ref14_loss_l1 (N : Nat) (a0 : List Level) (a2 : List Int) : Nat → (List Int) → Int → Int → Option ((List Int) × Int)
  | 0, _, _, _ => none
  | m + 1, x14, x16, x17 =>
  if decide (x17 < (a0.length : Int)) then
  (if decide (0 < x17) then
  (chk (inR (x17 - 1)) <|
  Option.bind (idx x14 (x17 - 1)) fun y37 =>
  chk (inR (x17 - 1)) <|
  Option.bind (idx a2 (x17 - 1)) fun y42 =>
  chk (inR (y37 * y42)) <|
  chk ((x14.length + ([y37 * y42] : List Int).length) * 8 ≤ 140737488355328 ∧ x14.length + ([y37 * y42] : List Int).length ≤ maxLen) <|
  Option.bind (idx a0 x17) fun y224 =>
  chk (inR (2 * y224.Mean)) <|
  Option.bind (ref14_common N x16 (2 * y224.Mean)) fun y231 =>
  chk (y231 ≠ (0 : Int) ∧ inR (Int.tdiv x16 y231)) <|
  Option.bind (idx a0 x17) fun y239 =>
  chk (inR (2 * y239.Mean)) <|
  chk (inR ((Int.tdiv x16 y231) * (2 * y239.Mean))) <|
  chk (inR (x17 + 1)) <|
  ref14_loss_l1 N a0 a2 m (x14 ++ ([y37 * y42] : List Int)) ((Int.tdiv x16 y231) * (2 * y239.Mean)) (x17 + 1))
  else
  (Option.bind (idx a0 x17) fun y409 =>
  chk (inR (2 * y409.Mean)) <|
  Option.bind (ref14_common N x16 (2 * y409.Mean)) fun y416 =>
  chk (y416 ≠ (0 : Int) ∧ inR (Int.tdiv x16 y416)) <|
  Option.bind (idx a0 x17) fun y424 =>
  chk (inR (2 * y424.Mean)) <|
  chk (inR ((Int.tdiv x16 y416) * (2 * y424.Mean))) <|
  chk (inR (x17 + 1)) <|
  ref14_loss_l1 N a0 a2 m x14 ((Int.tdiv x16 y416) * (2 * y424.Mean)) (x17 + 1)))
  else
  (some ((x14, x16)))
def ref14_loss_l2 (N : Nat) (a0 : List Level) (x18 : List Int) (x20 : Int) (y607 : Int) : Nat → Int → Int → Option (Int)
  | 0, _, _ => none
  | m + 1, x612, x613 =>
  if decide (x613 < (a0.length : Int)) then
  (Option.bind (idx x18 x613) fun y628 =>
  chk (y628 ≠ (0 : Int) ∧ inR (Int.tdiv (x20 * y607) y628)) <|
  Option.bind (idx a0 x613) fun y633 =>
  chk (inR ((Int.tdiv (x20 * y607) y628) * y633.Cost)) <|
  Option.bind (idx a0 x613) fun y640 =>
  chk (inR (2 * y640.Mean)) <|
  chk ((2 * y640.Mean) ≠ (0 : Int) ∧ inR (Int.tdiv (x20 * y607) (2 * y640.Mean))) <|
  Option.bind (idx x18 x613) fun y649 =>
  chk (inR ((Int.tdiv (x20 * y607) (2 * y640.Mean)) * y649)) <|
  chk (inR ((Int.tdiv (x20 * y607) y628) * y633.Cost + ((Int.tdiv (x20 * y607) (2 * y640.Mean)) * y649))) <|
  chk (inR (x612 + ((Int.tdiv (x20 * y607) y628) * y633.Cost + ((Int.tdiv (x20 * y607) (2 * y640.Mean)) * y649)))) <|
  chk (inR (x613 + 1)) <|
  ref14_loss_l2 N a0 x18 x20 y607 m (x612 + ((Int.tdiv (x20 * y607) y628) * y633.Cost + ((Int.tdiv (x20 * y607) (2 * y640.Mean)) * y649))) (x613 + 1))
  else
  (some (x612))
def ref14_loss (N : Nat) (a0 : List Level) (a1 : Int) (a2 : List Int) : Option (Loss) :=
  Option.bind (ref14_loss_l1 N a0 a2 N ([a1] : List Int) 2 0) fun o21 => match o21 with
  | (x18, x20) =>
  (chk (inR ((a0.length : Int) - 1)) <|
  Option.bind (idx x18 ((a0.length : Int) - 1)) fun y607 =>
  chk (inR (x20 * y607)) <|
  Option.bind (ref14_loss_l2 N a0 x18 x20 y607 N 0 0) fun o615 => match o615 with
  | x614 =>
  (Option.bind (ref14_common N x614 (x20 * y607)) fun y921 =>
  chk (y921 ≠ (0 : Int) ∧ inR (Int.tdiv x614 y921)) <|
  chk (y921 ≠ (0 : Int) ∧ inR (Int.tdiv (x20 * y607) y921)) <|
  some ((⟨Int.tdiv x614 y921, Int.tdiv (x20 * y607) y921⟩ : Loss))))

def ref14_Lose_l1 (N : Nat) (a2 : List Int) : Nat → Int → Loss → Option (Sum Loss (Loss × Int))
  | 0, _, _ => none
  | m + 1, x47, x46 =>
  if decide (x47 < (a2.length : Int)) then
  (Option.bind (Option.bind (idx a2 x47) fun y64 =>
  if decide (y64 < 1) then
  (some (true))
  else
  (Option.bind (idx a2 x47) fun y69 =>
  some (decide (8 < y69)))) fun o61 => match o61 with
  | x60 =>
  (if x60 then
  (some (.inr (((⟨0, 0⟩ : Loss), 3))))
  else
  (chk (inR (x47 + 1)) <|
  ref14_Lose_l1 N a2 m (x47 + 1) x46)))
  else
  (some (Sum.inl x46))
def ref14_Lose (N : Nat) (a0 : List Level) (a1 : Int) (a2 : List Int) : Option (Loss × Int) :=
  Option.bind (ref14_levels N a0) fun y7 =>
  if !decide (y7 = 0) then
  (some (((⟨0, 0⟩ : Loss), y7)))
  else
  (Option.bind (if decide (a1 < 1) then
  (some (true))
  else
  (some (decide (4096 < a1)))) fun o22 => match o22 with
  | x21 =>
  (if x21 then
  (some (((⟨0, 0⟩ : Loss), 3)))
  else
  (chk (inR ((a0.length : Int) - 1)) <|
  if !decide ((a2.length : Int) = ((a0.length : Int) - 1)) then
  (some (((⟨0, 0⟩ : Loss), 26)))
  else
  (Option.bind (ref14_Lose_l1 N a2 N 0 (⟨0, 0⟩ : Loss)) fun o49 => match o49 with
  | .inl _ =>
  (Option.bind (ref14_loss N a0 a1 a2) fun y97 =>
  some ((y97, 0)))
  | .inr r => some r))))

def slices_Clone_Lint_int (_N : Nat) (a0 : List Int) : Option ((List Int)) :=
  chk ((([] : List Int).length + a0.length) * 8 ≤ 140737488355328 ∧ ([] : List Int).length + a0.length ≤ maxLen) <|
  some (([] : List Int) ++ a0)

def math_bits_Mul64 (_N : Nat) (a0 : U64) (a1 : U64) : Option (U64 × U64) :=
  chk ((0 : Int) ≤ (⟨32⟩ : U64).n) <|
  chk ((0 : Int) ≤ (⟨32⟩ : U64).n) <|
  chk ((0 : Int) ≤ (⟨32⟩ : U64).n) <|
  chk ((0 : Int) ≤ (⟨32⟩ : U64).n) <|
  chk ((0 : Int) ≤ (⟨32⟩ : U64).n) <|
  some (((⟨addK .u64 (⟨addK .u64 (⟨mulK .u64 (⟨shrK .u64 a0.n (⟨32⟩ : U64).n⟩ : U64).n (⟨shrK .u64 a1.n (⟨32⟩ : U64).n⟩ : U64).n⟩ : U64).n (⟨shrK .u64 (⟨addK .u64 (⟨mulK .u64 (⟨shrK .u64 a0.n (⟨32⟩ : U64).n⟩ : U64).n (⟨andK .u64 a1.n (⟨4294967295⟩ : U64).n⟩ : U64).n⟩ : U64).n (⟨shrK .u64 (⟨mulK .u64 (⟨andK .u64 a0.n (⟨4294967295⟩ : U64).n⟩ : U64).n (⟨andK .u64 a1.n (⟨4294967295⟩ : U64).n⟩ : U64).n⟩ : U64).n (⟨32⟩ : U64).n⟩ : U64).n⟩ : U64).n (⟨32⟩ : U64).n⟩ : U64).n⟩ : U64).n (⟨shrK .u64 (⟨addK .u64 (⟨andK .u64 (⟨addK .u64 (⟨mulK .u64 (⟨shrK .u64 a0.n (⟨32⟩ : U64).n⟩ : U64).n (⟨andK .u64 a1.n (⟨4294967295⟩ : U64).n⟩ : U64).n⟩ : U64).n (⟨shrK .u64 (⟨mulK .u64 (⟨andK .u64 a0.n (⟨4294967295⟩ : U64).n⟩ : U64).n (⟨andK .u64 a1.n (⟨4294967295⟩ : U64).n⟩ : U64).n⟩ : U64).n (⟨32⟩ : U64).n⟩ : U64).n⟩ : U64).n (⟨4294967295⟩ : U64).n⟩ : U64).n (⟨mulK .u64 (⟨andK .u64 a0.n (⟨4294967295⟩ : U64).n⟩ : U64).n (⟨shrK .u64 a1.n (⟨32⟩ : U64).n⟩ : U64).n⟩ : U64).n⟩ : U64).n (⟨32⟩ : U64).n⟩ : U64).n⟩ : U64), (⟨mulK .u64 a0.n a1.n⟩ : U64)))

def math_bits_Mul (N : Nat) (a0 : U64) (a1 : U64) : Option (U64 × U64) :=
  Option.bind (math_bits_Mul64 N a0 a1) fun y2 =>
  some ((y2.1, y2.2))

def slices_Repeat_Lint_int_l1 (N : Nat) (y2 : U64 × U64) : Nat → Int → (List Int) → Option ((List Int))
  | 0, _, _ => none
  | m + 1, x35, x34 =>
  if decide (x35 < (((convK .i64 y2.2.n).toNat : Nat) : Int)) then
  (chk ((0 : Int) ≤ x35 ∧ x35 < (((convK .i64 y2.2.n).toNat : Nat) : Int)) <|
  Option.bind (cut x34 0 x35) fun y53 =>
  chk (inR (x35 + ((min y53.length (((convK .i64 y2.2.n).toNat) - (x35).toNat) : Nat) : Int))) <|
  slices_Repeat_Lint_int_l1 N y2 m (x35 + ((min y53.length (((convK .i64 y2.2.n).toNat) - (x35).toNat) : Nat) : Int)) (cpy x34 (x35).toNat y53))
  else
  (some (x34))
def slices_Repeat_Lint_int (N : Nat) (a0 : List Int) (a1 : Int) : Option ((List Int)) :=
  if decide (a1 < 0) then
  (none)
  else
  (Option.bind (math_bits_Mul N (⟨convK .u64 (a0.length : Int)⟩ : U64) (⟨convK .u64 a1⟩ : U64)) fun y2 =>
  Option.bind (if decide ((⟨0⟩ : U64).n < y2.1.n) then
  (some (true))
  else
  (some (decide ((⟨9223372036854775807⟩ : U64).n < y2.2.n)))) fun o14 => match o14 with
  | x13 =>
  (if x13 then
  (none)
  else
  (chk ((0 : Int) ≤ (convK .i64 y2.2.n) ∧ (8 : Int) * (convK .i64 y2.2.n) ≤ 281474976710656 ∧ (convK .i64 y2.2.n) ≤ 9223372036854775807) <|
  Option.bind (slices_Repeat_Lint_int_l1 N y2 N ((min a0.length ((convK .i64 y2.2.n).toNat) : Nat) : Int) (cpy (List.replicate (convK .i64 y2.2.n).toNat (0 : Int)) 0 a0)) fun o37 => match o37 with
  | x36 =>
  (some (x36)))))

def check_numbers_l2 (N : Nat) (a1 : Int) : Nat → Int → (List Int) → Option (Int × (List Int))
  | 0, _, _ => none
  | m + 1, x56, x55 =>
  Option.bind (if decide (0 ≤ x56) then
  (Option.bind (idx x55 x56) fun y75 =>
  some (decide (y75 = a1)))
  else
  (some (false))) fun o71 => match o71 with
  | x70 =>
  (if x70 then
  (Option.bind (idx x55 x56) fun _ =>
  chk (inR (x56 - 1)) <|
  check_numbers_l2 N a1 m (x56 - 1) (x55.set (x56).toNat 1))
  else
  (some ((x56, x55))))
def check_numbers_l1 (N : Nat) (a0 : Int) (a1 : Int) (a2 : (List Int) → σ → Option σ) : Nat → σ → (List Int) → Option (Sum σ σ)
  | 0, _, _ => none
  | m + 1, x18, x19 =>
  Option.bind (slices_Clone_Lint_int N x19) fun y36 =>
  Option.bind (a2 y36 x18) fun y47 =>
  chk (inR (a0 - 1)) <|
  Option.bind (check_numbers_l2 N a1 N (a0 - 1) x19) fun o59 => match o59 with
  | (x58, x57) =>
  (if decide (x58 < 0) then
  (some (.inr (y47)))
  else
  (Option.bind (idx x57 x58) fun y106 =>
  chk (inR (y106 + 1)) <|
  Option.bind (idx x57 x58) fun _ =>
  check_numbers_l1 N a0 a1 a2 m y47 (x57.set (x58).toNat (y106 + 1))))
def check_numbers (N : Nat) (a0 : Int) (a1 : Int) (a2 : (List Int) → σ → Option σ) (q0 : σ) : Option (σ) :=
  Option.bind (slices_Repeat_Lint_int N ([1] : List Int) a0) fun y7 =>
  Option.bind (check_numbers_l1 N a0 a1 a2 N q0 y7) fun o21 => match o21 with
  | .inl x20 =>
  (some (x20))
  | .inr r => some r

def cmp_Or_int_l1 (N : Nat) (a0 : List Int) : Nat → Int → Option (Sum Unit Int)
  | 0, _ => none
  | m + 1, x1 =>
  if decide (x1 < (a0.length : Int)) then
  (Option.bind (idx a0 x1) fun y12 =>
  if !decide (y12 = 0) then
  (some (.inr (y12)))
  else
  (chk (inR (x1 + 1)) <|
  cmp_Or_int_l1 N a0 m (x1 + 1)))
  else
  (some (Sum.inl ()))
def cmp_Or_int (N : Nat) (a0 : List Int) : Option (Int) :=
  Option.bind (cmp_Or_int_l1 N a0 N 0) fun o2 => match o2 with
  | .inl () =>
  (some (0))
  | .inr r => some r

def cmp_isNaN_uint64 (_N : Nat) (a0 : U64) : Option (Bool) :=
  some (!decide (a0.n = a0.n))

def cmp_Compare_uint64 (N : Nat) (a0 : U64) (a1 : U64) : Option (Int) :=
  Option.bind (cmp_isNaN_uint64 N a0) fun y1 =>
  Option.bind (cmp_isNaN_uint64 N a1) fun y8 =>
  if y1 then
  (if y8 then
  (some (0))
  else
  (some (-1)))
  else
  (if y8 then
  (some (1))
  else
  (if decide (a0.n < a1.n) then
  (some (-1))
  else
  (if decide (a1.n < a0.n) then
  (some (1))
  else
  (some (0)))))

def check_Loss_compare (N : Nat) (a0 : Loss) (a1 : Loss) : Option (Int) :=
  Option.bind (math_bits_Mul64 N (⟨convK .u64 a0.Num⟩ : U64) (⟨convK .u64 a1.Den⟩ : U64)) fun y15 =>
  Option.bind (math_bits_Mul64 N (⟨convK .u64 a1.Num⟩ : U64) (⟨convK .u64 a0.Den⟩ : U64)) fun y30 =>
  Option.bind (cmp_Compare_uint64 N y15.1 y30.1) fun y41 =>
  Option.bind (cmp_Compare_uint64 N y15.2 y30.2) fun y48 =>
  Option.bind (cmp_Or_int N ([y41, y48] : List Int)) fun y61 =>
  some (y61)

def check_Best_1 (N : Nat) (a0 : List Int) (a1 : List Level) (a2 : Int) (a3 : Int) (a4 : Loss) (a5 : List Int) : Option (Int × Loss × (List Int)) :=
  Option.bind (check_lose N a1 a2 a0) fun y5 =>
  Option.bind (if decide (a3 = 0) then
  (some (true))
  else
  (Option.bind (check_Loss_compare N y5 a4) fun y37 =>
  some (decide (y37 < 0)))) fun o27 => match o27 with
  | x26 =>
  (if x26 then
  (some ((a2, y5, a0)))
  else
  (some ((a3, a4, a5))))

def check_Best_l1 (N : Nat) (a0 : List Level) (a1 : Int) (a2 : Int) : Nat → Int → Int → (List Int) → Loss → Option (Int × (List Int))
  | 0, _, _, _, _ => none
  | m + 1, x79, x76, x77, x78 =>
  if decide (x79 ≤ a1) then
  (Option.bind (chk (inR ((a0.length : Int) - 1)) <|
  Option.bind (check_numbers N ((a0.length : Int) - 1) a2 (fun x q => check_Best_1 N x a0 x79 q.1 q.2.1 q.2.2) (x76, x78, x77)) fun y113 =>
  some ((y113.1, y113.2.2, y113.2.1))) fun o106 => match o106 with
  | (x103, x104, x105) =>
  (chk (inR (x79 + 1)) <|
  check_Best_l1 N a0 a1 a2 m (x79 + 1) x103 x104 x105))
  else
  (some ((x76, x77)))
def check_Best (N : Nat) (a0 : List Level) (a1 : Int) (a2 : Int) : Option (Int × (List Int) × Int) :=
  Option.bind (check_levelled N a0) fun y8 =>
  if !decide (y8 = 0) then
  (some ((0, ([] : List Int), y8)))
  else
  (Option.bind (if decide (a1 < 1) then
  (some (true))
  else
  (if decide (4096 < a1) then
  (some (true))
  else
  (if decide (a2 < 1) then
  (some (true))
  else
  (some (decide (8 < a2)))))) fun o17 => match o17 with
  | x16 =>
  (if x16 then
  (some ((0, ([] : List Int), 3)))
  else
  (Option.bind (check_Best_l1 N a0 a1 a2 N 1 0 ([] : List Int) (⟨0, 0⟩ : Loss)) fun o83 => match o83 with
  | (x81, x82) =>
  (some ((x81, x82, 0))))))

def ref14_Less : (N : Nat) → Loss → Loss → Option (Bool)
  | 0, _, _ => none
  | N + 1, a0, a1 =>
  chk (a0.Den ≠ (0 : Int) ∧ inR (Int.tdiv a0.Num a0.Den)) <|
  chk (a1.Den ≠ (0 : Int) ∧ inR (Int.tdiv a1.Num a1.Den)) <|
  if !decide ((Int.tdiv a0.Num a0.Den) = (Int.tdiv a1.Num a1.Den)) then
  (some (decide ((Int.tdiv a0.Num a0.Den) < (Int.tdiv a1.Num a1.Den))))
  else
  (chk (a0.Den ≠ (0 : Int)) <|
  chk (a1.Den ≠ (0 : Int)) <|
  Option.bind (if decide ((Int.tmod a0.Num a0.Den) = 0) then
  (some (true))
  else
  (some (decide ((Int.tmod a1.Num a1.Den) = 0)))) fun o249 => match o249 with
  | x248 =>
  (if x248 then
  (Option.bind (if decide ((Int.tmod a0.Num a0.Den) = 0) then
  (some (!decide ((Int.tmod a1.Num a1.Den) = 0)))
  else
  (some (false))) fun o259 => match o259 with
  | x258 =>
  (some (x258)))
  else
  (Option.bind (ref14_Less N (⟨a1.Den, Int.tmod a1.Num a1.Den⟩ : Loss) (⟨a0.Den, Int.tmod a0.Num a0.Den⟩ : Loss)) fun y277 =>
  some (y277))))

def ref14_Best_l2 (N : Nat) (a0 : List Level) : Nat → Int → (List Int) → Option ((List Int))
  | 0, _, _ => none
  | m + 1, x63, x62 =>
  if decide (x63 < ((((a0.length : Int) - 1).toNat : Nat) : Int)) then
  (Option.bind (idx x62 x63) fun _ =>
  chk (inR (x63 + 1)) <|
  ref14_Best_l2 N a0 m (x63 + 1) (x62.set (x63).toNat 1))
  else
  (some (x62))
def ref14_Best_l4 (N : Nat) (a2 : Int) : Nat → Int → (List Int) → Option (Int × (List Int))
  | 0, _, _ => none
  | m + 1, x295, x294 =>
  Option.bind (if decide (0 ≤ x295) then
  (Option.bind (idx x294 x295) fun y315 =>
  some (decide (y315 = a2)))
  else
  (some (false))) fun o311 => match o311 with
  | x310 =>
  (if x310 then
  (Option.bind (idx x294 x295) fun _ =>
  chk (inR (x295 - 1)) <|
  ref14_Best_l4 N a2 m (x295 - 1) (x294.set (x295).toNat 1))
  else
  (some ((x295, x294))))
def ref14_Best_l5 (N : Nat) (a2 : Int) : Nat → Int → (List Int) → Option (Int × (List Int))
  | 0, _, _ => none
  | m + 1, x361, x360 =>
  Option.bind (if decide (0 ≤ x361) then
  (Option.bind (idx x360 x361) fun y380 =>
  some (decide (y380 = a2)))
  else
  (some (false))) fun o376 => match o376 with
  | x375 =>
  (if x375 then
  (Option.bind (idx x360 x361) fun _ =>
  chk (inR (x361 - 1)) <|
  ref14_Best_l5 N a2 m (x361 - 1) (x360.set (x361).toNat 1))
  else
  (some ((x361, x360))))
def ref14_Best_l3 (N : Nat) (a0 : List Level) (a2 : Int) (x37 : Int) : Nat → Int → (List Int) → Loss → (List Int) → Option (Int × (List Int) × Loss)
  | 0, _, _, _, _ => none
  | m + 1, x96, x97, x94, x95 =>
  Option.bind (ref14_loss N a0 x37 x95) fun y119 =>
  Option.bind (if decide (x96 = 0) then
  (some (true))
  else
  (Option.bind (ref14_Less N y119 x94) fun y150 =>
  some (y150))) fun o142 => match o142 with
  | x141 =>
  (if x141 then
  (chk ((([] : List Int).length + x95.length) * 8 ≤ 140737488355328 ∧ ([] : List Int).length + x95.length ≤ maxLen) <|
  chk (inR (((((a0.length : Int) - 1).toNat : Nat) : Int) - 1)) <|
  Option.bind (ref14_Best_l4 N a2 N (((((a0.length : Int) - 1).toNat : Nat) : Int) - 1) x95) fun o298 => match o298 with
  | (x297, x296) =>
  (if decide (x297 < 0) then
  (some ((x37, ([] : List Int) ++ x95, y119)))
  else
  (Option.bind (idx x296 x297) fun y348 =>
  chk (inR (y348 + 1)) <|
  Option.bind (idx x296 x297) fun _ =>
  ref14_Best_l3 N a0 a2 x37 m x37 (([] : List Int) ++ x95) y119 (x296.set (x297).toNat (y348 + 1)))))
  else
  (chk (inR (((((a0.length : Int) - 1).toNat : Nat) : Int) - 1)) <|
  Option.bind (ref14_Best_l5 N a2 N (((((a0.length : Int) - 1).toNat : Nat) : Int) - 1) x95) fun o364 => match o364 with
  | (x363, x362) =>
  (if decide (x363 < 0) then
  (some ((x96, x97, x94)))
  else
  (Option.bind (idx x362 x363) fun y411 =>
  chk (inR (y411 + 1)) <|
  Option.bind (idx x362 x363) fun _ =>
  ref14_Best_l3 N a0 a2 x37 m x96 x97 x94 (x362.set (x363).toNat (y411 + 1))))))
def ref14_Best_l1 (N : Nat) (a0 : List Level) (a1 : Int) (a2 : Int) : Nat → Int → (List Int) → Int → Loss → Option (Int × (List Int))
  | 0, _, _, _, _ => none
  | m + 1, x34, x35, x37, x33 =>
  if decide (x37 ≤ a1) then
  (chk (inR ((a0.length : Int) - 1)) <|
  chk ((0 : Int) ≤ ((a0.length : Int) - 1) ∧ (8 : Int) * ((a0.length : Int) - 1) ≤ 281474976710656 ∧ ((a0.length : Int) - 1) ≤ 9223372036854775807) <|
  Option.bind (ref14_Best_l2 N a0 N 0 (List.replicate ((a0.length : Int) - 1).toNat (0 : Int))) fun o65 => match o65 with
  | x64 =>
  (Option.bind (ref14_Best_l3 N a0 a2 x37 N x34 x35 x33 x64) fun o103 => match o103 with
  | (x100, x101, x99) =>
  (chk (inR (x37 + 1)) <|
  ref14_Best_l1 N a0 a1 a2 m x100 x101 (x37 + 1) x99)))
  else
  (some ((x34, x35)))
def ref14_Best (N : Nat) (a0 : List Level) (a1 : Int) (a2 : Int) : Option (Int × (List Int) × Int) :=
  Option.bind (ref14_levels N a0) fun y1 =>
  if !decide (y1 = 0) then
  (some ((0, ([] : List Int), y1)))
  else
  (Option.bind (if decide (a1 < 1) then
  (some (true))
  else
  (if decide (4096 < a1) then
  (some (true))
  else
  (if decide (a2 < 1) then
  (some (true))
  else
  (some (decide (8 < a2)))))) fun o10 => match o10 with
  | x9 =>
  (if x9 then
  (some ((0, ([] : List Int), 3)))
  else
  (Option.bind (ref14_Best_l1 N a0 a1 a2 N 0 ([] : List Int) 1 (⟨0, 0⟩ : Loss)) fun o41 => match o41 with
  | (x38, x39) =>
  (some ((x38, x39, 0))))))

def ref01_SameInts_l1 (N : Nat) (a0 : List Int) (a1 : List Int) : Nat → Int → Option (Sum Unit Bool)
  | 0, _ => none
  | m + 1, x2 =>
  if decide (x2 < (a0.length : Int)) then
  (Option.bind (idx a0 x2) fun y13 =>
  Option.bind (idx a1 x2) fun y17 =>
  if !decide (y13 = y17) then
  (some (.inr (false)))
  else
  (chk (inR (x2 + 1)) <|
  ref01_SameInts_l1 N a0 a1 m (x2 + 1)))
  else
  (some (Sum.inl ()))
def ref01_SameInts (N : Nat) (a0 : List Int) (a1 : List Int) : Option (Bool) :=
  if !decide ((a0.length : Int) = (a1.length : Int)) then
  (some (false))
  else
  (Option.bind (ref01_SameInts_l1 N a0 a1 N 0) fun o3 => match o3 with
  | .inl () =>
  (some (true))
  | .inr r => some r)

def law14_CheckLosses (N : Nat) (a0 : List Level) (a1 : Int) (a2 : List Int) (a3 : Int) (a4 : Int) : Option (Bool) :=
  Option.bind (if decide (10 < (a0.length : Int)) then
  (some (true))
  else
  (if decide (10 < (a2.length : Int)) then
  (some (true))
  else
  (if decide (60 < a3) then
  (if decide (a3 ≤ 4096) then
  (some (true))
  else
  (if decide (4 < a4) then
  (some (decide (a4 ≤ 8)))
  else
  (some (false))))
  else
  (if decide (4 < a4) then
  (some (decide (a4 ≤ 8)))
  else
  (some (false)))))) fun o2 => match o2 with
  | x1 =>
  (if x1 then
  (Option.bind (law14_works N ) fun y16 =>
  some (y16))
  else
  (Option.bind (law14_levels N a0) fun y23 =>
  Option.bind (check_Lose N y23 a1 a2) fun y30 =>
  Option.bind (ref14_Lose N a0 a1 a2) fun y51 =>
  Option.bind (if !decide (y30.1.Num = y51.1.Num) then
  (some (true))
  else
  (if !decide (y30.1.Den = y51.1.Den) then
  (some (true))
  else
  (some (!decide (y30.2 = y51.2))))) fun o73 => match o73 with
  | x72 =>
  (if x72 then
  (some (false))
  else
  (Option.bind (law14_levels N a0) fun y91 =>
  Option.bind (check_Best N y91 a3 a4) fun y98 =>
  Option.bind (ref14_Best N a0 a3 a4) fun y111 =>
  if decide (y98.1 = y111.1) then
  (Option.bind (ref01_SameInts N y98.2.1 y111.2.1) fun y125 =>
  if y125 then
  (if decide (y98.2.2 = y111.2.2) then
  (Option.bind (law14_works N ) fun y134 =>
  some (y134))
  else
  (some (false)))
  else
  (some (false)))
  else
  (some (false))))))

end Go.Arm
