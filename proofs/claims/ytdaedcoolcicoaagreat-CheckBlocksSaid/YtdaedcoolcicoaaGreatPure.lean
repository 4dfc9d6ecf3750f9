/- A part of the proof. -/
import Derived.Test.YtdaedcoolcicoaaGreatHand
namespace Go.Arm
open Go Go.RowKit Go.Proofs
variable {σ : Type}
def law14_few_l1 (N : Nat) (a0 : List (List U8)) : Nat → Int → Int → Option (Int)
  | 0, _, _ => none
  | m + 1, x1, x2 =>
  if decide (x2 < (a0.length : Int)) then
  (Option.bind (idx a0 x2) fun y14 =>
  chk (inR (x2 + 1)) <|
  law14_few_l1 N a0 m (addK .i64 x1 (y14.length : Int)) (x2 + 1))
  else
  (some (x1))
def law14_few (N : Nat) (a0 : List (List U8)) : Option (Bool) :=
  Option.bind (law14_few_l1 N a0 N 0 0) fun o4 => match o4 with
  | x3 =>
  (if decide ((a0.length : Int) ≤ 40) then
  (some (decide (x3 ≤ 2000)))
  else
  (some (false)))

def law14_equal_l1 (N : Nat) (a0 : List (List U8)) (a1 : List (List U8)) : Nat → Int → Option (Sum Unit Bool)
  | 0, _ => none
  | m + 1, x2 =>
  if decide (x2 < (a0.length : Int)) then
  (Option.bind (idx a0 x2) fun y13 =>
  Option.bind (idx a1 x2) fun y19 =>
  if !decide ((txtOf y13) = (txtOf y19)) then
  (some (.inr (false)))
  else
  (chk (inR (x2 + 1)) <|
  law14_equal_l1 N a0 a1 m (x2 + 1)))
  else
  (some (Sum.inl ()))
def law14_equal (N : Nat) (a0 : List (List U8)) (a1 : List (List U8)) : Option (Bool) :=
  if !decide ((a0.length : Int) = (a1.length : Int)) then
  (some (false))
  else
  (Option.bind (law14_equal_l1 N a0 a1 N 0) fun o3 => match o3 with
  | .inl () =>
  (some (true))
  | .inr r => some r)

def slices_IndexFunc_LLbyte_Lbyte_l1 (N : Nat) (a0 : List (List U8)) (a1 : (List U8) → Option Bool) : Nat → Int → Option (Sum Unit Int)
  | 0, _ => none
  | m + 1, x1 =>
  if decide (x1 < (a0.length : Int)) then
  (Option.bind (idx a0 x1) fun y12 =>
  Option.bind (a1 y12) fun y18 =>
  if y18 then
  (some (.inr (x1)))
  else
  (chk (inR (x1 + 1)) <|
  slices_IndexFunc_LLbyte_Lbyte_l1 N a0 a1 m (x1 + 1)))
  else
  (some (Sum.inl ()))
def slices_IndexFunc_LLbyte_Lbyte (N : Nat) (a0 : List (List U8)) (a1 : (List U8) → Option Bool) : Option (Int) :=
  Option.bind (slices_IndexFunc_LLbyte_Lbyte_l1 N a0 a1 N 0) fun o2 => match o2 with
  | .inl () =>
  (some (-1))
  | .inr r => some r

def slices_ContainsFunc_LLbyte_Lbyte (N : Nat) (a0 : List (List U8)) (a1 : (List U8) → Option Bool) : Option (Bool) :=
  Option.bind (slices_IndexFunc_LLbyte_Lbyte N a0 a1) fun y1 =>
  some (decide (0 ≤ y1))

def check_sized_1 (_N : Nat) (a0 : List U8) (a1 : List (List U8)) : Option (Bool) :=
  Option.bind (idx a1 0) fun y3 =>
  some (!decide ((a0.length : Int) = (y3.length : Int)))

def check_sized (N : Nat) (a0 : List (List U8)) : Option (Int) :=
  Option.bind (idx a0 0) fun y8 =>
  if decide (65536 < (y8.length : Int)) then
  (some (8))
  else
  (Option.bind (slices_ContainsFunc_LLbyte_Lbyte N a0 (fun x => check_sized_1 N x a0)) fun y17 =>
  if y17 then
  (some (26))
  else
  (some (0)))

def ref14_times_l1 (N : Nat) (a1 : U8) : Nat → Int → Int → Int → Option (Int)
  | 0, _, _, _ => none
  | m + 1, x2, x3, x4 =>
  if decide (x4 < 8) then
  (chk (inR (a1.n)) <|
  chk ((0 : Int) ≤ x4) <|
  chk (2 ≠ (0 : Int)) <|
  if decide ((Int.tmod (shrK .i64 a1.n x4) 2) = 1) then
  (chk (inR (x2 * 2)) <|
  if decide (255 < (x2 * 2)) then
  (chk (inR (x4 + 1)) <|
  ref14_times_l1 N a1 m (xorK .i64 (x2 * 2) 285) (xorK .i64 x3 x2) (x4 + 1))
  else
  (chk (inR (x4 + 1)) <|
  ref14_times_l1 N a1 m (x2 * 2) (xorK .i64 x3 x2) (x4 + 1)))
  else
  (chk (inR (x2 * 2)) <|
  if decide (255 < (x2 * 2)) then
  (chk (inR (x4 + 1)) <|
  ref14_times_l1 N a1 m (xorK .i64 (x2 * 2) 285) x3 (x4 + 1))
  else
  (chk (inR (x4 + 1)) <|
  ref14_times_l1 N a1 m (x2 * 2) x3 (x4 + 1))))
  else
  (some (x3))
def ref14_times (N : Nat) (a0 : U8) (a1 : U8) : Option (U8) :=
  chk (inR (a0.n)) <|
  Option.bind (ref14_times_l1 N a1 N a0.n 0 0) fun o6 => match o6 with
  | x5 =>
  (some ((⟨convK .u8 x5⟩ : U8)))

def ref14_combined_l2 (N : Nat) (a0 : List U8) (a1 : List (List U8)) (y1 : List U8) (x15 : Int) : Nat → Int → (List U8) → Option ((List U8))
  | 0, _, _ => none
  | m + 1, x29, x28 =>
  if decide (x29 < ((((y1.length : Int)).toNat : Nat) : Int)) then
  (Option.bind (idx x28 x29) fun y42 =>
  Option.bind (idx a0 x15) fun y46 =>
  Option.bind (idx a1 x15) fun y50 =>
  Option.bind (idx y50 x29) fun y56 =>
  Option.bind (ref14_times N y46 y56) fun y60 =>
  Option.bind (idx x28 x29) fun _ =>
  chk (inR (x29 + 1)) <|
  ref14_combined_l2 N a0 a1 y1 x15 m (x29 + 1) (x28.set (x29).toNat (⟨xorK .u8 y42.n y60.n⟩ : U8)))
  else
  (some (x28))
def ref14_combined_l1 (N : Nat) (a0 : List U8) (a1 : List (List U8)) (y1 : List U8) : Nat → Int → (List U8) → Option ((List U8))
  | 0, _, _ => none
  | m + 1, x15, x14 =>
  if decide (x15 < (a0.length : Int)) then
  (Option.bind (ref14_combined_l2 N a0 a1 y1 x15 N 0 x14) fun o31 => match o31 with
  | x30 =>
  (chk (inR (x15 + 1)) <|
  ref14_combined_l1 N a0 a1 y1 m (x15 + 1) x30))
  else
  (some (x14))
def ref14_combined (N : Nat) (a0 : List U8) (a1 : List (List U8)) : Option ((List U8)) :=
  Option.bind (idx a1 0) fun y1 =>
  chk ((0 : Int) ≤ (y1.length : Int) ∧ (1 : Int) * (y1.length : Int) ≤ 281474976710656 ∧ (y1.length : Int) ≤ 9223372036854775807) <|
  Option.bind (ref14_combined_l1 N a0 a1 y1 N 0 (List.replicate ((y1.length : Int)).toNat (⟨0⟩ : U8))) fun o17 => match o17 with
  | x16 =>
  (some (x16))

def ref14_inverse_l1 (N : Nat) (a0 : U8) : Nat → Int → Option (Sum Unit U8)
  | 0, _ => none
  | m + 1, x1 =>
  if decide (x1 < 256) then
  (Option.bind (ref14_times N a0 (⟨convK .u8 x1⟩ : U8)) fun y12 =>
  if decide (y12.n = (⟨1⟩ : U8).n) then
  (some (.inr ((⟨convK .u8 x1⟩ : U8))))
  else
  (chk (inR (x1 + 1)) <|
  ref14_inverse_l1 N a0 m (x1 + 1)))
  else
  (some (Sum.inl ()))
def ref14_inverse (N : Nat) (a0 : U8) : Option (U8) :=
  Option.bind (ref14_inverse_l1 N a0 N 1) fun o2 => match o2 with
  | .inl () =>
  (some ((⟨0⟩ : U8)))
  | .inr r => some r

def ref14_factor (N : Nat) (a0 : Int) (a1 : Int) : Option (U8) :=
  chk (inR (16 + a1)) <|
  Option.bind (ref14_inverse N (⟨convK .u8 (xorK .i64 a0 (16 + a1))⟩ : U8)) fun y2 =>
  some (y2)

def ref14_weights_l1 (N : Nat) (a0 : Int) (a1 : Int) : Nat → Int → (List U8) → Option ((List U8))
  | 0, _, _ => none
  | m + 1, x9, x8 =>
  if decide (x9 < a1) then
  (if decide (a1 ≤ a0) then
  (chk (inR (a0 - a1)) <|
  Option.bind (ref14_factor N (a0 - a1) x9) fun y24 =>
  Option.bind (idx x8 x9) fun _ =>
  chk (inR (x9 + 1)) <|
  ref14_weights_l1 N a0 a1 m (x9 + 1) (x8.set (x9).toNat y24))
  else
  (chk (inR (x9 + 1)) <|
  ref14_weights_l1 N a0 a1 m (x9 + 1) x8))
  else
  (some (x8))
def ref14_weights (N : Nat) (a0 : Int) (a1 : Int) : Option ((List U8)) :=
  chk ((0 : Int) ≤ a1 ∧ (1 : Int) * a1 ≤ 281474976710656 ∧ a1 ≤ 9223372036854775807) <|
  Option.bind (ref14_weights_l1 N a0 a1 N 0 (List.replicate (a1).toNat (⟨0⟩ : U8))) fun o11 => match o11 with
  | x10 =>
  (if decide (a0 < a1) then
  (Option.bind (idx x10 a0) fun _ =>
  some (x10.set (a0).toNat (⟨1⟩ : U8)))
  else
  (some (x10)))

def ref14_Parity_l1 (N : Nat) (a0 : List (List U8)) : Nat → Int → Option (Sum Unit ((List (List U8)) × Int))
  | 0, _ => none
  | m + 1, x20 =>
  if decide (x20 < (a0.length : Int)) then
  (Option.bind (idx a0 x20) fun y31 =>
  Option.bind (idx a0 0) fun y37 =>
  if !decide ((y31.length : Int) = (y37.length : Int)) then
  (some (.inr ((([] : List (List U8)), (26 : Int)))))
  else
  (chk (inR (x20 + 1)) <|
  ref14_Parity_l1 N a0 m (x20 + 1)))
  else
  (some (Sum.inl ()))
def ref14_Parity_l2 (N : Nat) (a0 : List (List U8)) (a1 : Int) : Nat → (List (List U8)) → Int → Option ((List (List U8)))
  | 0, _, _ => none
  | m + 1, x153, x155 =>
  if decide (x155 < a1) then
  (chk (inR ((a0.length : Int) + x155)) <|
  Option.bind (ref14_weights N ((a0.length : Int) + x155) (a0.length : Int)) fun y170 =>
  Option.bind (ref14_combined N y170 a0) fun y177 =>
  chk ((x153.length + ([y177] : List (List U8)).length) * 24 ≤ 140737488355328 ∧ x153.length + ([y177] : List (List U8)).length ≤ maxLen) <|
  chk (inR (x155 + 1)) <|
  ref14_Parity_l2 N a0 a1 m (x153 ++ ([y177] : List (List U8))) (x155 + 1))
  else
  (some (x153))
def ref14_Parity (N : Nat) (a0 : List (List U8)) (a1 : Int) : Option ((List (List U8)) × Int) :=
  Option.bind (if decide ((a0.length : Int) < 1) then
  (some (true))
  else
  (if decide (16 < (a0.length : Int)) then
  (some (true))
  else
  (if decide (a1 < 0) then
  (some (true))
  else
  (some (decide (16 < a1)))))) fun o2 => match o2 with
  | x1 =>
  (if x1 then
  (some ((([] : List (List U8)), (3 : Int))))
  else
  (Option.bind (idx a0 0) fun y13 =>
  if decide (65536 < (y13.length : Int)) then
  (some ((([] : List (List U8)), (8 : Int))))
  else
  (Option.bind (ref14_Parity_l1 N a0 N 0) fun o21 => match o21 with
  | .inl () =>
  (Option.bind (ref14_Parity_l2 N a0 a1 N ([] : List (List U8)) 0) fun o158 => match o158 with
  | x156 =>
  (some ((x156, 0))))
  | .inr r => some r)))

def ref14_Divide_l1 (N : Nat) (a1 : Int) : Nat → (List U8) → Option ((List U8))
  | 0, _ => none
  | m + 1, x30 =>
  chk (a1 ≠ (0 : Int)) <|
  if !decide ((Int.tmod (x30.length : Int) a1) = 0) then
  (chk ((x30.length + ([(⟨0⟩ : U8)] : List U8).length) * 1 ≤ 140737488355328 ∧ x30.length + ([(⟨0⟩ : U8)] : List U8).length ≤ maxLen) <|
  ref14_Divide_l1 N a1 m (x30 ++ ([(⟨0⟩ : U8)] : List U8)))
  else
  (some (x30))
def ref14_Divide_l2 (N : Nat) (a1 : Int) (x32 : List U8) : Nat → (List (List U8)) → Int → Option ((List (List U8)))
  | 0, _, _ => none
  | m + 1, x69, x71 =>
  if decide (x71 < a1) then
  (chk (inR (x71 * (Int.tdiv (x32.length : Int) a1))) <|
  chk (inR (x71 + 1)) <|
  chk (inR ((x71 + 1) * (Int.tdiv (x32.length : Int) a1))) <|
  Option.bind (cut x32 (x71 * (Int.tdiv (x32.length : Int) a1)) ((x71 + 1) * (Int.tdiv (x32.length : Int) a1))) fun y91 =>
  chk ((x69.length + ([y91] : List (List U8)).length) * 24 ≤ 140737488355328 ∧ x69.length + ([y91] : List (List U8)).length ≤ maxLen) <|
  chk (inR (x71 + 1)) <|
  ref14_Divide_l2 N a1 x32 m (x69 ++ ([y91] : List (List U8))) (x71 + 1))
  else
  (some (x69))
def ref14_Divide (N : Nat) (a0 : List U8) (a1 : Int) (a2 : Int) : Option ((List (List U8)) × Int) :=
  Option.bind (if decide (a1 < 1) then
  (some (true))
  else
  (if decide (16 < a1) then
  (some (true))
  else
  (if decide (a2 < 0) then
  (some (true))
  else
  (some (decide (16 < a2)))))) fun o2 => match o2 with
  | x1 =>
  (if x1 then
  (some ((([] : List (List U8)), (3 : Int))))
  else
  (chk (inR ((a0.length : Int) + 4)) <|
  chk (inR (a1 * 65536)) <|
  if decide ((a1 * 65536) < ((a0.length : Int) + 4)) then
  (some ((([] : List (List U8)), (8 : Int))))
  else
  (chk (16777216 ≠ (0 : Int) ∧ inR (Int.tdiv (a0.length : Int) 16777216)) <|
  chk (65536 ≠ (0 : Int) ∧ inR (Int.tdiv (a0.length : Int) 65536)) <|
  chk (256 ≠ (0 : Int) ∧ inR (Int.tdiv (a0.length : Int) 256)) <|
  chk ((([(⟨convK .u8 (Int.tdiv (a0.length : Int) 16777216)⟩ : U8), (⟨convK .u8 (Int.tdiv (a0.length : Int) 65536)⟩ : U8), (⟨convK .u8 (Int.tdiv (a0.length : Int) 256)⟩ : U8), (⟨convK .u8 (a0.length : Int)⟩ : U8)] : List U8).length + a0.length) * 1 ≤ 140737488355328 ∧ ([(⟨convK .u8 (Int.tdiv (a0.length : Int) 16777216)⟩ : U8), (⟨convK .u8 (Int.tdiv (a0.length : Int) 65536)⟩ : U8), (⟨convK .u8 (Int.tdiv (a0.length : Int) 256)⟩ : U8), (⟨convK .u8 (a0.length : Int)⟩ : U8)] : List U8).length + a0.length ≤ maxLen) <|
  Option.bind (ref14_Divide_l1 N a1 N (([(⟨convK .u8 (Int.tdiv (a0.length : Int) 16777216)⟩ : U8), (⟨convK .u8 (Int.tdiv (a0.length : Int) 65536)⟩ : U8), (⟨convK .u8 (Int.tdiv (a0.length : Int) 256)⟩ : U8), (⟨convK .u8 (a0.length : Int)⟩ : U8)] : List U8) ++ a0)) fun o34 => match o34 with
  | x32 =>
  (chk (a1 ≠ (0 : Int) ∧ inR (Int.tdiv (x32.length : Int) a1)) <|
  Option.bind (ref14_Divide_l2 N a1 x32 N ([] : List (List U8)) 0) fun o74 => match o74 with
  | x72 =>
  (Option.bind (ref14_Parity N x72 a2) fun y118 =>
  chk ((x72.length + y118.1.length) * 24 ≤ 140737488355328 ∧ x72.length + y118.1.length ≤ maxLen) <|
  some ((x72 ++ y118.1, y118.2)))))))

def check_field_inverse (_N : Nat) (a0 : Field) (a1 : U8) : Option (U8) :=
  Option.bind (idx a0.log.l a1.n) fun y3 =>
  chk (inR (255 - y3)) <|
  Option.bind (idx a0.power.l (255 - y3)) fun y10 =>
  some (y10)

def check_field_row_l1 (N : Nat) (a0 : Field) (a1 : Int) (a2 : Int) : Nat → Int → (List U8) → Option ((List U8))
  | 0, _, _ => none
  | m + 1, x21, x20 =>
  if decide (x21 < (((a2).toNat : Nat) : Int)) then
  (chk (inR (a1 - a2)) <|
  chk (inR (16 + x21)) <|
  Option.bind (check_field_inverse N a0 (⟨convK .u8 (xorK .i64 (a1 - a2) (16 + x21))⟩ : U8)) fun y36 =>
  Option.bind (idx x20 x21) fun _ =>
  chk (inR (x21 + 1)) <|
  check_field_row_l1 N a0 a1 a2 m (x21 + 1) (x20.set (x21).toNat y36))
  else
  (some (x20))
def check_field_row (N : Nat) (a0 : Field) (a1 : Int) (a2 : Int) : Option ((List U8)) :=
  chk ((0 : Int) ≤ a2 ∧ (1 : Int) * a2 ≤ 281474976710656 ∧ a2 ≤ 9223372036854775807) <|
  if decide (a1 < a2) then
  (Option.bind (idx (List.replicate (a2).toNat (⟨0⟩ : U8)) a1) fun _ =>
  some ((List.replicate (a2).toNat (⟨0⟩ : U8)).set (a1).toNat (⟨1⟩ : U8)))
  else
  (Option.bind (check_field_row_l1 N a0 a1 a2 N 0 (List.replicate (a2).toNat (⟨0⟩ : U8))) fun o23 => match o23 with
  | x22 =>
  (some (x22)))

def slices_Clone_Lbyte_byte (_N : Nat) (a0 : List U8) : Option ((List U8)) :=
  chk ((([] : List U8).length + a0.length) * 1 ≤ 140737488355328 ∧ ([] : List U8).length + a0.length ≤ maxLen) <|
  some (([] : List U8) ++ a0)

def check_field_solve_1 (_N : Nat) (a0 : List U8) (a1 : Int) : Option (Bool) :=
  Option.bind (idx a0 a1) fun y1 =>
  some (!decide (y1.n = (⟨0⟩ : U8).n))

def check_field_mul (_N : Nat) (a0 : Field) (a1 : U8) (a2 : U8) : Option (U8) :=
  Option.bind (if decide (a1.n = (⟨0⟩ : U8).n) then
  (some (true))
  else
  (some (decide (a2.n = (⟨0⟩ : U8).n)))) fun o2 => match o2 with
  | x1 =>
  (if x1 then
  (some ((⟨0⟩ : U8)))
  else
  (Option.bind (idx a0.log.l a1.n) fun y13 =>
  Option.bind (idx a0.log.l a2.n) fun y19 =>
  chk (inR (y13 + y19)) <|
  Option.bind (idx a0.power.l (y13 + y19)) fun y26 =>
  some (y26)))

end Go.Arm
