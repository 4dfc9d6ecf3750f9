/- A part of the proof. -/
import Derived.Test.YtdaedcoolcicoaaGreatHand
namespace Go.Arm
open Go Go.RowKit Go.Proofs
variable {σ : Type}
def slices_IndexFunc_LLbyte_Lbyte_l1 (N : Nat) (a0 : List (List U8)) (a1 : (List U8) → Option Bool) : Nat → Int → Option (Sum Unit Int)
  | 0, _ => none
  | m + 1, x1 =>
  if decide (x1 < (a0.length : Int)) then
  (Option.bind (idx a0 x1) fun y12 =>
  Option.bind (a1 y12) fun y18 =>
  if y18 then
  (some (.inr (x1)))
  else
  (chk (inR (x1 + 1)) <|
  slices_IndexFunc_LLbyte_Lbyte_l1 N a0 a1 m (x1 + 1)))
  else
  (some (Sum.inl ()))
def slices_IndexFunc_LLbyte_Lbyte (N : Nat) (a0 : List (List U8)) (a1 : (List U8) → Option Bool) : Option (Int) :=
  Option.bind (slices_IndexFunc_LLbyte_Lbyte_l1 N a0 a1 N 0) fun o2 => match o2 with
  | .inl () =>
  (some (-1))
  | .inr r => some r

def slices_ContainsFunc_LLbyte_Lbyte (N : Nat) (a0 : List (List U8)) (a1 : (List U8) → Option Bool) : Option (Bool) :=
  Option.bind (slices_IndexFunc_LLbyte_Lbyte N a0 a1) fun y1 =>
  some (decide (0 ≤ y1))

def check_sized_1 (_N : Nat) (a0 : List U8) (a1 : List (List U8)) : Option (Bool) :=
  Option.bind (idx a1 0) fun y3 =>
  some (!decide ((a0.length : Int) = (y3.length : Int)))

def check_sized (N : Nat) (a0 : List (List U8)) : Option (Int) :=
  Option.bind (idx a0 0) fun y8 =>
  if decide (65536 < (y8.length : Int)) then
  (some (8))
  else
  (Option.bind (slices_ContainsFunc_LLbyte_Lbyte N a0 (fun x => check_sized_1 N x a0)) fun y17 =>
  if y17 then
  (some (26))
  else
  (some (0)))

def math_bits_Mul64 (_N : Nat) (a0 : U64) (a1 : U64) : Option (U64 × U64) :=
  chk ((0 : Int) ≤ (⟨32⟩ : U64).n) <|
  chk ((0 : Int) ≤ (⟨32⟩ : U64).n) <|
  chk ((0 : Int) ≤ (⟨32⟩ : U64).n) <|
  chk ((0 : Int) ≤ (⟨32⟩ : U64).n) <|
  chk ((0 : Int) ≤ (⟨32⟩ : U64).n) <|
  some (((⟨addK .u64 (⟨addK .u64 (⟨mulK .u64 (⟨shrK .u64 a0.n (⟨32⟩ : U64).n⟩ : U64).n (⟨shrK .u64 a1.n (⟨32⟩ : U64).n⟩ : U64).n⟩ : U64).n (⟨shrK .u64 (⟨addK .u64 (⟨mulK .u64 (⟨shrK .u64 a0.n (⟨32⟩ : U64).n⟩ : U64).n (⟨andK .u64 a1.n (⟨4294967295⟩ : U64).n⟩ : U64).n⟩ : U64).n (⟨shrK .u64 (⟨mulK .u64 (⟨andK .u64 a0.n (⟨4294967295⟩ : U64).n⟩ : U64).n (⟨andK .u64 a1.n (⟨4294967295⟩ : U64).n⟩ : U64).n⟩ : U64).n (⟨32⟩ : U64).n⟩ : U64).n⟩ : U64).n (⟨32⟩ : U64).n⟩ : U64).n⟩ : U64).n (⟨shrK .u64 (⟨addK .u64 (⟨andK .u64 (⟨addK .u64 (⟨mulK .u64 (⟨shrK .u64 a0.n (⟨32⟩ : U64).n⟩ : U64).n (⟨andK .u64 a1.n (⟨4294967295⟩ : U64).n⟩ : U64).n⟩ : U64).n (⟨shrK .u64 (⟨mulK .u64 (⟨andK .u64 a0.n (⟨4294967295⟩ : U64).n⟩ : U64).n (⟨andK .u64 a1.n (⟨4294967295⟩ : U64).n⟩ : U64).n⟩ : U64).n (⟨32⟩ : U64).n⟩ : U64).n⟩ : U64).n (⟨4294967295⟩ : U64).n⟩ : U64).n (⟨mulK .u64 (⟨andK .u64 a0.n (⟨4294967295⟩ : U64).n⟩ : U64).n (⟨shrK .u64 a1.n (⟨32⟩ : U64).n⟩ : U64).n⟩ : U64).n⟩ : U64).n (⟨32⟩ : U64).n⟩ : U64).n⟩ : U64), (⟨mulK .u64 a0.n a1.n⟩ : U64)))

def math_bits_Mul (N : Nat) (a0 : U64) (a1 : U64) : Option (U64 × U64) :=
  Option.bind (math_bits_Mul64 N a0 a1) fun y2 =>
  some ((y2.1, y2.2))

def ref14_times_l1 (N : Nat) (a1 : U8) : Nat → Int → Int → Int → Option (Int)
  | 0, _, _, _ => none
  | m + 1, x2, x3, x4 =>
  if decide (x4 < 8) then
  (chk (inR (a1.n)) <|
  chk ((0 : Int) ≤ x4) <|
  chk (2 ≠ (0 : Int)) <|
  if decide ((Int.tmod (shrK .i64 a1.n x4) 2) = 1) then
  (chk (inR (x2 * 2)) <|
  if decide (255 < (x2 * 2)) then
  (chk (inR (x4 + 1)) <|
  ref14_times_l1 N a1 m (xorK .i64 (x2 * 2) 285) (xorK .i64 x3 x2) (x4 + 1))
  else
  (chk (inR (x4 + 1)) <|
  ref14_times_l1 N a1 m (x2 * 2) (xorK .i64 x3 x2) (x4 + 1)))
  else
  (chk (inR (x2 * 2)) <|
  if decide (255 < (x2 * 2)) then
  (chk (inR (x4 + 1)) <|
  ref14_times_l1 N a1 m (xorK .i64 (x2 * 2) 285) x3 (x4 + 1))
  else
  (chk (inR (x4 + 1)) <|
  ref14_times_l1 N a1 m (x2 * 2) x3 (x4 + 1))))
  else
  (some (x3))
def ref14_times (N : Nat) (a0 : U8) (a1 : U8) : Option (U8) :=
  chk (inR (a0.n)) <|
  Option.bind (ref14_times_l1 N a1 N a0.n 0 0) fun o6 => match o6 with
  | x5 =>
  (some ((⟨convK .u8 x5⟩ : U8)))

def ref14_combined_l2 (N : Nat) (a0 : List U8) (a1 : List (List U8)) (y1 : List U8) (x15 : Int) : Nat → Int → (List U8) → Option ((List U8))
  | 0, _, _ => none
  | m + 1, x29, x28 =>
  if decide (x29 < ((((y1.length : Int)).toNat : Nat) : Int)) then
  (Option.bind (idx x28 x29) fun y42 =>
  Option.bind (idx a0 x15) fun y46 =>
  Option.bind (idx a1 x15) fun y50 =>
  Option.bind (idx y50 x29) fun y56 =>
  Option.bind (ref14_times N y46 y56) fun y60 =>
  Option.bind (idx x28 x29) fun _ =>
  chk (inR (x29 + 1)) <|
  ref14_combined_l2 N a0 a1 y1 x15 m (x29 + 1) (x28.set (x29).toNat (⟨xorK .u8 y42.n y60.n⟩ : U8)))
  else
  (some (x28))
def ref14_combined_l1 (N : Nat) (a0 : List U8) (a1 : List (List U8)) (y1 : List U8) : Nat → Int → (List U8) → Option ((List U8))
  | 0, _, _ => none
  | m + 1, x15, x14 =>
  if decide (x15 < (a0.length : Int)) then
  (Option.bind (ref14_combined_l2 N a0 a1 y1 x15 N 0 x14) fun o31 => match o31 with
  | x30 =>
  (chk (inR (x15 + 1)) <|
  ref14_combined_l1 N a0 a1 y1 m (x15 + 1) x30))
  else
  (some (x14))
def ref14_combined (N : Nat) (a0 : List U8) (a1 : List (List U8)) : Option ((List U8)) :=
  Option.bind (idx a1 0) fun y1 =>
  chk ((0 : Int) ≤ (y1.length : Int) ∧ (1 : Int) * (y1.length : Int) ≤ 281474976710656 ∧ (y1.length : Int) ≤ 9223372036854775807) <|
  Option.bind (ref14_combined_l1 N a0 a1 y1 N 0 (List.replicate ((y1.length : Int)).toNat (⟨0⟩ : U8))) fun o17 => match o17 with
  | x16 =>
  (some (x16))

def ref14_inverse_l1 (N : Nat) (a0 : U8) : Nat → Int → Option (Sum Unit U8)
  | 0, _ => none
  | m + 1, x1 =>
  if decide (x1 < 256) then
  (Option.bind (ref14_times N a0 (⟨convK .u8 x1⟩ : U8)) fun y12 =>
  if decide (y12.n = (⟨1⟩ : U8).n) then
  (some (.inr ((⟨convK .u8 x1⟩ : U8))))
  else
  (chk (inR (x1 + 1)) <|
  ref14_inverse_l1 N a0 m (x1 + 1)))
  else
  (some (Sum.inl ()))
def ref14_inverse (N : Nat) (a0 : U8) : Option (U8) :=
  Option.bind (ref14_inverse_l1 N a0 N 1) fun o2 => match o2 with
  | .inl () =>
  (some ((⟨0⟩ : U8)))
  | .inr r => some r

def ref14_factor (N : Nat) (a0 : Int) (a1 : Int) : Option (U8) :=
  chk (inR (16 + a1)) <|
  Option.bind (ref14_inverse N (⟨convK .u8 (xorK .i64 a0 (16 + a1))⟩ : U8)) fun y2 =>
  some (y2)

def ref14_weights_l1 (N : Nat) (a0 : Int) (a1 : Int) : Nat → Int → (List U8) → Option ((List U8))
  | 0, _, _ => none
  | m + 1, x9, x8 =>
  if decide (x9 < a1) then
  (if decide (a1 ≤ a0) then
  (chk (inR (a0 - a1)) <|
  Option.bind (ref14_factor N (a0 - a1) x9) fun y24 =>
  Option.bind (idx x8 x9) fun _ =>
  chk (inR (x9 + 1)) <|
  ref14_weights_l1 N a0 a1 m (x9 + 1) (x8.set (x9).toNat y24))
  else
  (chk (inR (x9 + 1)) <|
  ref14_weights_l1 N a0 a1 m (x9 + 1) x8))
  else
  (some (x8))
def ref14_weights (N : Nat) (a0 : Int) (a1 : Int) : Option ((List U8)) :=
  chk ((0 : Int) ≤ a1 ∧ (1 : Int) * a1 ≤ 281474976710656 ∧ a1 ≤ 9223372036854775807) <|
  Option.bind (ref14_weights_l1 N a0 a1 N 0 (List.replicate (a1).toNat (⟨0⟩ : U8))) fun o11 => match o11 with
  | x10 =>
  (if decide (a0 < a1) then
  (Option.bind (idx x10 a0) fun _ =>
  some (x10.set (a0).toNat (⟨1⟩ : U8)))
  else
  (some (x10)))

def check_field_inverse (_N : Nat) (a0 : Field) (a1 : U8) : Option (U8) :=
  Option.bind (idx a0.log.l a1.n) fun y3 =>
  chk (inR (255 - y3)) <|
  Option.bind (idx a0.power.l (255 - y3)) fun y10 =>
  some (y10)

def check_field_row_l1 (N : Nat) (a0 : Field) (a1 : Int) (a2 : Int) : Nat → Int → (List U8) → Option ((List U8))
  | 0, _, _ => none
  | m + 1, x21, x20 =>
  if decide (x21 < (((a2).toNat : Nat) : Int)) then
  (chk (inR (a1 - a2)) <|
  chk (inR (16 + x21)) <|
  Option.bind (check_field_inverse N a0 (⟨convK .u8 (xorK .i64 (a1 - a2) (16 + x21))⟩ : U8)) fun y36 =>
  Option.bind (idx x20 x21) fun _ =>
  chk (inR (x21 + 1)) <|
  check_field_row_l1 N a0 a1 a2 m (x21 + 1) (x20.set (x21).toNat y36))
  else
  (some (x20))
def check_field_row (N : Nat) (a0 : Field) (a1 : Int) (a2 : Int) : Option ((List U8)) :=
  chk ((0 : Int) ≤ a2 ∧ (1 : Int) * a2 ≤ 281474976710656 ∧ a2 ≤ 9223372036854775807) <|
  if decide (a1 < a2) then
  (Option.bind (idx (List.replicate (a2).toNat (⟨0⟩ : U8)) a1) fun _ =>
  some ((List.replicate (a2).toNat (⟨0⟩ : U8)).set (a1).toNat (⟨1⟩ : U8)))
  else
  (Option.bind (check_field_row_l1 N a0 a1 a2 N 0 (List.replicate (a2).toNat (⟨0⟩ : U8))) fun o23 => match o23 with
  | x22 =>
  (some (x22)))

def slices_Clone_Lbyte_byte (_N : Nat) (a0 : List U8) : Option ((List U8)) :=
  chk ((([] : List U8).length + a0.length) * 1 ≤ 140737488355328 ∧ ([] : List U8).length + a0.length ≤ maxLen) <|
  some (([] : List U8) ++ a0)

def bytes_Equal (_N : Nat) (a0 : List U8) (a1 : List U8) : Option (Bool) :=
  some (decide ((txtOf a0) = (txtOf a1)))

def ref14_same (_N : Nat) (a0 : List U8) (a1 : List U8) : Option (Bool) :=
  some (decide ((txtOf a0) = (txtOf a1)))

def slices_Repeat_Lbool_bool_l1 (N : Nat) (y2 : U64 × U64) : Nat → Int → (List Bool) → Option ((List Bool))
  | 0, _, _ => none
  | m + 1, x35, x34 =>
  if decide (x35 < (((convK .i64 y2.2.n).toNat : Nat) : Int)) then
  (chk ((0 : Int) ≤ x35 ∧ x35 < (((convK .i64 y2.2.n).toNat : Nat) : Int)) <|
  Option.bind (cut x34 0 x35) fun y53 =>
  chk (inR (x35 + ((min y53.length (((convK .i64 y2.2.n).toNat) - (x35).toNat) : Nat) : Int))) <|
  slices_Repeat_Lbool_bool_l1 N y2 m (x35 + ((min y53.length (((convK .i64 y2.2.n).toNat) - (x35).toNat) : Nat) : Int)) (cpy x34 (x35).toNat y53))
  else
  (some (x34))
def slices_Repeat_Lbool_bool (N : Nat) (a0 : List Bool) (a1 : Int) : Option ((List Bool)) :=
  if decide (a1 < 0) then
  (none)
  else
  (Option.bind (math_bits_Mul N (⟨convK .u64 (a0.length : Int)⟩ : U64) (⟨convK .u64 a1⟩ : U64)) fun y2 =>
  Option.bind (if decide ((⟨0⟩ : U64).n < y2.1.n) then
  (some (true))
  else
  (some (decide ((⟨9223372036854775807⟩ : U64).n < y2.2.n)))) fun o14 => match o14 with
  | x13 =>
  (if x13 then
  (none)
  else
  (chk ((0 : Int) ≤ (convK .i64 y2.2.n) ∧ (1 : Int) * (convK .i64 y2.2.n) ≤ 281474976710656 ∧ (convK .i64 y2.2.n) ≤ 9223372036854775807) <|
  Option.bind (slices_Repeat_Lbool_bool_l1 N y2 N ((min a0.length ((convK .i64 y2.2.n).toNat) : Nat) : Int) (cpy (List.replicate (convK .i64 y2.2.n).toNat (false : Bool)) 0 a0)) fun o37 => match o37 with
  | x36 =>
  (some (x36)))))

def ref14_all_l1 (N : Nat) (a0 : Int) (a1 : Int) : Nat → (List Bool) → Int → Option ((List Bool))
  | 0, _, _ => none
  | m + 1, x1, x3 =>
  if decide (x3 < a0) then
  (chk ((x1.length + ([!decide (x3 = a1)] : List Bool).length) * 1 ≤ 140737488355328 ∧ x1.length + ([!decide (x3 = a1)] : List Bool).length ≤ maxLen) <|
  chk (inR (x3 + 1)) <|
  ref14_all_l1 N a0 a1 m (x1 ++ ([!decide (x3 = a1)] : List Bool)) (x3 + 1))
  else
  (some (x1))
def ref14_all (N : Nat) (a0 : Int) (a1 : Int) : Option ((List Bool)) :=
  Option.bind (ref14_all_l1 N a0 a1 N ([] : List Bool) 0) fun o6 => match o6 with
  | x4 =>
  (some (x4))

def check_field_solve_1 (_N : Nat) (a0 : List U8) (a1 : Int) : Option (Bool) :=
  Option.bind (idx a0 a1) fun y1 =>
  some (!decide (y1.n = (⟨0⟩ : U8).n))

def check_field_mul (_N : Nat) (a0 : Field) (a1 : U8) (a2 : U8) : Option (U8) :=
  Option.bind (if decide (a1.n = (⟨0⟩ : U8).n) then
  (some (true))
  else
  (some (decide (a2.n = (⟨0⟩ : U8).n)))) fun o2 => match o2 with
  | x1 =>
  (if x1 then
  (some ((⟨0⟩ : U8)))
  else
  (Option.bind (idx a0.log.l a1.n) fun y13 =>
  Option.bind (idx a0.log.l a2.n) fun y19 =>
  chk (inR (y13 + y19)) <|
  Option.bind (idx a0.power.l (y13 + y19)) fun y26 =>
  some (y26)))

end Go.Arm
