/- A part of the proof. -/
import Derived.Test.YtdaedcoolcicoaaHand
namespace Go.Arm
open Go Go.RowKit Go.Proofs
variable {σ : Type}
def math_bits_Mul64 (_N : Nat) (a0 : U64) (a1 : U64) : Option (U64 × U64) :=
  chk ((0 : Int) ≤ (⟨32⟩ : U64).n) <|
  chk ((0 : Int) ≤ (⟨32⟩ : U64).n) <|
  chk ((0 : Int) ≤ (⟨32⟩ : U64).n) <|
  chk ((0 : Int) ≤ (⟨32⟩ : U64).n) <|
  chk ((0 : Int) ≤ (⟨32⟩ : U64).n) <|
  some (((⟨addK .u64 (⟨addK .u64 (⟨mulK .u64 (⟨shrK .u64 a0.n (⟨32⟩ : U64).n⟩ : U64).n (⟨shrK .u64 a1.n (⟨32⟩ : U64).n⟩ : U64).n⟩ : U64).n (⟨shrK .u64 (⟨addK .u64 (⟨mulK .u64 (⟨shrK .u64 a0.n (⟨32⟩ : U64).n⟩ : U64).n (⟨andK .u64 a1.n (⟨4294967295⟩ : U64).n⟩ : U64).n⟩ : U64).n (⟨shrK .u64 (⟨mulK .u64 (⟨andK .u64 a0.n (⟨4294967295⟩ : U64).n⟩ : U64).n (⟨andK .u64 a1.n (⟨4294967295⟩ : U64).n⟩ : U64).n⟩ : U64).n (⟨32⟩ : U64).n⟩ : U64).n⟩ : U64).n (⟨32⟩ : U64).n⟩ : U64).n⟩ : U64).n (⟨shrK .u64 (⟨addK .u64 (⟨andK .u64 (⟨addK .u64 (⟨mulK .u64 (⟨shrK .u64 a0.n (⟨32⟩ : U64).n⟩ : U64).n (⟨andK .u64 a1.n (⟨4294967295⟩ : U64).n⟩ : U64).n⟩ : U64).n (⟨shrK .u64 (⟨mulK .u64 (⟨andK .u64 a0.n (⟨4294967295⟩ : U64).n⟩ : U64).n (⟨andK .u64 a1.n (⟨4294967295⟩ : U64).n⟩ : U64).n⟩ : U64).n (⟨32⟩ : U64).n⟩ : U64).n⟩ : U64).n (⟨4294967295⟩ : U64).n⟩ : U64).n (⟨mulK .u64 (⟨andK .u64 a0.n (⟨4294967295⟩ : U64).n⟩ : U64).n (⟨shrK .u64 a1.n (⟨32⟩ : U64).n⟩ : U64).n⟩ : U64).n⟩ : U64).n (⟨32⟩ : U64).n⟩ : U64).n⟩ : U64), (⟨mulK .u64 a0.n a1.n⟩ : U64)))

def math_bits_Mul (N : Nat) (a0 : U64) (a1 : U64) : Option (U64 × U64) :=
  Option.bind (math_bits_Mul64 N a0 a1) fun y2 =>
  some ((y2.1, y2.2))

def law14_lost_l1 (N : Nat) (a0 : Int) : Nat → Int → (List Bool) → Option ((List Bool))
  | 0, _, _ => none
  | m + 1, x9, x8 =>
  if decide (x9 < (((a0).toNat : Nat) : Int)) then
  (Option.bind (idx x8 x9) fun _ =>
  chk (inR (x9 + 1)) <|
  law14_lost_l1 N a0 m (x9 + 1) (x8.set (x9).toNat true))
  else
  (some (x8))
def law14_lost_l2 (N : Nat) (a0 : Int) (a1 : Int) (a2 : List U8) : Nat → Int → (List Bool) → Option ((List Bool))
  | 0, _, _ => none
  | m + 1, x39, x38 =>
  Option.bind (if decide (x39 < a1) then
  (some (decide (x39 < (a2.length : Int))))
  else
  (some (false))) fun o52 => match o52 with
  | x51 =>
  (if x51 then
  (Option.bind (idx a2 x39) fun y62 =>
  chk (inR (y62.n)) <|
  chk (a0 ≠ (0 : Int)) <|
  Option.bind (idx x38 (Int.tmod y62.n a0)) fun _ =>
  chk (inR (x39 + 1)) <|
  law14_lost_l2 N a0 a1 a2 m (x39 + 1) (x38.set (Int.tmod y62.n a0).toNat false))
  else
  (some (x38)))
def law14_lost (N : Nat) (a0 : Int) (a1 : Int) (a2 : List U8) : Option ((List Bool)) :=
  chk ((0 : Int) ≤ a0 ∧ (1 : Int) * a0 ≤ 281474976710656 ∧ a0 ≤ 9223372036854775807) <|
  Option.bind (law14_lost_l1 N a0 N 0 (List.replicate (a0).toNat (false : Bool))) fun o11 => match o11 with
  | x10 =>
  (Option.bind (law14_lost_l2 N a0 a1 a2 N 0 x10) fun o41 => match o41 with
  | x40 =>
  (some (x40)))

def law14_spoiled_l2 (N : Nat) (a2 : U8) (y17 : List U8) : Nat → (List U8) → Int → Option ((List U8))
  | 0, _, _ => none
  | m + 1, x41, x43 =>
  if decide (x43 < (Int.tdiv (y17.length : Int) 2)) then
  (Option.bind (idx y17 x43) fun y59 =>
  chk ((x41.length + ([(⟨xorK .u8 y59.n a2.n⟩ : U8)] : List U8).length) * 1 ≤ 140737488355328 ∧ x41.length + ([(⟨xorK .u8 y59.n a2.n⟩ : U8)] : List U8).length ≤ maxLen) <|
  chk (inR (x43 + 1)) <|
  law14_spoiled_l2 N a2 y17 m (x41 ++ ([(⟨xorK .u8 y59.n a2.n⟩ : U8)] : List U8)) (x43 + 1))
  else
  (some (x41))
def law14_spoiled_l1 (N : Nat) (a0 : List (List U8)) (a1 : List Bool) (a2 : U8) : Nat → (List (List U8)) → Int → Option ((List (List U8)))
  | 0, _, _ => none
  | m + 1, x1, x3 =>
  if decide (x3 < (a0.length : Int)) then
  (Option.bind (idx a0 x3) fun y17 =>
  Option.bind (idx a1 x3) fun y23 =>
  if y23 then
  (chk ((x1.length + ([y17] : List (List U8)).length) * 24 ≤ 140737488355328 ∧ x1.length + ([y17] : List (List U8)).length ≤ maxLen) <|
  chk (inR (x3 + 1)) <|
  law14_spoiled_l1 N a0 a1 a2 m (x1 ++ ([y17] : List (List U8))) (x3 + 1))
  else
  (chk (2 ≠ (0 : Int) ∧ inR (Int.tdiv (y17.length : Int) 2)) <|
  Option.bind (law14_spoiled_l2 N a2 y17 N ([] : List U8) 0) fun o46 => match o46 with
  | x44 =>
  (chk ((x1.length + ([x44] : List (List U8)).length) * 24 ≤ 140737488355328 ∧ x1.length + ([x44] : List (List U8)).length ≤ maxLen) <|
  chk (inR (x3 + 1)) <|
  law14_spoiled_l1 N a0 a1 a2 m (x1 ++ ([x44] : List (List U8))) (x3 + 1))))
  else
  (some (x1))
def law14_spoiled (N : Nat) (a0 : List (List U8)) (a1 : List Bool) (a2 : U8) : Option ((List (List U8))) :=
  Option.bind (law14_spoiled_l1 N a0 a1 a2 N ([] : List (List U8)) 0) fun o6 => match o6 with
  | x4 =>
  (some (x4))

def slices_IndexFunc_LLbyte_Lbyte_l1 (N : Nat) (a0 : List (List U8)) (a1 : (List U8) → Option Bool) : Nat → Int → Option (Sum Unit Int)
  | 0, _ => none
  | m + 1, x1 =>
  if decide (x1 < (a0.length : Int)) then
  (Option.bind (idx a0 x1) fun y12 =>
  Option.bind (a1 y12) fun y18 =>
  if y18 then
  (some (.inr (x1)))
  else
  (chk (inR (x1 + 1)) <|
  slices_IndexFunc_LLbyte_Lbyte_l1 N a0 a1 m (x1 + 1)))
  else
  (some (Sum.inl ()))
def slices_IndexFunc_LLbyte_Lbyte (N : Nat) (a0 : List (List U8)) (a1 : (List U8) → Option Bool) : Option (Int) :=
  Option.bind (slices_IndexFunc_LLbyte_Lbyte_l1 N a0 a1 N 0) fun o2 => match o2 with
  | .inl () =>
  (some (-1))
  | .inr r => some r

def slices_ContainsFunc_LLbyte_Lbyte (N : Nat) (a0 : List (List U8)) (a1 : (List U8) → Option Bool) : Option (Bool) :=
  Option.bind (slices_IndexFunc_LLbyte_Lbyte N a0 a1) fun y1 =>
  some (decide (0 ≤ y1))

def check_sized_1 (_N : Nat) (a0 : List U8) (a1 : List (List U8)) : Option (Bool) :=
  Option.bind (idx a1 0) fun y3 =>
  some (!decide ((a0.length : Int) = (y3.length : Int)))

def check_sized (N : Nat) (a0 : List (List U8)) : Option (Int) :=
  Option.bind (idx a0 0) fun y8 =>
  if decide (65536 < (y8.length : Int)) then
  (some (8))
  else
  (Option.bind (slices_ContainsFunc_LLbyte_Lbyte N a0 (fun x => check_sized_1 N x a0)) fun y17 =>
  if y17 then
  (some (26))
  else
  (some (0)))

def law14_equal_l1 (N : Nat) (a0 : List (List U8)) (a1 : List (List U8)) : Nat → Int → Option (Sum Unit Bool)
  | 0, _ => none
  | m + 1, x2 =>
  if decide (x2 < (a0.length : Int)) then
  (Option.bind (idx a0 x2) fun y13 =>
  Option.bind (idx a1 x2) fun y19 =>
  if !decide ((txtOf y13) = (txtOf y19)) then
  (some (.inr (false)))
  else
  (chk (inR (x2 + 1)) <|
  law14_equal_l1 N a0 a1 m (x2 + 1)))
  else
  (some (Sum.inl ()))
def law14_equal (N : Nat) (a0 : List (List U8)) (a1 : List (List U8)) : Option (Bool) :=
  if !decide ((a0.length : Int) = (a1.length : Int)) then
  (some (false))
  else
  (Option.bind (law14_equal_l1 N a0 a1 N 0) fun o3 => match o3 with
  | .inl () =>
  (some (true))
  | .inr r => some r)

def check_field_inverse (_N : Nat) (a0 : Field) (a1 : U8) : Option (U8) :=
  Option.bind (idx a0.log.l a1.n) fun y3 =>
  chk (inR (255 - y3)) <|
  Option.bind (idx a0.power.l (255 - y3)) fun y10 =>
  some (y10)

def check_field_row_l1 (N : Nat) (a0 : Field) (a1 : Int) (a2 : Int) : Nat → Int → (List U8) → Option ((List U8))
  | 0, _, _ => none
  | m + 1, x21, x20 =>
  if decide (x21 < (((a2).toNat : Nat) : Int)) then
  (chk (inR (a1 - a2)) <|
  chk (inR (16 + x21)) <|
  Option.bind (check_field_inverse N a0 (⟨convK .u8 (xorK .i64 (a1 - a2) (16 + x21))⟩ : U8)) fun y36 =>
  Option.bind (idx x20 x21) fun _ =>
  chk (inR (x21 + 1)) <|
  check_field_row_l1 N a0 a1 a2 m (x21 + 1) (x20.set (x21).toNat y36))
  else
  (some (x20))
def check_field_row (N : Nat) (a0 : Field) (a1 : Int) (a2 : Int) : Option ((List U8)) :=
  chk ((0 : Int) ≤ a2 ∧ (1 : Int) * a2 ≤ 281474976710656 ∧ a2 ≤ 9223372036854775807) <|
  if decide (a1 < a2) then
  (Option.bind (idx (List.replicate (a2).toNat (⟨0⟩ : U8)) a1) fun _ =>
  some ((List.replicate (a2).toNat (⟨0⟩ : U8)).set (a1).toNat (⟨1⟩ : U8)))
  else
  (Option.bind (check_field_row_l1 N a0 a1 a2 N 0 (List.replicate (a2).toNat (⟨0⟩ : U8))) fun o23 => match o23 with
  | x22 =>
  (some (x22)))

def bytes_Equal (_N : Nat) (a0 : List U8) (a1 : List U8) : Option (Bool) :=
  some (decide ((txtOf a0) = (txtOf a1)))

def slices_Grow_Lbyte_byte (_N : Nat) (a1 : Int) : Option ((List U8)) :=
  if decide (a1 < 0) then
  (none)
  else
  (chk (inR (0 - ((0 : Nat) : Int))) <|
  chk (inR (a1 - (0 - ((0 : Nat) : Int)))) <|
  if decide (0 < (a1 - (0 - ((0 : Nat) : Int)))) then
  (chk (0 = (0 : Int)) <|
  chk ((0 : Int) < (a1 - (0 - ((0 : Nat) : Int))) ∧ (a1 - (0 - ((0 : Nat) : Int))).toNat * 1 ≤ 140737488355328 ∧ (a1 - (0 - ((0 : Nat) : Int))).toNat ≤ maxLen) <|
  chk (((0 : Nat) : Int) = (0 : Int)) <|
  some (([] : List U8)))
  else
  (some (([] : List U8))))

def slices_Concat_Lbyte_byte_l1 (N : Nat) (a0 : List (List U8)) : Nat → Int → Int → Option (Int)
  | 0, _, _ => none
  | m + 1, x1, x2 =>
  if decide (x2 < (a0.length : Int)) then
  (Option.bind (idx a0 x2) fun y14 =>
  chk (inR (x1 + (y14.length : Int))) <|
  if decide ((x1 + (y14.length : Int)) < 0) then
  (none)
  else
  (chk (inR (x2 + 1)) <|
  slices_Concat_Lbyte_byte_l1 N a0 m (x1 + (y14.length : Int)) (x2 + 1)))
  else
  (some (x1))
def slices_Concat_Lbyte_byte_l2 (N : Nat) (a0 : List (List U8)) : Nat → (List U8) → Int → Option ((List U8))
  | 0, _, _ => none
  | m + 1, x38, x40 =>
  if decide (x40 < (a0.length : Int)) then
  (Option.bind (idx a0 x40) fun y54 =>
  chk ((x38.length + y54.length) * 1 ≤ 140737488355328 ∧ x38.length + y54.length ≤ maxLen) <|
  chk (inR (x40 + 1)) <|
  slices_Concat_Lbyte_byte_l2 N a0 m (x38 ++ y54) (x40 + 1))
  else
  (some (x38))
def slices_Concat_Lbyte_byte (N : Nat) (a0 : List (List U8)) : Option ((List U8)) :=
  Option.bind (slices_Concat_Lbyte_byte_l1 N a0 N 0 0) fun o4 => match o4 with
  | x3 =>
  (Option.bind (slices_Grow_Lbyte_byte N x3) fun y31 =>
  Option.bind (slices_Concat_Lbyte_byte_l2 N a0 N y31 0) fun o43 => match o43 with
  | x41 =>
  (some (x41)))

def slices_IndexFunc_Lbyte_byte_l1 (N : Nat) (a0 : List U8) (a1 : U8 → Option Bool) : Nat → Int → Option (Sum Unit Int)
  | 0, _ => none
  | m + 1, x1 =>
  if decide (x1 < (a0.length : Int)) then
  (Option.bind (idx a0 x1) fun y12 =>
  Option.bind (a1 y12) fun y16 =>
  if y16 then
  (some (.inr (x1)))
  else
  (chk (inR (x1 + 1)) <|
  slices_IndexFunc_Lbyte_byte_l1 N a0 a1 m (x1 + 1)))
  else
  (some (Sum.inl ()))
def slices_IndexFunc_Lbyte_byte (N : Nat) (a0 : List U8) (a1 : U8 → Option Bool) : Option (Int) :=
  Option.bind (slices_IndexFunc_Lbyte_byte_l1 N a0 a1 N 0) fun o2 => match o2 with
  | .inl () =>
  (some (-1))
  | .inr r => some r

def slices_ContainsFunc_Lbyte_byte (N : Nat) (a0 : List U8) (a1 : U8 → Option Bool) : Option (Bool) :=
  Option.bind (slices_IndexFunc_Lbyte_byte N a0 a1) fun y1 =>
  some (decide (0 ≤ y1))

def check_Unite_1 (_N : Nat) (a0 : U8) : Option (Bool) :=
  some (!decide (a0.n = (⟨0⟩ : U8).n))

def slices_Clone_Lbyte_byte (_N : Nat) (a0 : List U8) : Option ((List U8)) :=
  chk ((([] : List U8).length + a0.length) * 1 ≤ 140737488355328 ∧ ([] : List U8).length + a0.length ≤ maxLen) <|
  some (([] : List U8) ++ a0)

def slices_Repeat_Lbool_bool_l1 (N : Nat) (y2 : U64 × U64) : Nat → Int → (List Bool) → Option ((List Bool))
  | 0, _, _ => none
  | m + 1, x35, x34 =>
  if decide (x35 < (((convK .i64 y2.2.n).toNat : Nat) : Int)) then
  (chk ((0 : Int) ≤ x35 ∧ x35 < (((convK .i64 y2.2.n).toNat : Nat) : Int)) <|
  Option.bind (cut x34 0 x35) fun y53 =>
  chk (inR (x35 + ((min y53.length (((convK .i64 y2.2.n).toNat) - (x35).toNat) : Nat) : Int))) <|
  slices_Repeat_Lbool_bool_l1 N y2 m (x35 + ((min y53.length (((convK .i64 y2.2.n).toNat) - (x35).toNat) : Nat) : Int)) (cpy x34 (x35).toNat y53))
  else
  (some (x34))
def slices_Repeat_Lbool_bool (N : Nat) (a0 : List Bool) (a1 : Int) : Option ((List Bool)) :=
  if decide (a1 < 0) then
  (none)
  else
  (Option.bind (math_bits_Mul N (⟨convK .u64 (a0.length : Int)⟩ : U64) (⟨convK .u64 a1⟩ : U64)) fun y2 =>
  Option.bind (if decide ((⟨0⟩ : U64).n < y2.1.n) then
  (some (true))
  else
  (some (decide ((⟨9223372036854775807⟩ : U64).n < y2.2.n)))) fun o14 => match o14 with
  | x13 =>
  (if x13 then
  (none)
  else
  (chk ((0 : Int) ≤ (convK .i64 y2.2.n) ∧ (1 : Int) * (convK .i64 y2.2.n) ≤ 281474976710656 ∧ (convK .i64 y2.2.n) ≤ 9223372036854775807) <|
  Option.bind (slices_Repeat_Lbool_bool_l1 N y2 N ((min a0.length ((convK .i64 y2.2.n).toNat) : Nat) : Int) (cpy (List.replicate (convK .i64 y2.2.n).toNat (false : Bool)) 0 a0)) fun o37 => match o37 with
  | x36 =>
  (some (x36)))))

def check_field_solve_1 (_N : Nat) (a0 : List U8) (a1 : Int) : Option (Bool) :=
  Option.bind (idx a0 a1) fun y1 =>
  some (!decide (y1.n = (⟨0⟩ : U8).n))

def check_field_mul (_N : Nat) (a0 : Field) (a1 : U8) (a2 : U8) : Option (U8) :=
  Option.bind (if decide (a1.n = (⟨0⟩ : U8).n) then
  (some (true))
  else
  (some (decide (a2.n = (⟨0⟩ : U8).n)))) fun o2 => match o2 with
  | x1 =>
  (if x1 then
  (some ((⟨0⟩ : U8)))
  else
  (Option.bind (idx a0.log.l a1.n) fun y13 =>
  Option.bind (idx a0.log.l a2.n) fun y19 =>
  chk (inR (y13 + y19)) <|
  Option.bind (idx a0.power.l (y13 + y19)) fun y26 =>
  some (y26)))

end Go.Arm
