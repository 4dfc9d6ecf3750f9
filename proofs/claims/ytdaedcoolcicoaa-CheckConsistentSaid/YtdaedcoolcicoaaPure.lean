/- A part of the proof. -/
import Derived.Test.YtdaedcoolcicoaaHand
namespace Go.Arm
open Go Go.RowKit Go.Proofs
variable {σ : Type}
def slices_Clone_Lint_int (_N : Nat) (a0 : List Int) : Option ((List Int)) :=
  chk ((([] : List Int).length + a0.length) * 8 ≤ 140737488355328 ∧ ([] : List Int).length + a0.length ≤ maxLen) <|
  some (([] : List Int) ++ a0)

def slices_IndexFunc_LLbyte_Lbyte_l1 (N : Nat) (a0 : List (List U8)) (a1 : (List U8) → Option Bool) : Nat → Int → Option (Sum Unit Int)
  | 0, _ => none
  | m + 1, x1 =>
  if decide (x1 < (a0.length : Int)) then
  (Option.bind (idx a0 x1) fun y12 =>
  Option.bind (a1 y12) fun y18 =>
  if y18 then
  (some (.inr (x1)))
  else
  (chk (inR (x1 + 1)) <|
  slices_IndexFunc_LLbyte_Lbyte_l1 N a0 a1 m (x1 + 1)))
  else
  (some (Sum.inl ()))
def slices_IndexFunc_LLbyte_Lbyte (N : Nat) (a0 : List (List U8)) (a1 : (List U8) → Option Bool) : Option (Int) :=
  Option.bind (slices_IndexFunc_LLbyte_Lbyte_l1 N a0 a1 N 0) fun o2 => match o2 with
  | .inl () =>
  (some (-1))
  | .inr r => some r

def law14_past_l1 (N : Nat) (a0 : List Item) (a1 : Int) : Nat → Int → Int → Option (Int)
  | 0, _, _ => none
  | m + 1, x1, x2 =>
  if decide (x2 < a1) then
  (Option.bind (idx a0 x2) fun y14 =>
  if decide (y14.Kind = 1) then
  (chk (inR (x1 + 1)) <|
  chk (inR (x2 + 1)) <|
  law14_past_l1 N a0 a1 m (x1 + 1) (x2 + 1))
  else
  (chk (inR (x2 + 1)) <|
  law14_past_l1 N a0 a1 m x1 (x2 + 1)))
  else
  (some (x1))
def law14_past (N : Nat) (a0 : List Item) (a1 : Int) (a2 : Int) : Option (Bool) :=
  Option.bind (law14_past_l1 N a0 a1 N 0 0) fun o4 => match o4 with
  | x3 =>
  (some (decide (x3 < a2)))

def law14_at_l2 (N : Nat) (a1 : Int) (a2 : Int) (x1 : Int) (y12 : List Item) : Nat → Int → Option (Sum Unit (Int × Int × Bool))
  | 0, _ => none
  | m + 1, x18 =>
  if decide (x18 < (y12.length : Int)) then
  (Option.bind (idx y12 x18) fun y29 =>
  Option.bind (if decide (y29.Kind = a1) then
  (some (decide (y29.No = a2)))
  else
  (some (false))) fun o46 => match o46 with
  | x45 =>
  (if x45 then
  (some (.inr ((x1, x18, true))))
  else
  (chk (inR (x18 + 1)) <|
  law14_at_l2 N a1 a2 x1 y12 m (x18 + 1))))
  else
  (some (Sum.inl ()))
def law14_at_l1 (N : Nat) (a0 : List (List Item)) (a1 : Int) (a2 : Int) : Nat → Int → Option (Sum Unit (Int × Int × Bool))
  | 0, _ => none
  | m + 1, x1 =>
  if decide (x1 < (a0.length : Int)) then
  (Option.bind (idx a0 x1) fun y12 =>
  Option.bind (law14_at_l2 N a1 a2 x1 y12 N 0) fun o19 => match o19 with
  | .inl () =>
  (chk (inR (x1 + 1)) <|
  law14_at_l1 N a0 a1 a2 m (x1 + 1))
  | .inr r => some (.inr r))
  else
  (some (Sum.inl ()))
def law14_at (N : Nat) (a0 : List (List Item)) (a1 : Int) (a2 : Int) : Option (Int × Int × Bool) :=
  Option.bind (law14_at_l1 N a0 a1 a2 N 0) fun o2 => match o2 with
  | .inl () =>
  (some ((0, 0, false)))
  | .inr r => some r

def law14_consistent_l2 (N : Nat) (a0 : List (List Item)) (a1 : List Int) (x1 : Int) (y12 : List Item) : Nat → Int → Option (Sum Unit Bool)
  | 0, _ => none
  | m + 1, x18 =>
  if decide (x18 < (y12.length : Int)) then
  (Option.bind (idx y12 x18) fun y29 =>
  Option.bind (if !decide (y29.Kind = 3) then
  (some (true))
  else
  (Option.bind (idx a1 x1) fun y52 =>
  Option.bind (law14_past N y12 x18 y52) fun y56 =>
  some (!y56))) fun o46 => match o46 with
  | x45 =>
  (if x45 then
  (chk (inR (x18 + 1)) <|
  law14_consistent_l2 N a0 a1 x1 y12 m (x18 + 1))
  else
  (Option.bind (law14_at N a0 2 y29.No) fun y71 =>
  Option.bind (if !y71.2.2 then
  (some (true))
  else
  (Option.bind (idx a0 y71.1) fun y227 =>
  Option.bind (idx a1 y71.1) fun y233 =>
  Option.bind (law14_past N y227 y71.2.1 y233) fun y237 =>
  some (!y237))) fun o85 => match o85 with
  | x84 =>
  (if x84 then
  (some (.inr (false)))
  else
  (chk (inR (x18 + 1)) <|
  law14_consistent_l2 N a0 a1 x1 y12 m (x18 + 1))))))
  else
  (some (Sum.inl ()))
def law14_consistent_l1 (N : Nat) (a0 : List (List Item)) (a1 : List Int) : Nat → Int → Option (Sum Unit Bool)
  | 0, _ => none
  | m + 1, x1 =>
  if decide (x1 < (a0.length : Int)) then
  (Option.bind (idx a0 x1) fun y12 =>
  Option.bind (law14_consistent_l2 N a0 a1 x1 y12 N 0) fun o19 => match o19 with
  | .inl () =>
  (chk (inR (x1 + 1)) <|
  law14_consistent_l1 N a0 a1 m (x1 + 1))
  | .inr r => some (.inr r))
  else
  (some (Sum.inl ()))
def law14_consistent (N : Nat) (a0 : List (List Item)) (a1 : List Int) : Option (Bool) :=
  Option.bind (law14_consistent_l1 N a0 a1 N 0) fun o2 => match o2 with
  | .inl () =>
  (some (true))
  | .inr r => some r

def law14_among_l1 (N : Nat) (a0 : List Int) (a1 : Int) : Nat → Int → Option (Sum Unit Bool)
  | 0, _ => none
  | m + 1, x1 =>
  if decide (x1 < (a0.length : Int)) then
  (Option.bind (idx a0 x1) fun y12 =>
  if decide (y12 = a1) then
  (some (.inr (true)))
  else
  (chk (inR (x1 + 1)) <|
  law14_among_l1 N a0 a1 m (x1 + 1)))
  else
  (some (Sum.inl ()))
def law14_among (N : Nat) (a0 : List Int) (a1 : Int) : Option (Bool) :=
  Option.bind (law14_among_l1 N a0 a1 N 0) fun o2 => match o2 with
  | .inl () =>
  (some (false))
  | .inr r => some r

def check_field_inverse (_N : Nat) (a0 : Field) (a1 : U8) : Option (U8) :=
  Option.bind (idx a0.log.l a1.n) fun y3 =>
  chk (inR (255 - y3)) <|
  Option.bind (idx a0.power.l (255 - y3)) fun y10 =>
  some (y10)

def check_field_row_l1 (N : Nat) (a0 : Field) (a1 : Int) (a2 : Int) : Nat → Int → (List U8) → Option ((List U8))
  | 0, _, _ => none
  | m + 1, x21, x20 =>
  if decide (x21 < (((a2).toNat : Nat) : Int)) then
  (chk (inR (a1 - a2)) <|
  chk (inR (16 + x21)) <|
  Option.bind (check_field_inverse N a0 (⟨convK .u8 (xorK .i64 (a1 - a2) (16 + x21))⟩ : U8)) fun y36 =>
  Option.bind (idx x20 x21) fun _ =>
  chk (inR (x21 + 1)) <|
  check_field_row_l1 N a0 a1 a2 m (x21 + 1) (x20.set (x21).toNat y36))
  else
  (some (x20))
def check_field_row (N : Nat) (a0 : Field) (a1 : Int) (a2 : Int) : Option ((List U8)) :=
  chk ((0 : Int) ≤ a2 ∧ (1 : Int) * a2 ≤ 281474976710656 ∧ a2 ≤ 9223372036854775807) <|
  if decide (a1 < a2) then
  (Option.bind (idx (List.replicate (a2).toNat (⟨0⟩ : U8)) a1) fun _ =>
  some ((List.replicate (a2).toNat (⟨0⟩ : U8)).set (a1).toNat (⟨1⟩ : U8)))
  else
  (Option.bind (check_field_row_l1 N a0 a1 a2 N 0 (List.replicate (a2).toNat (⟨0⟩ : U8))) fun o23 => match o23 with
  | x22 =>
  (some (x22)))

def slices_Clone_Lbyte_byte (_N : Nat) (a0 : List U8) : Option ((List U8)) :=
  chk ((([] : List U8).length + a0.length) * 1 ≤ 140737488355328 ∧ ([] : List U8).length + a0.length ≤ maxLen) <|
  some (([] : List U8) ++ a0)

def check_field_solve_1 (_N : Nat) (a0 : List U8) (a1 : Int) : Option (Bool) :=
  Option.bind (idx a0 a1) fun y1 =>
  some (!decide (y1.n = (⟨0⟩ : U8).n))

def slices_IndexFunc_LLcheck_Item_Lcheck_Item_l1 (N : Nat) (a0 : List (List Item)) (a1 : (List Item) → Option Bool) : Nat → Int → Option (Sum Unit Int)
  | 0, _ => none
  | m + 1, x1 =>
  if decide (x1 < (a0.length : Int)) then
  (Option.bind (idx a0 x1) fun y12 =>
  Option.bind (a1 y12) fun y18 =>
  if y18 then
  (some (.inr (x1)))
  else
  (chk (inR (x1 + 1)) <|
  slices_IndexFunc_LLcheck_Item_Lcheck_Item_l1 N a0 a1 m (x1 + 1)))
  else
  (some (Sum.inl ()))
def slices_IndexFunc_LLcheck_Item_Lcheck_Item (N : Nat) (a0 : List (List Item)) (a1 : (List Item) → Option Bool) : Option (Int) :=
  Option.bind (slices_IndexFunc_LLcheck_Item_Lcheck_Item_l1 N a0 a1 N 0) fun o2 => match o2 with
  | .inl () =>
  (some (-1))
  | .inr r => some r

def slices_ContainsFunc_LLcheck_Item_Lcheck_Item (N : Nat) (a0 : List (List Item)) (a1 : (List Item) → Option Bool) : Option (Bool) :=
  Option.bind (slices_IndexFunc_LLcheck_Item_Lcheck_Item N a0 a1) fun y1 =>
  some (decide (0 ≤ y1))

def check_passages_1 (_N : Nat) (a0 : List Item) : Option (Bool) :=
  some (decide (100 < (a0.length : Int)))

def check_field_mul (_N : Nat) (a0 : Field) (a1 : U8) (a2 : U8) : Option (U8) :=
  Option.bind (if decide (a1.n = (⟨0⟩ : U8).n) then
  (some (true))
  else
  (some (decide (a2.n = (⟨0⟩ : U8).n)))) fun o2 => match o2 with
  | x1 =>
  (if x1 then
  (some ((⟨0⟩ : U8)))
  else
  (Option.bind (idx a0.log.l a1.n) fun y13 =>
  Option.bind (idx a0.log.l a2.n) fun y19 =>
  chk (inR (y13 + y19)) <|
  Option.bind (idx a0.power.l (y13 + y19)) fun y26 =>
  some (y26)))

end Go.Arm
