/- A part of the proof. -/
import Derived.Test.YtdaedcoolcicoaaGreatHand
namespace Go.Arm
open Go Go.RowKit Go.Proofs
variable {σ : Type}
def slices_IndexFunc_LLbyte_Lbyte_l1 (N : Nat) (a0 : List (List U8)) (a1 : (List U8) → Option Bool) : Nat → Int → Option (Sum Unit Int)
  | 0, _ => none
  | m + 1, x1 =>
  if decide (x1 < (a0.length : Int)) then
  (Option.bind (idx a0 x1) fun y12 =>
  Option.bind (a1 y12) fun y18 =>
  if y18 then
  (some (.inr (x1)))
  else
  (chk (inR (x1 + 1)) <|
  slices_IndexFunc_LLbyte_Lbyte_l1 N a0 a1 m (x1 + 1)))
  else
  (some (Sum.inl ()))
def slices_IndexFunc_LLbyte_Lbyte (N : Nat) (a0 : List (List U8)) (a1 : (List U8) → Option Bool) : Option (Int) :=
  Option.bind (slices_IndexFunc_LLbyte_Lbyte_l1 N a0 a1 N 0) fun o2 => match o2 with
  | .inl () =>
  (some (-1))
  | .inr r => some r

def slices_Clone_Lint_int (_N : Nat) (a0 : List Int) : Option ((List Int)) :=
  chk ((([] : List Int).length + a0.length) * 8 ≤ 140737488355328 ∧ ([] : List Int).length + a0.length ≤ maxLen) <|
  some (([] : List Int) ++ a0)

def ref01_SameInts_l1 (N : Nat) (a0 : List Int) (a1 : List Int) : Nat → Int → Option (Sum Unit Bool)
  | 0, _ => none
  | m + 1, x2 =>
  if decide (x2 < (a0.length : Int)) then
  (Option.bind (idx a0 x2) fun y13 =>
  Option.bind (idx a1 x2) fun y17 =>
  if !decide (y13 = y17) then
  (some (.inr (false)))
  else
  (chk (inR (x2 + 1)) <|
  ref01_SameInts_l1 N a0 a1 m (x2 + 1)))
  else
  (some (Sum.inl ()))
def ref01_SameInts (N : Nat) (a0 : List Int) (a1 : List Int) : Option (Bool) :=
  if !decide ((a0.length : Int) = (a1.length : Int)) then
  (some (false))
  else
  (Option.bind (ref01_SameInts_l1 N a0 a1 N 0) fun o3 => match o3 with
  | .inl () =>
  (some (true))
  | .inr r => some r)

def ref14_times_l1 (N : Nat) (a1 : U8) : Nat → Int → Int → Int → Option (Int)
  | 0, _, _, _ => none
  | m + 1, x2, x3, x4 =>
  if decide (x4 < 8) then
  (chk (inR (a1.n)) <|
  chk ((0 : Int) ≤ x4) <|
  chk (2 ≠ (0 : Int)) <|
  if decide ((Int.tmod (shrK .i64 a1.n x4) 2) = 1) then
  (chk (inR (x2 * 2)) <|
  if decide (255 < (x2 * 2)) then
  (chk (inR (x4 + 1)) <|
  ref14_times_l1 N a1 m (xorK .i64 (x2 * 2) 285) (xorK .i64 x3 x2) (x4 + 1))
  else
  (chk (inR (x4 + 1)) <|
  ref14_times_l1 N a1 m (x2 * 2) (xorK .i64 x3 x2) (x4 + 1)))
  else
  (chk (inR (x2 * 2)) <|
  if decide (255 < (x2 * 2)) then
  (chk (inR (x4 + 1)) <|
  ref14_times_l1 N a1 m (xorK .i64 (x2 * 2) 285) x3 (x4 + 1))
  else
  (chk (inR (x4 + 1)) <|
  ref14_times_l1 N a1 m (x2 * 2) x3 (x4 + 1))))
  else
  (some (x3))
def ref14_times (N : Nat) (a0 : U8) (a1 : U8) : Option (U8) :=
  chk (inR (a0.n)) <|
  Option.bind (ref14_times_l1 N a1 N a0.n 0 0) fun o6 => match o6 with
  | x5 =>
  (some ((⟨convK .u8 x5⟩ : U8)))

def ref14_inverse_l1 (N : Nat) (a0 : U8) : Nat → Int → Option (Sum Unit U8)
  | 0, _ => none
  | m + 1, x1 =>
  if decide (x1 < 256) then
  (Option.bind (ref14_times N a0 (⟨convK .u8 x1⟩ : U8)) fun y12 =>
  if decide (y12.n = (⟨1⟩ : U8).n) then
  (some (.inr ((⟨convK .u8 x1⟩ : U8))))
  else
  (chk (inR (x1 + 1)) <|
  ref14_inverse_l1 N a0 m (x1 + 1)))
  else
  (some (Sum.inl ()))
def ref14_inverse (N : Nat) (a0 : U8) : Option (U8) :=
  Option.bind (ref14_inverse_l1 N a0 N 1) fun o2 => match o2 with
  | .inl () =>
  (some ((⟨0⟩ : U8)))
  | .inr r => some r

def ref14_factor (N : Nat) (a0 : Int) (a1 : Int) : Option (U8) :=
  chk (inR (16 + a1)) <|
  Option.bind (ref14_inverse N (⟨convK .u8 (xorK .i64 a0 (16 + a1))⟩ : U8)) fun y2 =>
  some (y2)

def ref14_weights_l1 (N : Nat) (a0 : Int) (a1 : Int) : Nat → Int → (List U8) → Option ((List U8))
  | 0, _, _ => none
  | m + 1, x9, x8 =>
  if decide (x9 < a1) then
  (if decide (a1 ≤ a0) then
  (chk (inR (a0 - a1)) <|
  Option.bind (ref14_factor N (a0 - a1) x9) fun y24 =>
  Option.bind (idx x8 x9) fun _ =>
  chk (inR (x9 + 1)) <|
  ref14_weights_l1 N a0 a1 m (x9 + 1) (x8.set (x9).toNat y24))
  else
  (chk (inR (x9 + 1)) <|
  ref14_weights_l1 N a0 a1 m (x9 + 1) x8))
  else
  (some (x8))
def ref14_weights (N : Nat) (a0 : Int) (a1 : Int) : Option ((List U8)) :=
  chk ((0 : Int) ≤ a1 ∧ (1 : Int) * a1 ≤ 281474976710656 ∧ a1 ≤ 9223372036854775807) <|
  Option.bind (ref14_weights_l1 N a0 a1 N 0 (List.replicate (a1).toNat (⟨0⟩ : U8))) fun o11 => match o11 with
  | x10 =>
  (if decide (a0 < a1) then
  (Option.bind (idx x10 a0) fun _ =>
  some (x10.set (a0).toNat (⟨1⟩ : U8)))
  else
  (some (x10)))

def law14_items_l2 (N : Nat) (a0 : List (List Item)) (x3 : Int) : Nat → (List Item) → Int → Option ((List Item))
  | 0, _, _ => none
  | m + 1, x17, x19 =>
  Option.bind (idx a0 x3) fun y34 =>
  if decide (x19 < (y34.length : Int)) then
  (Option.bind (idx a0 x3) fun y41 =>
  Option.bind (idx y41 x19) fun y47 =>
  Option.bind (idx a0 x3) fun y53 =>
  Option.bind (idx y53 x19) fun y59 =>
  chk ((x17.length + ([(⟨y47.Kind, y59.No⟩ : Item)] : List Item).length) * 16 ≤ 140737488355328 ∧ x17.length + ([(⟨y47.Kind, y59.No⟩ : Item)] : List Item).length ≤ maxLen) <|
  chk (inR (x19 + 1)) <|
  law14_items_l2 N a0 x3 m (x17 ++ ([(⟨y47.Kind, y59.No⟩ : Item)] : List Item)) (x19 + 1))
  else
  (some (x17))
def law14_items_l1 (N : Nat) (a0 : List (List Item)) : Nat → (List (List Item)) → Int → Option ((List (List Item)))
  | 0, _, _ => none
  | m + 1, x1, x3 =>
  if decide (x3 < (a0.length : Int)) then
  (Option.bind (law14_items_l2 N a0 x3 N ([] : List Item) 0) fun o22 => match o22 with
  | x20 =>
  (chk ((x1.length + ([x20] : List (List Item)).length) * 24 ≤ 140737488355328 ∧ x1.length + ([x20] : List (List Item)).length ≤ maxLen) <|
  chk (inR (x3 + 1)) <|
  law14_items_l1 N a0 m (x1 ++ ([x20] : List (List Item))) (x3 + 1)))
  else
  (some (x1))
def law14_items (N : Nat) (a0 : List (List Item)) : Option ((List (List Item))) :=
  Option.bind (law14_items_l1 N a0 N ([] : List (List Item)) 0) fun o6 => match o6 with
  | x4 =>
  (some (x4))

def ref14_place_l2 (N : Nat) (a0 : List (List Item)) (a1 : Int) (a2 : Int) (x1 : Int) : Nat → Int → Option (Sum Unit (Int × Int))
  | 0, _ => none
  | m + 1, x12 =>
  Option.bind (idx a0 x1) fun y22 =>
  if decide (x12 < (y22.length : Int)) then
  (Option.bind (Option.bind (idx a0 x1) fun y33 =>
  Option.bind (idx y33 x12) fun y39 =>
  if decide (y39.Kind = a1) then
  (Option.bind (idx a0 x1) fun y46 =>
  Option.bind (idx y46 x12) fun y52 =>
  some (decide (y52.No = a2)))
  else
  (some (false))) fun o30 => match o30 with
  | x29 =>
  (if x29 then
  (some (.inr ((x1, x12))))
  else
  (chk (inR (x12 + 1)) <|
  ref14_place_l2 N a0 a1 a2 x1 m (x12 + 1))))
  else
  (some (Sum.inl ()))
def ref14_place_l1 (N : Nat) (a0 : List (List Item)) (a1 : Int) (a2 : Int) : Nat → Int → Option (Sum Unit (Int × Int))
  | 0, _ => none
  | m + 1, x1 =>
  if decide (x1 < (a0.length : Int)) then
  (Option.bind (ref14_place_l2 N a0 a1 a2 x1 N 0) fun o13 => match o13 with
  | .inl () =>
  (chk (inR (x1 + 1)) <|
  ref14_place_l1 N a0 a1 a2 m (x1 + 1))
  | .inr r => some (.inr r))
  else
  (some (Sum.inl ()))
def ref14_place (N : Nat) (a0 : List (List Item)) (a1 : Int) (a2 : Int) : Option (Int × Int) :=
  Option.bind (ref14_place_l1 N a0 a1 a2 N 0) fun o2 => match o2 with
  | .inl () =>
  (some ((-1, 0)))
  | .inr r => some r

def ref14_history_l1 (N : Nat) (a0 : List (List Item)) : Nat → Int → Option (Sum Unit Int)
  | 0, _ => none
  | m + 1, x11 =>
  if decide (x11 < (a0.length : Int)) then
  (Option.bind (idx a0 x11) fun y22 =>
  if decide (100 < (y22.length : Int)) then
  (some (.inr (9)))
  else
  (chk (inR (x11 + 1)) <|
  ref14_history_l1 N a0 m (x11 + 1)))
  else
  (some (Sum.inl ()))
def ref14_history_l3 (N : Nat) (a0 : List (List Item)) (x38 : Int) : Nat → Int → Option (Sum Unit Int)
  | 0, _ => none
  | m + 1, x49 =>
  Option.bind (idx a0 x38) fun y59 =>
  if decide (x49 < (y59.length : Int)) then
  (Option.bind (idx a0 x38) fun y66 =>
  Option.bind (idx y66 x49) fun y72 =>
  Option.bind (if decide (y72.Kind < 1) then
  (some (true))
  else
  (if decide (3 < y72.Kind) then
  (some (true))
  else
  (if decide (y72.Kind = 1) then
  (if !decide (y72.No = 0) then
  (some (true))
  else
  (some (decide (y72.No < 0))))
  else
  (some (decide (y72.No < 0)))))) fun o89 => match o89 with
  | x88 =>
  (if x88 then
  (some (.inr (2)))
  else
  (Option.bind (ref14_place N a0 y72.Kind y72.No) fun y117 =>
  Option.bind (if !decide (y72.Kind = 1) then
  (if !decide (y117.1 = x38) then
  (some (true))
  else
  (some (!decide (y117.2 = x49))))
  else
  (some (false))) fun o129 => match o129 with
  | x128 =>
  (if x128 then
  (some (.inr (2)))
  else
  (chk (inR (x49 + 1)) <|
  ref14_history_l3 N a0 x38 m (x49 + 1))))))
  else
  (some (Sum.inl ()))
def ref14_history_l2 (N : Nat) (a0 : List (List Item)) : Nat → Int → Option (Sum Unit Int)
  | 0, _ => none
  | m + 1, x38 =>
  if decide (x38 < (a0.length : Int)) then
  (Option.bind (ref14_history_l3 N a0 x38 N 0) fun o50 => match o50 with
  | .inl () =>
  (chk (inR (x38 + 1)) <|
  ref14_history_l2 N a0 m (x38 + 1))
  | .inr r => some (.inr r))
  else
  (some (Sum.inl ()))
def ref14_history_l5 (N : Nat) (a0 : List (List Item)) (x163 : Int) : Nat → Int → Option (Sum Unit Int)
  | 0, _ => none
  | m + 1, x174 =>
  Option.bind (idx a0 x163) fun y184 =>
  if decide (x174 < (y184.length : Int)) then
  (Option.bind (idx a0 x163) fun y191 =>
  Option.bind (idx y191 x174) fun y197 =>
  if decide (y197.Kind = 3) then
  (Option.bind (idx a0 x163) fun y204 =>
  Option.bind (idx y204 x174) fun y210 =>
  Option.bind (ref14_place N a0 2 y210.No) fun y216 =>
  Option.bind (if decide (y216.1 < 0) then
  (some (true))
  else
  (some (decide (y216.1 = x163)))) fun o228 => match o228 with
  | x227 =>
  (if x227 then
  (some (.inr (2)))
  else
  (chk (inR (x174 + 1)) <|
  ref14_history_l5 N a0 x163 m (x174 + 1))))
  else
  (chk (inR (x174 + 1)) <|
  ref14_history_l5 N a0 x163 m (x174 + 1)))
  else
  (some (Sum.inl ()))
def ref14_history_l4 (N : Nat) (a0 : List (List Item)) : Nat → Int → Option (Sum Unit Int)
  | 0, _ => none
  | m + 1, x163 =>
  if decide (x163 < (a0.length : Int)) then
  (Option.bind (ref14_history_l5 N a0 x163 N 0) fun o175 => match o175 with
  | .inl () =>
  (chk (inR (x163 + 1)) <|
  ref14_history_l4 N a0 m (x163 + 1))
  | .inr r => some (.inr r))
  else
  (some (Sum.inl ()))
def ref14_history (N : Nat) (a0 : List (List Item)) : Option (Int) :=
  Option.bind (if decide ((a0.length : Int) < 1) then
  (some (true))
  else
  (some (decide (64 < (a0.length : Int))))) fun o2 => match o2 with
  | x1 =>
  (if x1 then
  (some (3))
  else
  (Option.bind (ref14_history_l1 N a0 N 0) fun o12 => match o12 with
  | .inl () =>
  (Option.bind (ref14_history_l2 N a0 N 0) fun o39 => match o39 with
  | .inl () =>
  (Option.bind (ref14_history_l4 N a0 N 0) fun o164 => match o164 with
  | .inl () =>
  (some (0))
  | .inr r => some r)
  | .inr r => some r)
  | .inr r => some r))

def ref14_saves_l1 (N : Nat) (a0 : List Item) : Nat → Int → Int → Option (Int)
  | 0, _, _ => none
  | m + 1, x1, x2 =>
  if decide (x2 < (a0.length : Int)) then
  (Option.bind (idx a0 x2) fun y14 =>
  if decide (y14.Kind = 1) then
  (chk (inR (x1 + 1)) <|
  chk (inR (x2 + 1)) <|
  ref14_saves_l1 N a0 m (x1 + 1) (x2 + 1))
  else
  (chk (inR (x2 + 1)) <|
  ref14_saves_l1 N a0 m x1 (x2 + 1)))
  else
  (some (x1))
def ref14_saves (N : Nat) (a0 : List Item) : Option (Int) :=
  Option.bind (ref14_saves_l1 N a0 N 0 0) fun o4 => match o4 with
  | x3 =>
  (some (x3))

def ref14_before (N : Nat) (a0 : List Item) (a1 : Int) (a2 : Int) : Option (Bool) :=
  Option.bind (cut a0 0 a1) fun y1 =>
  Option.bind (ref14_saves N y1) fun y5 =>
  some (decide (y5 < a2))

def ref14_inserted_l1 (N : Nat) (a0 : List Int) (a1 : Int) : Nat → Int → Option (Int)
  | 0, _ => none
  | m + 1, x1 =>
  Option.bind (if decide (x1 < (a0.length : Int)) then
  (Option.bind (idx a0 x1) fun y17 =>
  some (decide (y17 < a1)))
  else
  (some (false))) fun o13 => match o13 with
  | x12 =>
  (if x12 then
  (chk (inR (x1 + 1)) <|
  ref14_inserted_l1 N a0 a1 m (x1 + 1))
  else
  (some (x1)))
def ref14_inserted (N : Nat) (a0 : List Int) (a1 : Int) : Option ((List Int)) :=
  Option.bind (ref14_inserted_l1 N a0 a1 N 0) fun o3 => match o3 with
  | x2 =>
  (Option.bind (cut a0 0 x2) fun y43 =>
  chk ((([] : List Int).length + y43.length) * 8 ≤ 140737488355328 ∧ ([] : List Int).length + y43.length ≤ maxLen) <|
  chk (((([] : List Int) ++ y43).length + ([a1] : List Int).length) * 8 ≤ 140737488355328 ∧ (([] : List Int) ++ y43).length + ([a1] : List Int).length ≤ maxLen) <|
  Option.bind (cut a0 x2 (a0.length : Int)) fun y63 =>
  chk ((((([] : List Int) ++ y43) ++ ([a1] : List Int)).length + y63.length) * 8 ≤ 140737488355328 ∧ ((([] : List Int) ++ y43) ++ ([a1] : List Int)).length + y63.length ≤ maxLen) <|
  some (((([] : List Int) ++ y43) ++ ([a1] : List Int)) ++ y63))

def ref14_Line_l1 (N : Nat) (a0 : List (List Item)) (a1 : List Int) : Nat → Int → Option (Sum Unit ((List Int) × (List Int) × Int))
  | 0, _ => none
  | m + 1, x10 =>
  if decide (x10 < (a0.length : Int)) then
  (Option.bind (Option.bind (idx a1 x10) fun y25 =>
  if decide (y25 < 0) then
  (some (true))
  else
  (Option.bind (idx a1 x10) fun y180 =>
  Option.bind (idx a0 x10) fun y184 =>
  Option.bind (ref14_saves N y184) fun y190 =>
  some (decide (y190 < y180)))) fun o22 => match o22 with
  | x21 =>
  (if x21 then
  (some (.inr ((([] : List Int), ([] : List Int), 3))))
  else
  (chk (inR (x10 + 1)) <|
  ref14_Line_l1 N a0 a1 m (x10 + 1))))
  else
  (some (Sum.inl ()))
def ref14_Line_l4 (N : Nat) (a0 : List (List Item)) (x410 : Int) : Nat → Bool → Int → (List Int) → Option (Bool × (List Int))
  | 0, _, _, _ => none
  | m + 1, x425, x426, x424 =>
  Option.bind (idx a0 x410) fun y439 =>
  if decide (x426 < (y439.length : Int)) then
  (Option.bind (Option.bind (idx a0 x410) fun y450 =>
  Option.bind (idx y450 x426) fun y456 =>
  if !decide (y456.Kind = 3) then
  (some (true))
  else
  (Option.bind (idx a0 x410) fun y662 =>
  Option.bind (idx x424 x410) fun y668 =>
  Option.bind (ref14_before N y662 x426 y668) fun y672 =>
  some (!y672))) fun o447 => match o447 with
  | x446 =>
  (if x446 then
  (chk (inR (x426 + 1)) <|
  ref14_Line_l4 N a0 x410 m x425 (x426 + 1) x424)
  else
  (Option.bind (idx a0 x410) fun y894 =>
  Option.bind (idx y894 x426) fun y900 =>
  Option.bind (ref14_place N a0 2 y900.No) fun y906 =>
  Option.bind (idx a0 y906.1) fun y917 =>
  Option.bind (idx x424 y906.1) fun y923 =>
  Option.bind (ref14_before N y917 y906.2 y923) fun y927 =>
  if !y927 then
  (Option.bind (idx a0 x410) fun y1037 =>
  Option.bind (cut y1037 0 x426) fun y1043 =>
  Option.bind (ref14_saves N y1043) fun y1047 =>
  Option.bind (idx x424 x410) fun _ =>
  chk (inR (x426 + 1)) <|
  ref14_Line_l4 N a0 x410 m true (x426 + 1) (x424.set (x410).toNat y1047))
  else
  (chk (inR (x426 + 1)) <|
  ref14_Line_l4 N a0 x410 m x425 (x426 + 1) x424))))
  else
  (some ((x425, x424)))
def ref14_Line_l3 (N : Nat) (a0 : List (List Item)) : Nat → Bool → Int → (List Int) → Option (Bool × (List Int))
  | 0, _, _, _ => none
  | m + 1, x409, x410, x408 =>
  if decide (x410 < (a0.length : Int)) then
  (Option.bind (ref14_Line_l4 N a0 x410 N x409 0 x408) fun o429 => match o429 with
  | (x428, x427) =>
  (chk (inR (x410 + 1)) <|
  ref14_Line_l3 N a0 m x428 (x410 + 1) x427))
  else
  (some ((x409, x408)))
def ref14_Line_l2 (N : Nat) (a0 : List (List Item)) : Nat → Bool → (List Int) → Option ((List Int))
  | 0, _, _ => none
  | m + 1, x395, x394 =>
  if x395 then
  (Option.bind (ref14_Line_l3 N a0 N false 0 x394) fun o413 => match o413 with
  | (x412, x411) =>
  (ref14_Line_l2 N a0 m x412 x411))
  else
  (some (x394))
def ref14_Line_l6 (N : Nat) (a0 : List (List Item)) (x396 : List Int) (x1094 : Int) : Nat → (List Int) → Int → Option ((List Int))
  | 0, _, _ => none
  | m + 1, x1109, x1111 =>
  Option.bind (idx a0 x1094) fun y1125 =>
  if decide (x1111 < (y1125.length : Int)) then
  (Option.bind (Option.bind (idx a0 x1094) fun y1136 =>
  Option.bind (idx y1136 x1111) fun y1142 =>
  if !decide (y1142.Kind = 2) then
  (some (true))
  else
  (Option.bind (idx a0 x1094) fun y1348 =>
  Option.bind (idx x396 x1094) fun y1354 =>
  Option.bind (ref14_before N y1348 x1111 y1354) fun y1358 =>
  some (!y1358))) fun o1133 => match o1133 with
  | x1132 =>
  (if x1132 then
  (chk (inR (x1111 + 1)) <|
  ref14_Line_l6 N a0 x396 x1094 m x1109 (x1111 + 1))
  else
  (Option.bind (idx a0 x1094) fun y1580 =>
  Option.bind (idx y1580 x1111) fun y1586 =>
  Option.bind (ref14_place N a0 3 y1586.No) fun y1592 =>
  Option.bind (if decide (y1592.1 < 0) then
  (some (true))
  else
  (Option.bind (idx a0 y1592.1) fun y1741 =>
  Option.bind (idx x396 y1592.1) fun y1747 =>
  Option.bind (ref14_before N y1741 y1592.2 y1747) fun y1751 =>
  some (!y1751))) fun o1604 => match o1604 with
  | x1603 =>
  (if x1603 then
  (Option.bind (idx a0 x1094) fun y1906 =>
  Option.bind (idx y1906 x1111) fun y1912 =>
  Option.bind (ref14_inserted N x1109 y1912.No) fun y1918 =>
  chk (inR (x1111 + 1)) <|
  ref14_Line_l6 N a0 x396 x1094 m y1918 (x1111 + 1))
  else
  (chk (inR (x1111 + 1)) <|
  ref14_Line_l6 N a0 x396 x1094 m x1109 (x1111 + 1))))))
  else
  (some (x1109))
def ref14_Line_l5 (N : Nat) (a0 : List (List Item)) (x396 : List Int) : Nat → (List Int) → Int → Option ((List Int))
  | 0, _, _ => none
  | m + 1, x1092, x1094 =>
  if decide (x1094 < (a0.length : Int)) then
  (Option.bind (ref14_Line_l6 N a0 x396 x1094 N x1092 0) fun o1114 => match o1114 with
  | x1112 =>
  (chk (inR (x1094 + 1)) <|
  ref14_Line_l5 N a0 x396 m x1112 (x1094 + 1)))
  else
  (some (x1092))
def ref14_Line (N : Nat) (a0 : List (List Item)) (a1 : List Int) : Option ((List Int) × (List Int) × Int) :=
  Option.bind (ref14_history N a0) fun y1 =>
  if !decide (y1 = 0) then
  (some ((([] : List Int), ([] : List Int), y1)))
  else
  (if !decide ((a1.length : Int) = (a0.length : Int)) then
  (some ((([] : List Int), ([] : List Int), 26)))
  else
  (Option.bind (ref14_Line_l1 N a0 a1 N 0) fun o11 => match o11 with
  | .inl () =>
  (chk ((([] : List Int).length + a1.length) * 8 ≤ 140737488355328 ∧ ([] : List Int).length + a1.length ≤ maxLen) <|
  Option.bind (ref14_Line_l2 N a0 N true (([] : List Int) ++ a1)) fun o397 => match o397 with
  | x396 =>
  (Option.bind (ref14_Line_l5 N a0 x396 N ([] : List Int) 0) fun o1097 => match o1097 with
  | x1095 =>
  (some ((x396, x1095, 0)))))
  | .inr r => some r))

def check_field_inverse (_N : Nat) (a0 : Field) (a1 : U8) : Option (U8) :=
  Option.bind (idx a0.log.l a1.n) fun y3 =>
  chk (inR (255 - y3)) <|
  Option.bind (idx a0.power.l (255 - y3)) fun y10 =>
  some (y10)

def check_field_row_l1 (N : Nat) (a0 : Field) (a1 : Int) (a2 : Int) : Nat → Int → (List U8) → Option ((List U8))
  | 0, _, _ => none
  | m + 1, x21, x20 =>
  if decide (x21 < (((a2).toNat : Nat) : Int)) then
  (chk (inR (a1 - a2)) <|
  chk (inR (16 + x21)) <|
  Option.bind (check_field_inverse N a0 (⟨convK .u8 (xorK .i64 (a1 - a2) (16 + x21))⟩ : U8)) fun y36 =>
  Option.bind (idx x20 x21) fun _ =>
  chk (inR (x21 + 1)) <|
  check_field_row_l1 N a0 a1 a2 m (x21 + 1) (x20.set (x21).toNat y36))
  else
  (some (x20))
def check_field_row (N : Nat) (a0 : Field) (a1 : Int) (a2 : Int) : Option ((List U8)) :=
  chk ((0 : Int) ≤ a2 ∧ (1 : Int) * a2 ≤ 281474976710656 ∧ a2 ≤ 9223372036854775807) <|
  if decide (a1 < a2) then
  (Option.bind (idx (List.replicate (a2).toNat (⟨0⟩ : U8)) a1) fun _ =>
  some ((List.replicate (a2).toNat (⟨0⟩ : U8)).set (a1).toNat (⟨1⟩ : U8)))
  else
  (Option.bind (check_field_row_l1 N a0 a1 a2 N 0 (List.replicate (a2).toNat (⟨0⟩ : U8))) fun o23 => match o23 with
  | x22 =>
  (some (x22)))

def slices_Clone_Lbyte_byte (_N : Nat) (a0 : List U8) : Option ((List U8)) :=
  chk ((([] : List U8).length + a0.length) * 1 ≤ 140737488355328 ∧ ([] : List U8).length + a0.length ≤ maxLen) <|
  some (([] : List U8) ++ a0)

def check_field_solve_1 (_N : Nat) (a0 : List U8) (a1 : Int) : Option (Bool) :=
  Option.bind (idx a0 a1) fun y1 =>
  some (!decide (y1.n = (⟨0⟩ : U8).n))

def slices_IndexFunc_LLcheck_Item_Lcheck_Item_l1 (N : Nat) (a0 : List (List Item)) (a1 : (List Item) → Option Bool) : Nat → Int → Option (Sum Unit Int)
  | 0, _ => none
  | m + 1, x1 =>
  if decide (x1 < (a0.length : Int)) then
  (Option.bind (idx a0 x1) fun y12 =>
  Option.bind (a1 y12) fun y18 =>
  if y18 then
  (some (.inr (x1)))
  else
  (chk (inR (x1 + 1)) <|
  slices_IndexFunc_LLcheck_Item_Lcheck_Item_l1 N a0 a1 m (x1 + 1)))
  else
  (some (Sum.inl ()))
def slices_IndexFunc_LLcheck_Item_Lcheck_Item (N : Nat) (a0 : List (List Item)) (a1 : (List Item) → Option Bool) : Option (Int) :=
  Option.bind (slices_IndexFunc_LLcheck_Item_Lcheck_Item_l1 N a0 a1 N 0) fun o2 => match o2 with
  | .inl () =>
  (some (-1))
  | .inr r => some r

def slices_ContainsFunc_LLcheck_Item_Lcheck_Item (N : Nat) (a0 : List (List Item)) (a1 : (List Item) → Option Bool) : Option (Bool) :=
  Option.bind (slices_IndexFunc_LLcheck_Item_Lcheck_Item N a0 a1) fun y1 =>
  some (decide (0 ≤ y1))

def check_passages_1 (_N : Nat) (a0 : List Item) : Option (Bool) :=
  some (decide (100 < (a0.length : Int)))

def check_field_mul (_N : Nat) (a0 : Field) (a1 : U8) (a2 : U8) : Option (U8) :=
  Option.bind (if decide (a1.n = (⟨0⟩ : U8).n) then
  (some (true))
  else
  (some (decide (a2.n = (⟨0⟩ : U8).n)))) fun o2 => match o2 with
  | x1 =>
  (if x1 then
  (some ((⟨0⟩ : U8)))
  else
  (Option.bind (idx a0.log.l a1.n) fun y13 =>
  Option.bind (idx a0.log.l a2.n) fun y19 =>
  chk (inR (y13 + y19)) <|
  Option.bind (idx a0.power.l (y13 + y19)) fun y26 =>
  some (y26)))

end Go.Arm
