/- A part of the proof. -/
import Derived.Test.YtdaedcoolcicoaaGreatHandG
namespace Go.Arm
open Go Go.RowKit Go.Proofs
noncomputable section
variable {σ : Type}
def check_Repair_l1 (N : Nat) (a0 : List (List U8)) (a1 : List Bool) : Nat → (List Int) → (List (List U8)) → Int → Option ((List Int) × (List (List U8)))
  | 0, _, _, _ => none
  | m + 1, x24, x26, x28 =>
  if decide (x28 < (a0.length : Int)) then
  (Option.bind (idx a0 x28) fun y46 =>
  Option.bind (idx a1 x28) fun y52 =>
  if y52 then
  (chk ((x24.length + ([x28] : List Int).length) * 8 ≤ 140737488355328 ∧ x24.length + ([x28] : List Int).length ≤ maxLen) <|
  chk ((x26.length + ([y46] : List (List U8)).length) * 24 ≤ 140737488355328 ∧ x26.length + ([y46] : List (List U8)).length ≤ maxLen) <|
  chk (inR (x28 + 1)) <|
  check_Repair_l1 N a0 a1 m (x24 ++ ([x28] : List Int)) (x26 ++ ([y46] : List (List U8))) (x28 + 1))
  else
  (chk (inR (x28 + 1)) <|
  check_Repair_l1 N a0 a1 m x24 x26 (x28 + 1)))
  else
  (some ((x24, x26)))
def check_Repair_l2 (N : Nat) (a0 : List (List U8)) (a1 : List Bool) (y105 : Field) (y122 : (List (List U8))) : Nat → Int → (List (List U8)) → Option (Sum ((List (List U8))) ((List (List U8)) × Int))
  | 0, _, _ => none
  | m + 1, x237, x236 =>
  if decide (x237 < ((((a0.length : Int)).toNat : Nat) : Int)) then
  (Option.bind (check_field_block N y105 x237 y122) fun y250 =>
  Option.bind (idx x236 x237) fun _ =>
  Option.bind (Option.bind (idx a1 x237) fun y267 =>
  if y267 then
  (Option.bind (idx (x236.set (x237).toNat y250) x237) fun y272 =>
  Option.bind (idx a0 x237) fun y276 =>
  Option.bind (bytes_Equal N y272 y276) fun y282 =>
  some (!y282))
  else
  (some (false))) fun o264 => match o264 with
  | x263 =>
  (if x263 then
  (some (.inr ((([] : List (List U8)), (20 : Int)))))
  else
  (chk (inR (x237 + 1)) <|
  check_Repair_l2 N a0 a1 y105 y122 m (x237 + 1) (x236.set (x237).toNat y250))))
  else
  (some (Sum.inl x236))
def check_Repair (N : Nat) (a0 : List (List U8)) (a1 : List Bool) (a2 : Int) : Option ((List (List U8)) × Int) :=
  Option.bind (Option.bind (if decide (a2 < 1) then
  (some (true))
  else
  (if decide (16 < a2) then
  (some (true))
  else
  (if decide ((a0.length : Int) < a2) then
  (some (true))
  else
  (chk (inR (a2 + 16)) <|
  some (decide ((a2 + 16) < (a0.length : Int))))))) fun o5 => match o5 with
  | x4 =>
  (if x4 then
  (some (.inr ((([] : List (List U8)), (3 : Int)))))
  else
  (if !decide ((a1.length : Int) = (a0.length : Int)) then
  (some (.inr ((([] : List (List U8)), (26 : Int)))))
  else
  (some (Sum.inl ()))))) fun o1 => match o1 with
  | .inl () =>
  (Option.bind (check_Repair_l1 N a0 a1 N ([] : List Int) ([] : List (List U8)) 0) fun o33 => match o33 with
  | (x29, x31) =>
  (if decide ((x31.length : Int) < a2) then
  (some ((([] : List (List U8)), (19 : Int))))
  else
  (Option.bind (check_sized N x31) fun y97 =>
  if !decide (y97 = 0) then
  (some ((([] : List (List U8)), y97)))
  else
  (Option.bind (check_newField N ) fun y105 =>
  Option.bind (cut x29 0 a2) fun y113 =>
  Option.bind (cut x31 0 a2) fun y118 =>
  Option.bind (check_field_solve N y105 y113 y118) fun y122 =>
  chk ((0 : Int) ≤ (a0.length : Int) ∧ (24 : Int) * (a0.length : Int) ≤ 281474976710656 ∧ (a0.length : Int) ≤ 9223372036854775807) <|
  Option.bind (check_Repair_l2 N a0 a1 y105 y122 N 0 (List.replicate ((a0.length : Int)).toNat ([] : List U8))) fun o239 => match o239 with
  | .inl x238 =>
  (some ((x238, 0)))
  | .inr r => some r))))
  | .inr r => some r

def ref14_Repair_l1 (N : Nat) (a0 : List (List U8)) (a1 : List Bool) : Nat → (List Int) → (List (List U8)) → Int → Option ((List Int) × (List (List U8)))
  | 0, _, _, _ => none
  | m + 1, x15, x17, x19 =>
  if decide (x19 < (a0.length : Int)) then
  (Option.bind (idx a1 x19) fun y37 =>
  if y37 then
  (chk ((x15.length + ([x19] : List Int).length) * 8 ≤ 140737488355328 ∧ x15.length + ([x19] : List Int).length ≤ maxLen) <|
  Option.bind (idx a0 x19) fun y54 =>
  chk ((x17.length + ([y54] : List (List U8)).length) * 24 ≤ 140737488355328 ∧ x17.length + ([y54] : List (List U8)).length ≤ maxLen) <|
  chk (inR (x19 + 1)) <|
  ref14_Repair_l1 N a0 a1 m (x15 ++ ([x19] : List Int)) (x17 ++ ([y54] : List (List U8))) (x19 + 1))
  else
  (chk (inR (x19 + 1)) <|
  ref14_Repair_l1 N a0 a1 m x15 x17 (x19 + 1)))
  else
  (some ((x15, x17)))
def ref14_Repair_l2 (N : Nat) (x22 : List (List U8)) : Nat → Int → Option (Sum Unit ((List (List U8)) × Int))
  | 0, _ => none
  | m + 1, x254 =>
  if decide (x254 < (x22.length : Int)) then
  (Option.bind (idx x22 x254) fun y269 =>
  Option.bind (idx x22 0) fun y276 =>
  if !decide ((y269.length : Int) = (y276.length : Int)) then
  (some (.inr ((([] : List (List U8)), (26 : Int)))))
  else
  (chk (inR (x254 + 1)) <|
  ref14_Repair_l2 N x22 m (x254 + 1)))
  else
  (some (Sum.inl ()))
def ref14_Repair_l3 (N : Nat) (a0 : List (List U8)) (a1 : List Bool) (a2 : Int) (y407 : (List (List U8))) : Nat → (List (List U8)) → Int → Option (Sum ((List (List U8))) ((List (List U8)) × Int))
  | 0, _, _ => none
  | m + 1, x501, x503 =>
  if decide (x503 < (a0.length : Int)) then
  (Option.bind (ref14_weights N x503 a2) fun y517 =>
  Option.bind (ref14_combined N y517 y407) fun y524 =>
  Option.bind (Option.bind (idx a1 x503) fun y535 =>
  if y535 then
  (Option.bind (idx a0 x503) fun y540 =>
  Option.bind (ref14_same N y524 y540) fun y546 =>
  some (!y546))
  else
  (some (false))) fun o532 => match o532 with
  | x531 =>
  (if x531 then
  (some (.inr ((([] : List (List U8)), (20 : Int)))))
  else
  (chk ((x501.length + ([y524] : List (List U8)).length) * 24 ≤ 140737488355328 ∧ x501.length + ([y524] : List (List U8)).length ≤ maxLen) <|
  chk (inR (x503 + 1)) <|
  ref14_Repair_l3 N a0 a1 a2 y407 m (x501 ++ ([y524] : List (List U8))) (x503 + 1))))
  else
  (some (Sum.inl x501))
def ref14_Repair (N : Nat) (a0 : List (List U8)) (a1 : List Bool) (a2 : Int) : Option ((List (List U8)) × Int) :=
  Option.bind (if decide (a2 < 1) then
  (some (true))
  else
  (if decide (16 < a2) then
  (some (true))
  else
  (if decide ((a0.length : Int) < a2) then
  (some (true))
  else
  (chk (inR (a2 + 16)) <|
  some (decide ((a2 + 16) < (a0.length : Int))))))) fun o2 => match o2 with
  | x1 =>
  (if x1 then
  (some ((([] : List (List U8)), (3 : Int))))
  else
  (if !decide ((a1.length : Int) = (a0.length : Int)) then
  (some ((([] : List (List U8)), (26 : Int))))
  else
  (Option.bind (ref14_Repair_l1 N a0 a1 N ([] : List Int) ([] : List (List U8)) 0) fun o24 => match o24 with
  | (x20, x22) =>
  (if decide ((x22.length : Int) < a2) then
  (some ((([] : List (List U8)), (19 : Int))))
  else
  (Option.bind (idx x22 0) fun y247 =>
  if decide (65536 < (y247.length : Int)) then
  (some ((([] : List (List U8)), (8 : Int))))
  else
  (Option.bind (ref14_Repair_l2 N x22 N 0) fun o255 => match o255 with
  | .inl () =>
  (Option.bind (cut x20 0 a2) fun y398 =>
  Option.bind (cut x22 0 a2) fun y403 =>
  Option.bind (ref14_solved N y398 y403) fun y407 =>
  Option.bind (ref14_Repair_l3 N a0 a1 a2 y407 N ([] : List (List U8)) 0) fun o506 => match o506 with
  | .inl x504 =>
  (some ((x504, 0)))
  | .inr r => some r)
  | .inr r => some r))))))

def check_Blame_l1 (N : Nat) (a0 : List (List U8)) (a1 : Int) : Nat → (List Int) → Int → (List Bool) → Option ((List Int))
  | 0, _, _, _ => none
  | m + 1, x37, x39, x36 =>
  if decide (x39 < (a0.length : Int)) then
  (Option.bind (idx x36 x39) fun _ =>
  Option.bind (check_Repair N a0 (x36.set (x39).toNat false) a1) fun y65 =>
  if decide (y65.2 = 0) then
  (chk ((x37.length + ([x39] : List Int).length) * 8 ≤ 140737488355328 ∧ x37.length + ([x39] : List Int).length ≤ maxLen) <|
  Option.bind (idx (x36.set (x39).toNat false) x39) fun _ =>
  chk (inR (x39 + 1)) <|
  check_Blame_l1 N a0 a1 m (x37 ++ ([x39] : List Int)) (x39 + 1) ((x36.set (x39).toNat false).set (x39).toNat true))
  else
  (Option.bind (idx (x36.set (x39).toNat false) x39) fun _ =>
  chk (inR (x39 + 1)) <|
  check_Blame_l1 N a0 a1 m x37 (x39 + 1) ((x36.set (x39).toNat false).set (x39).toNat true)))
  else
  (some (x37))
def check_Blame (N : Nat) (a0 : List (List U8)) (a1 : Int) : Option (Int × Int) :=
  Option.bind (slices_Repeat_Lbool_bool N ([true] : List Bool) (min (a0.length : Int) 33)) fun y7 =>
  Option.bind (check_Repair N a0 y7 a1) fun y21 =>
  if !decide (y21.2 = 20) then
  (if !decide (y21.2 = 0) then
  (some ((0, y21.2)))
  else
  (some ((-1, 0))))
  else
  (Option.bind (check_Blame_l1 N a0 a1 N ([] : List Int) 0 y7) fun o42 => match o42 with
  | x40 =>
  (if !decide ((x40.length : Int) = 1) then
  (some ((0, 20)))
  else
  (Option.bind (idx x40 0) fun y117 =>
  some ((y117, 0)))))

def ref14_Blame_l1 (N : Nat) (a0 : List (List U8)) (a1 : Int) : Nat → Int → Int → Int → Option (Int × Int)
  | 0, _, _, _ => none
  | m + 1, x21, x22, x23 =>
  if decide (x23 < (a0.length : Int)) then
  (Option.bind (ref14_all N (a0.length : Int) x23) fun y36 =>
  Option.bind (ref14_Repair N a0 y36 a1) fun y43 =>
  if decide (y43.2 = 0) then
  (chk (inR (x21 + 1)) <|
  chk (inR (x23 + 1)) <|
  ref14_Blame_l1 N a0 a1 m (x21 + 1) x23 (x23 + 1))
  else
  (chk (inR (x23 + 1)) <|
  ref14_Blame_l1 N a0 a1 m x21 x22 (x23 + 1)))
  else
  (some ((x21, x22)))
def ref14_Blame (N : Nat) (a0 : List (List U8)) (a1 : Int) : Option (Int × Int) :=
  Option.bind (ref14_all N (a0.length : Int) (-1)) fun y1 =>
  Option.bind (ref14_Repair N a0 y1 a1) fun y8 =>
  if decide (y8.2 = 0) then
  (some ((-1, 0)))
  else
  (if !decide (y8.2 = 20) then
  (some ((0, y8.2)))
  else
  (Option.bind (ref14_Blame_l1 N a0 a1 N 0 0 0) fun o26 => match o26 with
  | (x24, x25) =>
  (if !decide (x24 = 1) then
  (some ((0, 20)))
  else
  (some ((x25, 0))))))

def law14_CheckBlames_l1 (N : Nat) (a0 : List (List U8)) : Nat → Int → Int → Option (Int)
  | 0, _, _ => none
  | m + 1, x1, x2 =>
  Option.bind (if decide (x2 < (a0.length : Int)) then
  (some (decide (x2 < 41)))
  else
  (some (false))) fun o14 => match o14 with
  | x13 =>
  (if x13 then
  (Option.bind (idx a0 x2) fun y23 =>
  chk (inR (x2 + 1)) <|
  law14_CheckBlames_l1 N a0 m (addK .i64 x1 (y23.length : Int)) (x2 + 1))
  else
  (some (x1)))
def law14_CheckBlames (N : Nat) (a0 : List (List U8)) (a1 : Int) : Option (Bool) :=
  Option.bind (law14_CheckBlames_l1 N a0 N 0 0) fun o4 => match o4 with
  | x3 =>
  (Option.bind (if decide (40 < (a0.length : Int)) then
  (some (true))
  else
  (some (decide (400 < x3)))) fun o41 => match o41 with
  | x40 =>
  (if x40 then
  (Option.bind (law14_works N ) fun y50 =>
  some (y50))
  else
  (Option.bind (check_Blame N a0 a1) fun y57 =>
  Option.bind (ref14_Blame N a0 a1) fun y68 =>
  if decide (y57.1 = y68.1) then
  (if decide (y57.2 = y68.2) then
  (Option.bind (law14_works N ) fun y81 =>
  some (y81))
  else
  (some (false)))
  else
  (some (false)))))

end
end Go.Arm
