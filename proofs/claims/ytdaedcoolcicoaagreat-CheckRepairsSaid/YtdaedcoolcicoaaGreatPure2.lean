/- A part of the proof. -/
import Derived.Test.YtdaedcoolcicoaaGreatHandG
namespace Go.Arm
open Go Go.RowKit Go.Proofs
noncomputable section
variable {σ : Type}
def check_Repair_l1 (N : Nat) (a0 : List (List U8)) (a1 : List Bool) : Nat → (List Int) → (List (List U8)) → Int → Option ((List Int) × (List (List U8)))
  | 0, _, _, _ => none
  | m + 1, x24, x26, x28 =>
  if decide (x28 < (a0.length : Int)) then
  (Option.bind (idx a0 x28) fun y46 =>
  Option.bind (idx a1 x28) fun y52 =>
  if y52 then
  (chk ((x24.length + ([x28] : List Int).length) * 8 ≤ 140737488355328 ∧ x24.length + ([x28] : List Int).length ≤ maxLen) <|
  chk ((x26.length + ([y46] : List (List U8)).length) * 24 ≤ 140737488355328 ∧ x26.length + ([y46] : List (List U8)).length ≤ maxLen) <|
  chk (inR (x28 + 1)) <|
  check_Repair_l1 N a0 a1 m (x24 ++ ([x28] : List Int)) (x26 ++ ([y46] : List (List U8))) (x28 + 1))
  else
  (chk (inR (x28 + 1)) <|
  check_Repair_l1 N a0 a1 m x24 x26 (x28 + 1)))
  else
  (some ((x24, x26)))
def check_Repair_l2 (N : Nat) (a0 : List (List U8)) (a1 : List Bool) (y105 : Field) (y122 : (List (List U8))) : Nat → Int → (List (List U8)) → Option (Sum ((List (List U8))) ((List (List U8)) × Int))
  | 0, _, _ => none
  | m + 1, x237, x236 =>
  if decide (x237 < ((((a0.length : Int)).toNat : Nat) : Int)) then
  (Option.bind (check_field_block N y105 x237 y122) fun y250 =>
  Option.bind (idx x236 x237) fun _ =>
  Option.bind (Option.bind (idx a1 x237) fun y267 =>
  if y267 then
  (Option.bind (idx (x236.set (x237).toNat y250) x237) fun y272 =>
  Option.bind (idx a0 x237) fun y276 =>
  Option.bind (bytes_Equal N y272 y276) fun y282 =>
  some (!y282))
  else
  (some (false))) fun o264 => match o264 with
  | x263 =>
  (if x263 then
  (some (.inr ((([] : List (List U8)), (20 : Int)))))
  else
  (chk (inR (x237 + 1)) <|
  check_Repair_l2 N a0 a1 y105 y122 m (x237 + 1) (x236.set (x237).toNat y250))))
  else
  (some (Sum.inl x236))
def check_Repair (N : Nat) (a0 : List (List U8)) (a1 : List Bool) (a2 : Int) : Option ((List (List U8)) × Int) :=
  Option.bind (Option.bind (if decide (a2 < 1) then
  (some (true))
  else
  (if decide (16 < a2) then
  (some (true))
  else
  (if decide ((a0.length : Int) < a2) then
  (some (true))
  else
  (chk (inR (a2 + 16)) <|
  some (decide ((a2 + 16) < (a0.length : Int))))))) fun o5 => match o5 with
  | x4 =>
  (if x4 then
  (some (.inr ((([] : List (List U8)), (3 : Int)))))
  else
  (if !decide ((a1.length : Int) = (a0.length : Int)) then
  (some (.inr ((([] : List (List U8)), (26 : Int)))))
  else
  (some (Sum.inl ()))))) fun o1 => match o1 with
  | .inl () =>
  (Option.bind (check_Repair_l1 N a0 a1 N ([] : List Int) ([] : List (List U8)) 0) fun o33 => match o33 with
  | (x29, x31) =>
  (if decide ((x31.length : Int) < a2) then
  (some ((([] : List (List U8)), (19 : Int))))
  else
  (Option.bind (check_sized N x31) fun y97 =>
  if !decide (y97 = 0) then
  (some ((([] : List (List U8)), y97)))
  else
  (Option.bind (check_newField N ) fun y105 =>
  Option.bind (cut x29 0 a2) fun y113 =>
  Option.bind (cut x31 0 a2) fun y118 =>
  Option.bind (check_field_solve N y105 y113 y118) fun y122 =>
  chk ((0 : Int) ≤ (a0.length : Int) ∧ (24 : Int) * (a0.length : Int) ≤ 281474976710656 ∧ (a0.length : Int) ≤ 9223372036854775807) <|
  Option.bind (check_Repair_l2 N a0 a1 y105 y122 N 0 (List.replicate ((a0.length : Int)).toNat ([] : List U8))) fun o239 => match o239 with
  | .inl x238 =>
  (some ((x238, 0)))
  | .inr r => some r))))
  | .inr r => some r

def ref14_Repair_l1 (N : Nat) (a0 : List (List U8)) (a1 : List Bool) : Nat → (List Int) → (List (List U8)) → Int → Option ((List Int) × (List (List U8)))
  | 0, _, _, _ => none
  | m + 1, x15, x17, x19 =>
  if decide (x19 < (a0.length : Int)) then
  (Option.bind (idx a1 x19) fun y37 =>
  if y37 then
  (chk ((x15.length + ([x19] : List Int).length) * 8 ≤ 140737488355328 ∧ x15.length + ([x19] : List Int).length ≤ maxLen) <|
  Option.bind (idx a0 x19) fun y54 =>
  chk ((x17.length + ([y54] : List (List U8)).length) * 24 ≤ 140737488355328 ∧ x17.length + ([y54] : List (List U8)).length ≤ maxLen) <|
  chk (inR (x19 + 1)) <|
  ref14_Repair_l1 N a0 a1 m (x15 ++ ([x19] : List Int)) (x17 ++ ([y54] : List (List U8))) (x19 + 1))
  else
  (chk (inR (x19 + 1)) <|
  ref14_Repair_l1 N a0 a1 m x15 x17 (x19 + 1)))
  else
  (some ((x15, x17)))
def ref14_Repair_l2 (N : Nat) (x22 : List (List U8)) : Nat → Int → Option (Sum Unit ((List (List U8)) × Int))
  | 0, _ => none
  | m + 1, x254 =>
  if decide (x254 < (x22.length : Int)) then
  (Option.bind (idx x22 x254) fun y269 =>
  Option.bind (idx x22 0) fun y276 =>
  if !decide ((y269.length : Int) = (y276.length : Int)) then
  (some (.inr ((([] : List (List U8)), (26 : Int)))))
  else
  (chk (inR (x254 + 1)) <|
  ref14_Repair_l2 N x22 m (x254 + 1)))
  else
  (some (Sum.inl ()))
def ref14_Repair_l3 (N : Nat) (a0 : List (List U8)) (a1 : List Bool) (a2 : Int) (y407 : (List (List U8))) : Nat → (List (List U8)) → Int → Option (Sum ((List (List U8))) ((List (List U8)) × Int))
  | 0, _, _ => none
  | m + 1, x501, x503 =>
  if decide (x503 < (a0.length : Int)) then
  (Option.bind (ref14_weights N x503 a2) fun y517 =>
  Option.bind (ref14_combined N y517 y407) fun y524 =>
  Option.bind (Option.bind (idx a1 x503) fun y535 =>
  if y535 then
  (Option.bind (idx a0 x503) fun y540 =>
  Option.bind (ref14_same N y524 y540) fun y546 =>
  some (!y546))
  else
  (some (false))) fun o532 => match o532 with
  | x531 =>
  (if x531 then
  (some (.inr ((([] : List (List U8)), (20 : Int)))))
  else
  (chk ((x501.length + ([y524] : List (List U8)).length) * 24 ≤ 140737488355328 ∧ x501.length + ([y524] : List (List U8)).length ≤ maxLen) <|
  chk (inR (x503 + 1)) <|
  ref14_Repair_l3 N a0 a1 a2 y407 m (x501 ++ ([y524] : List (List U8))) (x503 + 1))))
  else
  (some (Sum.inl x501))
def ref14_Repair (N : Nat) (a0 : List (List U8)) (a1 : List Bool) (a2 : Int) : Option ((List (List U8)) × Int) :=
  Option.bind (if decide (a2 < 1) then
  (some (true))
  else
  (if decide (16 < a2) then
  (some (true))
  else
  (if decide ((a0.length : Int) < a2) then
  (some (true))
  else
  (chk (inR (a2 + 16)) <|
  some (decide ((a2 + 16) < (a0.length : Int))))))) fun o2 => match o2 with
  | x1 =>
  (if x1 then
  (some ((([] : List (List U8)), (3 : Int))))
  else
  (if !decide ((a1.length : Int) = (a0.length : Int)) then
  (some ((([] : List (List U8)), (26 : Int))))
  else
  (Option.bind (ref14_Repair_l1 N a0 a1 N ([] : List Int) ([] : List (List U8)) 0) fun o24 => match o24 with
  | (x20, x22) =>
  (if decide ((x22.length : Int) < a2) then
  (some ((([] : List (List U8)), (19 : Int))))
  else
  (Option.bind (idx x22 0) fun y247 =>
  if decide (65536 < (y247.length : Int)) then
  (some ((([] : List (List U8)), (8 : Int))))
  else
  (Option.bind (ref14_Repair_l2 N x22 N 0) fun o255 => match o255 with
  | .inl () =>
  (Option.bind (cut x20 0 a2) fun y398 =>
  Option.bind (cut x22 0 a2) fun y403 =>
  Option.bind (ref14_solved N y398 y403) fun y407 =>
  Option.bind (ref14_Repair_l3 N a0 a1 a2 y407 N ([] : List (List U8)) 0) fun o506 => match o506 with
  | .inl x504 =>
  (some ((x504, 0)))
  | .inr r => some r)
  | .inr r => some r))))))

def check_Unite (N : Nat) (a0 : List (List U8)) (a1 : List Bool) (a2 : Int) : Option ((List U8) × Int) :=
  Option.bind (check_Repair N a0 a1 a2) fun y1 =>
  if !decide (y1.2 = 0) then
  (some ((([] : List U8), y1.2)))
  else
  (Option.bind (cut y1.1 0 a2) fun y13 =>
  Option.bind (slices_Concat_Lbyte_byte N y13) fun y17 =>
  if decide ((y17.length : Int) < 4) then
  (some ((([] : List U8), 7)))
  else
  (Option.bind (idx y17 0) fun y25 =>
  chk (inR (y25.n)) <|
  chk ((0 : Int) ≤ (⟨24⟩ : U64).n) <|
  Option.bind (idx y17 1) fun y31 =>
  chk (inR (y31.n)) <|
  chk ((0 : Int) ≤ (⟨16⟩ : U64).n) <|
  Option.bind (idx y17 2) fun y37 =>
  chk (inR (y37.n)) <|
  chk ((0 : Int) ≤ (⟨8⟩ : U64).n) <|
  Option.bind (idx y17 3) fun y43 =>
  chk (inR (y43.n)) <|
  Option.bind (chk (inR ((y17.length : Int) - 4)) <|
  if decide (((y17.length : Int) - 4) < (orK .i64 (orK .i64 (orK .i64 (shlK .i64 y25.n (⟨24⟩ : U64).n) (shlK .i64 y31.n (⟨16⟩ : U64).n)) (shlK .i64 y37.n (⟨8⟩ : U64).n)) y43.n)) then
  (some (true))
  else
  (chk (inR ((y17.length : Int) - 4)) <|
  chk (inR ((y17.length : Int) - 4 - (orK .i64 (orK .i64 (orK .i64 (shlK .i64 y25.n (⟨24⟩ : U64).n) (shlK .i64 y31.n (⟨16⟩ : U64).n)) (shlK .i64 y37.n (⟨8⟩ : U64).n)) y43.n))) <|
  if decide (a2 ≤ ((y17.length : Int) - 4 - (orK .i64 (orK .i64 (orK .i64 (shlK .i64 y25.n (⟨24⟩ : U64).n) (shlK .i64 y31.n (⟨16⟩ : U64).n)) (shlK .i64 y37.n (⟨8⟩ : U64).n)) y43.n))) then
  (some (true))
  else
  (chk (inR (4 + (orK .i64 (orK .i64 (orK .i64 (shlK .i64 y25.n (⟨24⟩ : U64).n) (shlK .i64 y31.n (⟨16⟩ : U64).n)) (shlK .i64 y37.n (⟨8⟩ : U64).n)) y43.n))) <|
  Option.bind (cut y17 (4 + (orK .i64 (orK .i64 (orK .i64 (shlK .i64 y25.n (⟨24⟩ : U64).n) (shlK .i64 y31.n (⟨16⟩ : U64).n)) (shlK .i64 y37.n (⟨8⟩ : U64).n)) y43.n)) (y17.length : Int)) fun y255 =>
  Option.bind (slices_ContainsFunc_Lbyte_byte N y255 (fun x => check_Unite_1 N x )) fun y259 =>
  some (y259)))) fun o246 => match o246 with
  | x245 =>
  (if x245 then
  (some ((([] : List U8), 7)))
  else
  (chk (inR (4 + (orK .i64 (orK .i64 (orK .i64 (shlK .i64 y25.n (⟨24⟩ : U64).n) (shlK .i64 y31.n (⟨16⟩ : U64).n)) (shlK .i64 y37.n (⟨8⟩ : U64).n)) y43.n))) <|
  Option.bind (cut y17 4 (4 + (orK .i64 (orK .i64 (orK .i64 (shlK .i64 y25.n (⟨24⟩ : U64).n) (shlK .i64 y31.n (⟨16⟩ : U64).n)) (shlK .i64 y37.n (⟨8⟩ : U64).n)) y43.n))) fun y272 =>
  Option.bind (slices_Clone_Lbyte_byte N y272) fun y276 =>
  some ((y276, 0))))))

def ref14_Unite_l1 (N : Nat) (a2 : Int) (y1 : (List (List U8)) × Int) : Nat → (List U8) → Int → Option ((List U8))
  | 0, _, _ => none
  | m + 1, x13, x15 =>
  if decide (x15 < a2) then
  (Option.bind (idx y1.1 x15) fun y29 =>
  chk ((x13.length + y29.length) * 1 ≤ 140737488355328 ∧ x13.length + y29.length ≤ maxLen) <|
  chk (inR (x15 + 1)) <|
  ref14_Unite_l1 N a2 y1 m (x13 ++ y29) (x15 + 1))
  else
  (some (x13))
def ref14_Unite_l2 (N : Nat) (a2 : Int) (y1 : (List (List U8)) × Int) (y303 : (List (List U8)) × Int) : Nat → Int → Option (Sum Unit ((List U8) × Int))
  | 0, _ => none
  | m + 1, x314 =>
  if decide (x314 < a2) then
  (Option.bind (idx y303.1 x314) fun y326 =>
  Option.bind (idx y1.1 x314) fun y332 =>
  Option.bind (ref14_same N y326 y332) fun y338 =>
  if !y338 then
  (some (.inr ((([] : List U8), 7))))
  else
  (chk (inR (x314 + 1)) <|
  ref14_Unite_l2 N a2 y1 y303 m (x314 + 1)))
  else
  (some (Sum.inl ()))
def ref14_Unite (N : Nat) (a0 : List (List U8)) (a1 : List Bool) (a2 : Int) : Option ((List U8) × Int) :=
  Option.bind (ref14_Repair N a0 a1 a2) fun y1 =>
  if !decide (y1.2 = 0) then
  (some ((([] : List U8), y1.2)))
  else
  (Option.bind (ref14_Unite_l1 N a2 y1 N ([] : List U8) 0) fun o18 => match o18 with
  | x16 =>
  (if decide ((x16.length : Int) < 4) then
  (some ((([] : List U8), 7)))
  else
  (Option.bind (idx x16 0) fun y53 =>
  chk (inR (y53.n)) <|
  chk (inR (y53.n * 16777216)) <|
  Option.bind (idx x16 1) fun y60 =>
  chk (inR (y60.n)) <|
  chk (inR (y60.n * 65536)) <|
  chk (inR (y53.n * 16777216 + (y60.n * 65536))) <|
  Option.bind (idx x16 2) fun y68 =>
  chk (inR (y68.n)) <|
  chk (inR (y68.n * 256)) <|
  chk (inR (y53.n * 16777216 + (y60.n * 65536) + (y68.n * 256))) <|
  Option.bind (idx x16 3) fun y76 =>
  chk (inR (y76.n)) <|
  chk (inR (y53.n * 16777216 + (y60.n * 65536) + (y68.n * 256) + y76.n)) <|
  chk (inR ((x16.length : Int) - 4)) <|
  if decide (((x16.length : Int) - 4) < (y53.n * 16777216 + (y60.n * 65536) + (y68.n * 256) + y76.n)) then
  (some ((([] : List U8), 7)))
  else
  (chk (inR (4 + (y53.n * 16777216 + (y60.n * 65536) + (y68.n * 256) + y76.n))) <|
  Option.bind (cut x16 4 (4 + (y53.n * 16777216 + (y60.n * 65536) + (y68.n * 256) + y76.n))) fun y292 =>
  chk ((([] : List U8).length + y292.length) * 1 ≤ 140737488355328 ∧ ([] : List U8).length + y292.length ≤ maxLen) <|
  Option.bind (ref14_Divide N (([] : List U8) ++ y292) a2 0) fun y303 =>
  Option.bind (ref14_Unite_l2 N a2 y1 y303 N 0) fun o315 => match o315 with
  | .inl () =>
  (some ((([] : List U8) ++ y292, 0)))
  | .inr r => some r))))

def law14_CheckRepairs (N : Nat) (a0 : List (List U8)) (a1 : List Bool) (a2 : Int) : Option (Bool) :=
  Option.bind (Option.bind (law14_few N a0) fun y5 =>
  if !y5 then
  (some (true))
  else
  (some (decide (50 < (a1.length : Int))))) fun o2 => match o2 with
  | x1 =>
  (if x1 then
  (Option.bind (law14_works N ) fun y18 =>
  some (y18))
  else
  (Option.bind (check_Repair N a0 a1 a2) fun y25 =>
  Option.bind (ref14_Repair N a0 a1 a2) fun y36 =>
  Option.bind (Option.bind (law14_equal N y25.1 y36.1) fun y51 =>
  if !y51 then
  (some (true))
  else
  (some (!decide (y25.2 = y36.2)))) fun o48 => match o48 with
  | x47 =>
  (if x47 then
  (some (false))
  else
  (Option.bind (check_Unite N a0 a1 a2) fun y64 =>
  Option.bind (ref14_Unite N a0 a1 a2) fun y75 =>
  if decide ((txtOf y64.1) = (txtOf y75.1)) then
  (if decide (y64.2 = y75.2) then
  (Option.bind (law14_works N ) fun y88 =>
  some (y88))
  else
  (some (false)))
  else
  (some (false))))))

end
end Go.Arm
