/- A part of the proof. -/
import Derived.Test.YtdaedcoolcicoaaPure2
namespace Go.Arm
open Go Go.RowKit
noncomputable section
def ref14_times_l1 (N : Nat) (a1 : U8) : Nat → Int → Int → Int → Option (Int)
  | 0, _, _, _ => none
  | m + 1, x2, x3, x4 =>
  if decide (x4 < 8) then
  (chk (inR (a1.n)) <|
  chk ((0 : Int) ≤ x4) <|
  chk (2 ≠ (0 : Int)) <|
  if decide ((Int.tmod (shrK .i64 a1.n x4) 2) = 1) then
  (chk (inR (x2 * 2)) <|
  if decide (255 < (x2 * 2)) then
  (chk (inR (x4 + 1)) <|
  ref14_times_l1 N a1 m (xorK .i64 (x2 * 2) 285) (xorK .i64 x3 x2) (x4 + 1))
  else
  (chk (inR (x4 + 1)) <|
  ref14_times_l1 N a1 m (x2 * 2) (xorK .i64 x3 x2) (x4 + 1)))
  else
  (chk (inR (x2 * 2)) <|
  if decide (255 < (x2 * 2)) then
  (chk (inR (x4 + 1)) <|
  ref14_times_l1 N a1 m (xorK .i64 (x2 * 2) 285) x3 (x4 + 1))
  else
  (chk (inR (x4 + 1)) <|
  ref14_times_l1 N a1 m (x2 * 2) x3 (x4 + 1))))
  else
  (some (x3))
def ref14_times (N : Nat) (a0 : U8) (a1 : U8) : Option (U8) :=
  chk (inR (a0.n)) <|
  Option.bind (ref14_times_l1 N a1 N a0.n 0 0) fun o6 => match o6 with
  | x5 =>
  (some ((⟨convK .u8 x5⟩ : U8)))
def ref14_combined_l2 (N : Nat) (a0 : List U8) (a1 : List (List U8)) (y1 : List U8) (x15 : Int) : Nat → Int → (List U8) → Option ((List U8))
  | 0, _, _ => none
  | m + 1, x29, x28 =>
  if decide (x29 < ((((y1.length : Int)).toNat : Nat) : Int)) then
  (Option.bind (idx x28 x29) fun y42 =>
  Option.bind (idx a0 x15) fun y46 =>
  Option.bind (idx a1 x15) fun y50 =>
  Option.bind (idx y50 x29) fun y56 =>
  Option.bind (ref14_times N y46 y56) fun y60 =>
  Option.bind (idx x28 x29) fun _ =>
  chk (inR (x29 + 1)) <|
  ref14_combined_l2 N a0 a1 y1 x15 m (x29 + 1) (x28.set (x29).toNat (⟨xorK .u8 y42.n y60.n⟩ : U8)))
  else
  (some (x28))
def ref14_combined_l1 (N : Nat) (a0 : List U8) (a1 : List (List U8)) (y1 : List U8) : Nat → Int → (List U8) → Option ((List U8))
  | 0, _, _ => none
  | m + 1, x15, x14 =>
  if decide (x15 < (a0.length : Int)) then
  (Option.bind (ref14_combined_l2 N a0 a1 y1 x15 N 0 x14) fun o31 => match o31 with
  | x30 =>
  (chk (inR (x15 + 1)) <|
  ref14_combined_l1 N a0 a1 y1 m (x15 + 1) x30))
  else
  (some (x14))
def ref14_combined (N : Nat) (a0 : List U8) (a1 : List (List U8)) : Option ((List U8)) :=
  Option.bind (idx a1 0) fun y1 =>
  chk ((0 : Int) ≤ (y1.length : Int) ∧ (1 : Int) * (y1.length : Int) ≤ 281474976710656 ∧ (y1.length : Int) ≤ 9223372036854775807) <|
  Option.bind (ref14_combined_l1 N a0 a1 y1 N 0 (List.replicate ((y1.length : Int)).toNat (⟨0⟩ : U8))) fun o17 => match o17 with
  | x16 =>
  (some (x16))
def ref14_inverse_l1 (N : Nat) (a0 : U8) : Nat → Int → Option (Sum Unit U8)
  | 0, _ => none
  | m + 1, x1 =>
  if decide (x1 < 256) then
  (Option.bind (ref14_times N a0 (⟨convK .u8 x1⟩ : U8)) fun y12 =>
  if decide (y12.n = (⟨1⟩ : U8).n) then
  (some (.inr ((⟨convK .u8 x1⟩ : U8))))
  else
  (chk (inR (x1 + 1)) <|
  ref14_inverse_l1 N a0 m (x1 + 1)))
  else
  (some (Sum.inl ()))
def ref14_inverse (N : Nat) (a0 : U8) : Option (U8) :=
  Option.bind (ref14_inverse_l1 N a0 N 1) fun o2 => match o2 with
  | .inl () =>
  (some ((⟨0⟩ : U8)))
  | .inr r => some r
def ref14_factor (N : Nat) (a0 : Int) (a1 : Int) : Option (U8) :=
  chk (inR (16 + a1)) <|
  Option.bind (ref14_inverse N (⟨convK .u8 (xorK .i64 a0 (16 + a1))⟩ : U8)) fun y2 =>
  some (y2)
def ref14_weights_l1 (N : Nat) (a0 : Int) (a1 : Int) : Nat → Int → (List U8) → Option ((List U8))
  | 0, _, _ => none
  | m + 1, x9, x8 =>
  if decide (x9 < a1) then
  (if decide (a1 ≤ a0) then
  (chk (inR (a0 - a1)) <|
  Option.bind (ref14_factor N (a0 - a1) x9) fun y24 =>
  Option.bind (idx x8 x9) fun _ =>
  chk (inR (x9 + 1)) <|
  ref14_weights_l1 N a0 a1 m (x9 + 1) (x8.set (x9).toNat y24))
  else
  (chk (inR (x9 + 1)) <|
  ref14_weights_l1 N a0 a1 m (x9 + 1) x8))
  else
  (some (x8))
def ref14_weights (N : Nat) (a0 : Int) (a1 : Int) : Option ((List U8)) :=
  chk ((0 : Int) ≤ a1 ∧ (1 : Int) * a1 ≤ 281474976710656 ∧ a1 ≤ 9223372036854775807) <|
  Option.bind (ref14_weights_l1 N a0 a1 N 0 (List.replicate (a1).toNat (⟨0⟩ : U8))) fun o11 => match o11 with
  | x10 =>
  (if decide (a0 < a1) then
  (Option.bind (idx x10 a0) fun _ =>
  some (x10.set (a0).toNat (⟨1⟩ : U8)))
  else
  (some (x10)))
def ref14_Parity_l1 (N : Nat) (a0 : List (List U8)) : Nat → Int → Option (Sum Unit ((List (List U8)) × Int))
  | 0, _ => none
  | m + 1, x20 =>
  if decide (x20 < (a0.length : Int)) then
  (Option.bind (idx a0 x20) fun y31 =>
  Option.bind (idx a0 0) fun y37 =>
  if !decide ((y31.length : Int) = (y37.length : Int)) then
  (some (.inr ((([] : List (List U8)), (26 : Int)))))
  else
  (chk (inR (x20 + 1)) <|
  ref14_Parity_l1 N a0 m (x20 + 1)))
  else
  (some (Sum.inl ()))
def ref14_Parity_l2 (N : Nat) (a0 : List (List U8)) (a1 : Int) : Nat → (List (List U8)) → Int → Option ((List (List U8)))
  | 0, _, _ => none
  | m + 1, x153, x155 =>
  if decide (x155 < a1) then
  (chk (inR ((a0.length : Int) + x155)) <|
  Option.bind (ref14_weights N ((a0.length : Int) + x155) (a0.length : Int)) fun y170 =>
  Option.bind (ref14_combined N y170 a0) fun y177 =>
  chk ((x153.length + ([y177] : List (List U8)).length) * 24 ≤ 140737488355328 ∧ x153.length + ([y177] : List (List U8)).length ≤ maxLen) <|
  chk (inR (x155 + 1)) <|
  ref14_Parity_l2 N a0 a1 m (x153 ++ ([y177] : List (List U8))) (x155 + 1))
  else
  (some (x153))
def ref14_Parity (N : Nat) (a0 : List (List U8)) (a1 : Int) : Option ((List (List U8)) × Int) :=
  Option.bind (if decide ((a0.length : Int) < 1) then
  (some (true))
  else
  (if decide (16 < (a0.length : Int)) then
  (some (true))
  else
  (if decide (a1 < 0) then
  (some (true))
  else
  (some (decide (16 < a1)))))) fun o2 => match o2 with
  | x1 =>
  (if x1 then
  (some ((([] : List (List U8)), (3 : Int))))
  else
  (Option.bind (idx a0 0) fun y13 =>
  if decide (65536 < (y13.length : Int)) then
  (some ((([] : List (List U8)), (8 : Int))))
  else
  (Option.bind (ref14_Parity_l1 N a0 N 0) fun o21 => match o21 with
  | .inl () =>
  (Option.bind (ref14_Parity_l2 N a0 a1 N ([] : List (List U8)) 0) fun o158 => match o158 with
  | x156 =>
  (some ((x156, 0))))
  | .inr r => some r)))
def ref14_Divide_l1 (N : Nat) (a1 : Int) : Nat → (List U8) → Option ((List U8))
  | 0, _ => none
  | m + 1, x30 =>
  chk (a1 ≠ (0 : Int)) <|
  if !decide ((Int.tmod (x30.length : Int) a1) = 0) then
  (chk ((x30.length + ([(⟨0⟩ : U8)] : List U8).length) * 1 ≤ 140737488355328 ∧ x30.length + ([(⟨0⟩ : U8)] : List U8).length ≤ maxLen) <|
  ref14_Divide_l1 N a1 m (x30 ++ ([(⟨0⟩ : U8)] : List U8)))
  else
  (some (x30))
def ref14_Divide_l2 (N : Nat) (a1 : Int) (x32 : List U8) : Nat → (List (List U8)) → Int → Option ((List (List U8)))
  | 0, _, _ => none
  | m + 1, x69, x71 =>
  if decide (x71 < a1) then
  (chk (inR (x71 * (Int.tdiv (x32.length : Int) a1))) <|
  chk (inR (x71 + 1)) <|
  chk (inR ((x71 + 1) * (Int.tdiv (x32.length : Int) a1))) <|
  Option.bind (cut x32 (x71 * (Int.tdiv (x32.length : Int) a1)) ((x71 + 1) * (Int.tdiv (x32.length : Int) a1))) fun y91 =>
  chk ((x69.length + ([y91] : List (List U8)).length) * 24 ≤ 140737488355328 ∧ x69.length + ([y91] : List (List U8)).length ≤ maxLen) <|
  chk (inR (x71 + 1)) <|
  ref14_Divide_l2 N a1 x32 m (x69 ++ ([y91] : List (List U8))) (x71 + 1))
  else
  (some (x69))
def ref14_Divide (N : Nat) (a0 : List U8) (a1 : Int) (a2 : Int) : Option ((List (List U8)) × Int) :=
  Option.bind (if decide (a1 < 1) then
  (some (true))
  else
  (if decide (16 < a1) then
  (some (true))
  else
  (if decide (a2 < 0) then
  (some (true))
  else
  (some (decide (16 < a2)))))) fun o2 => match o2 with
  | x1 =>
  (if x1 then
  (some ((([] : List (List U8)), (3 : Int))))
  else
  (chk (inR ((a0.length : Int) + 4)) <|
  chk (inR (a1 * 65536)) <|
  if decide ((a1 * 65536) < ((a0.length : Int) + 4)) then
  (some ((([] : List (List U8)), (8 : Int))))
  else
  (chk (16777216 ≠ (0 : Int) ∧ inR (Int.tdiv (a0.length : Int) 16777216)) <|
  chk (65536 ≠ (0 : Int) ∧ inR (Int.tdiv (a0.length : Int) 65536)) <|
  chk (256 ≠ (0 : Int) ∧ inR (Int.tdiv (a0.length : Int) 256)) <|
  chk ((([(⟨convK .u8 (Int.tdiv (a0.length : Int) 16777216)⟩ : U8), (⟨convK .u8 (Int.tdiv (a0.length : Int) 65536)⟩ : U8), (⟨convK .u8 (Int.tdiv (a0.length : Int) 256)⟩ : U8), (⟨convK .u8 (a0.length : Int)⟩ : U8)] : List U8).length + a0.length) * 1 ≤ 140737488355328 ∧ ([(⟨convK .u8 (Int.tdiv (a0.length : Int) 16777216)⟩ : U8), (⟨convK .u8 (Int.tdiv (a0.length : Int) 65536)⟩ : U8), (⟨convK .u8 (Int.tdiv (a0.length : Int) 256)⟩ : U8), (⟨convK .u8 (a0.length : Int)⟩ : U8)] : List U8).length + a0.length ≤ maxLen) <|
  Option.bind (ref14_Divide_l1 N a1 N (([(⟨convK .u8 (Int.tdiv (a0.length : Int) 16777216)⟩ : U8), (⟨convK .u8 (Int.tdiv (a0.length : Int) 65536)⟩ : U8), (⟨convK .u8 (Int.tdiv (a0.length : Int) 256)⟩ : U8), (⟨convK .u8 (a0.length : Int)⟩ : U8)] : List U8) ++ a0)) fun o34 => match o34 with
  | x32 =>
  (chk (a1 ≠ (0 : Int) ∧ inR (Int.tdiv (x32.length : Int) a1)) <|
  Option.bind (ref14_Divide_l2 N a1 x32 N ([] : List (List U8)) 0) fun o74 => match o74 with
  | x72 =>
  (Option.bind (ref14_Parity N x72 a2) fun y118 =>
  chk ((x72.length + y118.1.length) * 24 ≤ 140737488355328 ∧ x72.length + y118.1.length ≤ maxLen) <|
  some ((x72 ++ y118.1, y118.2)))))))
def ref14_same (_N : Nat) (a0 : List U8) (a1 : List U8) : Option (Bool) :=
  some (decide ((txtOf a0) = (txtOf a1)))
def ref14_all_l1 (N : Nat) (a0 : Int) (a1 : Int) : Nat → (List Bool) → Int → Option ((List Bool))
  | 0, _, _ => none
  | m + 1, x1, x3 =>
  if decide (x3 < a0) then
  (chk ((x1.length + ([!decide (x3 = a1)] : List Bool).length) * 1 ≤ 140737488355328 ∧ x1.length + ([!decide (x3 = a1)] : List Bool).length ≤ maxLen) <|
  chk (inR (x3 + 1)) <|
  ref14_all_l1 N a0 a1 m (x1 ++ ([!decide (x3 = a1)] : List Bool)) (x3 + 1))
  else
  (some (x1))
def ref14_all (N : Nat) (a0 : Int) (a1 : Int) : Option ((List Bool)) :=
  Option.bind (ref14_all_l1 N a0 a1 N ([] : List Bool) 0) fun o6 => match o6 with
  | x4 =>
  (some (x4))
def initR (N : Nat) (ws : List Int) (data : List (List U8)) (k : Int) : Nat → Int → List (List U8) → List (List U8) → Option (List (List U8) × List (List U8))
  | 0, _, _, _ => none
  | m + 1, i, R, L => if decide (i < k) then
    Option.bind (idx ws i) fun w => Option.bind (ref14_weights N w k) fun x => chk ((R.length + 1) * 24 ≤ 140737488355328 ∧ R.length + 1 ≤ maxLen) <| Option.bind (idx data i) fun d =>
    chk ((([] : List U8).length + d.length) * 1 ≤ 140737488355328 ∧ ([] : List U8).length + d.length ≤ maxLen) <| chk ((L.length + 1) * 24 ≤ 140737488355328 ∧ L.length + 1 ≤ maxLen) <| chk (inR (i + 1)) <|
    initR N ws data k m (i + 1) (R ++ [x]) (L ++ [d])
    else some (R, L)
def elimR (N : Nat) (c k : Int) : Nat → Int → List (List U8) → List (List U8) → Option (List (List U8) × List (List U8))
  | 0, _, _, _ => none
  | m + 1, r, R, L => if decide (r < k) then
    if !decide (r = c) then
      Option.bind (idx R r) fun x => Option.bind (idx x c) fun e => Option.bind (idx R c) fun z => Option.bind (addR (fun y => ref14_times N y e) z N 0 x) fun x' =>
      Option.bind (idx L r) fun y => Option.bind (idx L c) fun u => Option.bind (addR (fun q => ref14_times N q e) u N 0 y) fun y' =>
      chk (inR (r + 1)) <| elimR N c k m (r + 1) (R.set r.toNat x') (L.set r.toNat y')
    else chk (inR (r + 1)) <| elimR N c k m (r + 1) R L
    else some (R, L)
def findR (R : List (List U8)) (c : Int) : Nat → Int → Option Int
  | 0, _ => none
  | m + 1, p => Option.bind (idx R p) fun x => Option.bind (idx x c) fun e => if decide (e.n = 0) then chk (inR (p + 1)) <| findR R c m (p + 1) else some p
def stepR (N : Nat) (k : Int) : Nat → Int → List (List U8) → List (List U8) → Option (List (List U8))
  | 0, _, _, _ => none
  | m + 1, c, R, L => if decide (c < k) then
    Option.bind (findR R c N c) fun q =>
    Option.bind (swapG R q c) fun R1 => Option.bind (swapG L q c) fun L1 =>
    Option.bind (idx R1 c) fun x => Option.bind (idx x c) fun e => Option.bind (ref14_inverse N e) fun e' =>
    Option.bind (scaleG (fun y => ref14_times N y e') N 0 x) fun x' =>
    Option.bind (idx L1 c) fun y => Option.bind (scaleG (fun z => ref14_times N z e') N 0 y) fun y' =>
    Option.bind (elimR N c k N 0 (R1.set c.toNat x') (L1.set c.toNat y')) fun o => chk (inR (c + 1)) <| stepR N k m (c + 1) o.1 o.2
    else some L
def ref14_solved (N : Nat) (a0 : List Int) (a1 : List (List U8)) : Option (List (List U8)) :=
  Option.bind (initR N a0 a1 (a1.length : Int) N 0 [] []) fun o => stepR N (a1.length : Int) N 0 o.1 o.2

set_option maxRecDepth 4000 in
def ref14_Repair_l1 (N : Nat) (a0 : List (List U8)) (a1 : List Bool) : Nat → (List Int) → (List (List U8)) → Int → Option ((List Int) × (List (List U8)))
  | 0, _, _, _ => none
  | m + 1, x15, x17, x19 =>
  if decide (x19 < (a0.length : Int)) then
  (Option.bind (idx a1 x19) fun y37 =>
  if y37 then
  (chk ((x15.length + ([x19] : List Int).length) * 8 ≤ 140737488355328 ∧ x15.length + ([x19] : List Int).length ≤ maxLen) <|
  Option.bind (idx a0 x19) fun y54 =>
  chk ((x17.length + ([y54] : List (List U8)).length) * 24 ≤ 140737488355328 ∧ x17.length + ([y54] : List (List U8)).length ≤ maxLen) <|
  chk (inR (x19 + 1)) <|
  ref14_Repair_l1 N a0 a1 m (x15 ++ ([x19] : List Int)) (x17 ++ ([y54] : List (List U8))) (x19 + 1))
  else
  (chk (inR (x19 + 1)) <|
  ref14_Repair_l1 N a0 a1 m x15 x17 (x19 + 1)))
  else
  (some ((x15, x17)))
def ref14_Repair_l2 (N : Nat) (x22 : List (List U8)) : Nat → Int → Option (Sum Unit ((List (List U8)) × Int))
  | 0, _ => none
  | m + 1, x254 =>
  if decide (x254 < (x22.length : Int)) then
  (Option.bind (idx x22 x254) fun y269 =>
  Option.bind (idx x22 0) fun y276 =>
  if !decide ((y269.length : Int) = (y276.length : Int)) then
  (some (.inr ((([] : List (List U8)), (26 : Int)))))
  else
  (chk (inR (x254 + 1)) <|
  ref14_Repair_l2 N x22 m (x254 + 1)))
  else
  (some (Sum.inl ()))
def ref14_Repair_l3 (N : Nat) (a0 : List (List U8)) (a1 : List Bool) (a2 : Int) (y407 : (List (List U8))) : Nat → (List (List U8)) → Int → Option (Sum ((List (List U8))) ((List (List U8)) × Int))
  | 0, _, _ => none
  | m + 1, x501, x503 =>
  if decide (x503 < (a0.length : Int)) then
  (Option.bind (ref14_weights N x503 a2) fun y517 =>
  Option.bind (ref14_combined N y517 y407) fun y524 =>
  Option.bind (Option.bind (idx a1 x503) fun y535 =>
  if y535 then
  (Option.bind (idx a0 x503) fun y540 =>
  Option.bind (ref14_same N y524 y540) fun y546 =>
  some (!y546))
  else
  (some (false))) fun o532 => match o532 with
  | x531 =>
  (if x531 then
  (some (.inr ((([] : List (List U8)), (20 : Int)))))
  else
  (chk ((x501.length + ([y524] : List (List U8)).length) * 24 ≤ 140737488355328 ∧ x501.length + ([y524] : List (List U8)).length ≤ maxLen) <|
  chk (inR (x503 + 1)) <|
  ref14_Repair_l3 N a0 a1 a2 y407 m (x501 ++ ([y524] : List (List U8))) (x503 + 1))))
  else
  (some (Sum.inl x501))
def ref14_Repair (N : Nat) (a0 : List (List U8)) (a1 : List Bool) (a2 : Int) : Option ((List (List U8)) × Int) :=
  Option.bind (if decide (a2 < 1) then
  (some (true))
  else
  (if decide (16 < a2) then
  (some (true))
  else
  (if decide ((a0.length : Int) < a2) then
  (some (true))
  else
  (chk (inR (a2 + 16)) <|
  some (decide ((a2 + 16) < (a0.length : Int))))))) fun o2 => match o2 with
  | x1 =>
  (if x1 then
  (some ((([] : List (List U8)), (3 : Int))))
  else
  (if !decide ((a1.length : Int) = (a0.length : Int)) then
  (some ((([] : List (List U8)), (26 : Int))))
  else
  (Option.bind (ref14_Repair_l1 N a0 a1 N ([] : List Int) ([] : List (List U8)) 0) fun o24 => match o24 with
  | (x20, x22) =>
  (if decide ((x22.length : Int) < a2) then
  (some ((([] : List (List U8)), (19 : Int))))
  else
  (Option.bind (idx x22 0) fun y247 =>
  if decide (65536 < (y247.length : Int)) then
  (some ((([] : List (List U8)), (8 : Int))))
  else
  (Option.bind (ref14_Repair_l2 N x22 N 0) fun o255 => match o255 with
  | .inl () =>
  (Option.bind (cut x20 0 a2) fun y398 =>
  Option.bind (cut x22 0 a2) fun y403 =>
  Option.bind (ref14_solved N y398 y403) fun y407 =>
  Option.bind (ref14_Repair_l3 N a0 a1 a2 y407 N ([] : List (List U8)) 0) fun o506 => match o506 with
  | .inl x504 =>
  (some ((x504, 0)))
  | .inr r => some r)
  | .inr r => some r))))))
def ref14_Unite_l1 (N : Nat) (a2 : Int) (y1 : (List (List U8)) × Int) : Nat → (List U8) → Int → Option ((List U8))
  | 0, _, _ => none
  | m + 1, x13, x15 =>
  if decide (x15 < a2) then
  (Option.bind (idx y1.1 x15) fun y29 =>
  chk ((x13.length + y29.length) * 1 ≤ 140737488355328 ∧ x13.length + y29.length ≤ maxLen) <|
  chk (inR (x15 + 1)) <|
  ref14_Unite_l1 N a2 y1 m (x13 ++ y29) (x15 + 1))
  else
  (some (x13))
def ref14_Unite_l2 (N : Nat) (a2 : Int) (y1 : (List (List U8)) × Int) (y303 : (List (List U8)) × Int) : Nat → Int → Option (Sum Unit ((List U8) × Int))
  | 0, _ => none
  | m + 1, x314 =>
  if decide (x314 < a2) then
  (Option.bind (idx y303.1 x314) fun y326 =>
  Option.bind (idx y1.1 x314) fun y332 =>
  Option.bind (ref14_same N y326 y332) fun y338 =>
  if !y338 then
  (some (.inr ((([] : List U8), 7))))
  else
  (chk (inR (x314 + 1)) <|
  ref14_Unite_l2 N a2 y1 y303 m (x314 + 1)))
  else
  (some (Sum.inl ()))
def ref14_Unite (N : Nat) (a0 : List (List U8)) (a1 : List Bool) (a2 : Int) : Option ((List U8) × Int) :=
  Option.bind (ref14_Repair N a0 a1 a2) fun y1 =>
  if !decide (y1.2 = 0) then
  (some ((([] : List U8), y1.2)))
  else
  (Option.bind (ref14_Unite_l1 N a2 y1 N ([] : List U8) 0) fun o18 => match o18 with
  | x16 =>
  (if decide ((x16.length : Int) < 4) then
  (some ((([] : List U8), 7)))
  else
  (Option.bind (idx x16 0) fun y53 =>
  chk (inR (y53.n)) <|
  chk (inR (y53.n * 16777216)) <|
  Option.bind (idx x16 1) fun y60 =>
  chk (inR (y60.n)) <|
  chk (inR (y60.n * 65536)) <|
  chk (inR (y53.n * 16777216 + (y60.n * 65536))) <|
  Option.bind (idx x16 2) fun y68 =>
  chk (inR (y68.n)) <|
  chk (inR (y68.n * 256)) <|
  chk (inR (y53.n * 16777216 + (y60.n * 65536) + (y68.n * 256))) <|
  Option.bind (idx x16 3) fun y76 =>
  chk (inR (y76.n)) <|
  chk (inR (y53.n * 16777216 + (y60.n * 65536) + (y68.n * 256) + y76.n)) <|
  chk (inR ((x16.length : Int) - 4)) <|
  if decide (((x16.length : Int) - 4) < (y53.n * 16777216 + (y60.n * 65536) + (y68.n * 256) + y76.n)) then
  (some ((([] : List U8), 7)))
  else
  (chk (inR (4 + (y53.n * 16777216 + (y60.n * 65536) + (y68.n * 256) + y76.n))) <|
  Option.bind (cut x16 4 (4 + (y53.n * 16777216 + (y60.n * 65536) + (y68.n * 256) + y76.n))) fun y292 =>
  chk ((([] : List U8).length + y292.length) * 1 ≤ 140737488355328 ∧ ([] : List U8).length + y292.length ≤ maxLen) <|
  Option.bind (ref14_Divide N (([] : List U8) ++ y292) a2 0) fun y303 =>
  Option.bind (ref14_Unite_l2 N a2 y1 y303 N 0) fun o315 => match o315 with
  | .inl () =>
  (some ((([] : List U8) ++ y292, 0)))
  | .inr r => some r))))
def ref14_Blame_l1 (N : Nat) (a0 : List (List U8)) (a1 : Int) : Nat → Int → Int → Int → Option (Int × Int)
  | 0, _, _, _ => none
  | m + 1, x21, x22, x23 =>
  if decide (x23 < (a0.length : Int)) then
  (Option.bind (ref14_all N (a0.length : Int) x23) fun y36 =>
  Option.bind (ref14_Repair N a0 y36 a1) fun y43 =>
  if decide (y43.2 = 0) then
  (chk (inR (x21 + 1)) <|
  chk (inR (x23 + 1)) <|
  ref14_Blame_l1 N a0 a1 m (x21 + 1) x23 (x23 + 1))
  else
  (chk (inR (x23 + 1)) <|
  ref14_Blame_l1 N a0 a1 m x21 x22 (x23 + 1)))
  else
  (some ((x21, x22)))
def ref14_Blame (N : Nat) (a0 : List (List U8)) (a1 : Int) : Option (Int × Int) :=
  Option.bind (ref14_all N (a0.length : Int) (-1)) fun y1 =>
  Option.bind (ref14_Repair N a0 y1 a1) fun y8 =>
  if decide (y8.2 = 0) then
  (some ((-1, 0)))
  else
  (if !decide (y8.2 = 20) then
  (some ((0, y8.2)))
  else
  (Option.bind (ref14_Blame_l1 N a0 a1 N 0 0 0) fun o26 => match o26 with
  | (x24, x25) =>
  (if !decide (x24 = 1) then
  (some ((0, 20)))
  else
  (some ((x25, 0))))))
end
end Go.Arm
