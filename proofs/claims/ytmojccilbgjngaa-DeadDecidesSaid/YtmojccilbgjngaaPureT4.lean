/- What the functions of the program compute, as plain functions that may fail. -/
import Derived.Test.YtmojccilbgjngaaFacts
namespace Go.Arm
open Go Go.RowKit Go.Proofs
def law08_few_l1 (N : Nat) (a0 : List (List Deed)) : Nat → Int → Option (Sum Unit Bool)
 | 0, _ => none
 | m + 1, x12 =>
 if decide (x12 < (a0.length : Int)) then
 (Option.bind (Option.bind (idx a0 x12) fun y27 =>
 if decide (14 < (y27.length : Int)) then
 (Option.bind (idx a0 x12) fun y34 =>
 if decide ((y34.length : Int) ≤ 200) then
 (some (true))
 else
 (Option.bind (idx a0 x12) fun y41 =>
 some (decide (300 < (y41.length : Int)))))
 else
 (Option.bind (idx a0 x12) fun y47 =>
 some (decide (300 < (y47.length : Int))))) fun o24 => match o24 with
 | x23 =>
 (if x23 then
 (some (.inr (false)))
 else
 (chk (inR (x12 + 1)) <|
 law08_few_l1 N a0 m (x12 + 1))))
 else
 (some (Sum.inl ()))
def law08_few (N : Nat) (a0 : List (List Deed)) : Option (Bool) :=
 Option.bind (if decide (80 < (a0.length : Int)) then
 (some (true))
 else
 (if decide (6 < (a0.length : Int)) then
 (some (decide ((a0.length : Int) ≤ 64)))
 else
 (some (false)))) fun o2 => match o2 with
 | x1 =>
 (if x1 then
 (some (false))
 else
 (Option.bind (law08_few_l1 N a0 N 0) fun o13 => match o13 with
 | .inl () =>
 (some (true))
 | .inr r => some r))

def dead_begins (_N : Nat) (a0 : Deed) : Option (Bool) :=
 if decide (a0.Kind = 3) then
 (some (true))
 else
 (some (decide (a0.Kind = 4)))

def dead_count_lang_Deed_l1 (N : Nat) (a0 : List Deed) (a1 : Deed → Option Bool) : Nat → Int → Int → Option (Int)
 | 0, _, _ => none
 | m + 1, x1, x2 =>
 if decide (x2 < (a0.length : Int)) then
 (Option.bind (idx a0 x2) fun y14 =>
 Option.bind (a1 y14) fun y32 =>
 if y32 then
 (chk (inR (x1 + 1)) <|
 chk (inR (x2 + 1)) <|
 dead_count_lang_Deed_l1 N a0 a1 m (x1 + 1) (x2 + 1))
 else
 (chk (inR (x2 + 1)) <|
 dead_count_lang_Deed_l1 N a0 a1 m x1 (x2 + 1)))
 else
 (some (x1))
def dead_count_lang_Deed (N : Nat) (a0 : List Deed) (a1 : Deed → Option Bool) : Option (Int) :=
 Option.bind (dead_count_lang_Deed_l1 N a0 a1 N 0 0) fun o4 => match o4 with
 | x3 =>
 (some (x3))

def slices_Index_Llang_Deed_lang_Deed_l1 (N : Nat) (a0 : List Deed) (a1 : Deed) : Nat → Int → Option (Sum Unit Int)
 | 0, _ => none
 | m + 1, x6 =>
 if decide (x6 < (a0.length : Int)) then
 (Option.bind (idx a0 x6) fun y19 =>
 if decide (a1 = y19) then
 (some (.inr (x6)))
 else
 (chk (inR (x6 + 1)) <|
 slices_Index_Llang_Deed_lang_Deed_l1 N a0 a1 m (x6 + 1)))
 else
 (some (Sum.inl ()))
def slices_Index_Llang_Deed_lang_Deed (N : Nat) (a0 : List Deed) (a1 : Deed) : Option (Int) :=
 Option.bind (slices_Index_Llang_Deed_lang_Deed_l1 N a0 a1 N 0) fun o7 => match o7 with
 | .inl () =>
 (some (-1))
 | .inr r => some r

def slices_Contains_Llang_Deed_lang_Deed (N : Nat) (a0 : List Deed) (a1 : Deed) : Option (Bool) :=
 Option.bind (slices_Index_Llang_Deed_lang_Deed N a0 a1) fun y8 =>
 some (decide (0 ≤ y8))

def dead_formed (N : Nat) (a0 : Deed) (a1 : List Deed) (a2 : Int) : Option (Bool) :=
 Option.bind (if decide (0 ≤ a0.Tag) then
 (some (decide (a0.Tag ≤ 1048576)))
 else
 (some (false))) fun o7 => match o7 with
 | x6 =>
 (Option.bind (if decide (0 ≤ a0.Peer) then
 (some (decide (a0.Peer < a2)))
 else
 (some (false))) fun o20 => match o20 with
 | x19 =>
 (Option.bind (dead_count_lang_Deed N a1 (fun x => dead_begins N x )) fun y32 =>
 if decide (a0.Kind = 1) then
 (if decide (a0 = (Deed.with_Tag (Deed.with_Peer (Deed.with_Sync (⟨a0.Kind, 0, 0, 0, false⟩ : Deed) a0.Sync) a0.Peer) a0.Tag)) then
 (if x6 then
 (some (x19))
 else
 (some (false)))
 else
 (some (false)))
 else
 (if decide (a0.Kind = 3) then
 (if decide (a0 = (Deed.with_Tag (Deed.with_Peer (Deed.with_Req (⟨a0.Kind, 0, 0, 0, false⟩ : Deed) y32) a0.Peer) a0.Tag)) then
 (if x6 then
 (some (x19))
 else
 (some (false)))
 else
 (some (false)))
 else
 (if decide (a0.Kind = 2) then
 (if decide (a0.Kind = 4) then
 (if x6 then
 (if x19 then
 (if decide (a0 = (Deed.with_Tag (Deed.with_Peer (Deed.with_Req (⟨a0.Kind, 0, 0, 0, false⟩ : Deed) y32) a0.Peer) a0.Tag)) then
 (some (true))
 else
 (some (false)))
 else
 (if decide (a0 = (Deed.with_Tag (Deed.with_Peer (Deed.with_Req (⟨a0.Kind, 0, 0, 0, false⟩ : Deed) y32) a0.Peer) a0.Tag)) then
 (some (decide (a0.Peer = (-1))))
 else
 (some (false))))
 else
 (if x19 then
 (if decide (a0 = (Deed.with_Tag (Deed.with_Peer (Deed.with_Req (⟨a0.Kind, 0, 0, 0, false⟩ : Deed) y32) a0.Peer) a0.Tag)) then
 (if decide (a0.Tag = (-1)) then
 (some (true))
 else
 (some (false)))
 else
 (some (false)))
 else
 (if decide (a0 = (Deed.with_Tag (Deed.with_Peer (Deed.with_Req (⟨a0.Kind, 0, 0, 0, false⟩ : Deed) y32) a0.Peer) a0.Tag)) then
 (if decide (a0.Tag = (-1)) then
 (some (decide (a0.Peer = (-1))))
 else
 (some (false)))
 else
 (some (false)))))
 else
 (if x6 then
 (if x19 then
 (if decide (a0 = (Deed.with_Tag (Deed.with_Peer (⟨a0.Kind, 0, 0, 0, false⟩ : Deed) a0.Peer) a0.Tag)) then
 (some (true))
 else
 (some (false)))
 else
 (if decide (a0 = (Deed.with_Tag (Deed.with_Peer (⟨a0.Kind, 0, 0, 0, false⟩ : Deed) a0.Peer) a0.Tag)) then
 (some (decide (a0.Peer = (-1))))
 else
 (some (false))))
 else
 (if x19 then
 (if decide (a0 = (Deed.with_Tag (Deed.with_Peer (⟨a0.Kind, 0, 0, 0, false⟩ : Deed) a0.Peer) a0.Tag)) then
 (if decide (a0.Tag = (-1)) then
 (some (true))
 else
 (some (false)))
 else
 (some (false)))
 else
 (if decide (a0 = (Deed.with_Tag (Deed.with_Peer (⟨a0.Kind, 0, 0, 0, false⟩ : Deed) a0.Peer) a0.Tag)) then
 (if decide (a0.Tag = (-1)) then
 (some (decide (a0.Peer = (-1))))
 else
 (some (false)))
 else
 (some (false))))))
 else
 (if decide (a0.Kind = 4) then
 (if x6 then
 (if x19 then
 (if decide (a0 = (Deed.with_Tag (Deed.with_Peer (Deed.with_Req (⟨a0.Kind, 0, 0, 0, false⟩ : Deed) y32) a0.Peer) a0.Tag)) then
 (some (true))
 else
 (some (false)))
 else
 (if decide (a0 = (Deed.with_Tag (Deed.with_Peer (Deed.with_Req (⟨a0.Kind, 0, 0, 0, false⟩ : Deed) y32) a0.Peer) a0.Tag)) then
 (some (decide (a0.Peer = (-1))))
 else
 (some (false))))
 else
 (if x19 then
 (if decide (a0 = (Deed.with_Tag (Deed.with_Peer (Deed.with_Req (⟨a0.Kind, 0, 0, 0, false⟩ : Deed) y32) a0.Peer) a0.Tag)) then
 (if decide (a0.Tag = (-1)) then
 (some (true))
 else
 (some (false)))
 else
 (some (false)))
 else
 (if decide (a0 = (Deed.with_Tag (Deed.with_Peer (Deed.with_Req (⟨a0.Kind, 0, 0, 0, false⟩ : Deed) y32) a0.Peer) a0.Tag)) then
 (if decide (a0.Tag = (-1)) then
 (some (decide (a0.Peer = (-1))))
 else
 (some (false)))
 else
 (some (false)))))
 else
 (if decide (a0.Kind = 5) then
 (Option.bind (if decide (a0 = (Deed.with_Req (⟨a0.Kind, 0, 0, 0, false⟩ : Deed) a0.Req)) then
 (if decide (0 ≤ a0.Req) then
 (if decide (a0.Req < y32) then
 (Option.bind (slices_Contains_Llang_Deed_lang_Deed N a1 a0) fun y3223 =>
 some (!y3223))
 else
 (some (false)))
 else
 (some (false)))
 else
 (some (false))) fun o3207 => match o3207 with
 | x3206 =>
 (some (x3206)))
 else
 (if decide (a0.Kind = 6) then
 (some (decide (a0 = (⟨a0.Kind, 0, 0, 0, false⟩ : Deed))))
 else
 (some (false)))))))))

def dead_Check_l1 (N : Nat) (a0 : List (List Deed)) : Nat → Int → Option (Sum Unit Int)
 | 0, _ => none
 | m + 1, x11 =>
 if decide (x11 < (a0.length : Int)) then
 (Option.bind (idx a0 x11) fun y22 =>
 if decide (200 < (y22.length : Int)) then
 (some (.inr (9)))
 else
 (chk (inR (x11 + 1)) <|
 dead_Check_l1 N a0 m (x11 + 1)))
 else
 (some (Sum.inl ()))
def dead_Check_l3 (N : Nat) (a0 : List (List Deed)) (y49 : List Deed) : Nat → Int → Option (Sum Unit Int)
 | 0, _ => none
 | m + 1, x55 =>
 if decide (x55 < (y49.length : Int)) then
 (Option.bind (idx y49 x55) fun y66 =>
 Option.bind (cut y49 0 x55) fun y84 =>
 Option.bind (dead_formed N y66 y84 (a0.length : Int)) fun y88 =>
 if !y88 then
 (some (.inr (2)))
 else
 (chk (inR (x55 + 1)) <|
 dead_Check_l3 N a0 y49 m (x55 + 1)))
 else
 (some (Sum.inl ()))
def dead_Check_l2 (N : Nat) (a0 : List (List Deed)) : Nat → Int → Option (Sum Unit Int)
 | 0, _ => none
 | m + 1, x38 =>
 if decide (x38 < (a0.length : Int)) then
 (Option.bind (idx a0 x38) fun y49 =>
 Option.bind (dead_Check_l3 N a0 y49 N 0) fun o56 => match o56 with
 | .inl () =>
 (chk (inR (x38 + 1)) <|
 dead_Check_l2 N a0 m (x38 + 1))
 | .inr r => some (.inr r))
 else
 (some (Sum.inl ()))
def dead_Check (N : Nat) (a0 : List (List Deed)) : Option (Int) :=
 Option.bind (if decide ((a0.length : Int) < 1) then
 (some (true))
 else
 (some (decide (64 < (a0.length : Int))))) fun o2 => match o2 with
 | x1 =>
 (if x1 then
 (some (3))
 else
 (Option.bind (dead_Check_l1 N a0 N 0) fun o12 => match o12 with
 | .inl () =>
 (Option.bind (dead_Check_l2 N a0 N 0) fun o39 => match o39 with
 | .inl () =>
 (some (0))
 | .inr r => some r)
 | .inr r => some r))

def dead_receives (_N : Nat) (a0 : Deed) : Option (Bool) :=
 if decide (a0.Kind = 2) then
 (some (true))
 else
 (some (decide (a0.Kind = 4)))

def dead_open (N : Nat) (a0 : Deed) : Option (Bool) :=
 Option.bind (dead_receives N a0) fun y8 =>
 if y8 then
 (some (decide (a0.Peer = (-1))))
 else
 (some (false))

def slices_IndexFunc_Llang_Deed_lang_Deed_l1 (N : Nat) (a0 : List Deed) (a1 : Deed → Option Bool) : Nat → Int → Option (Sum Unit Int)
 | 0, _ => none
 | m + 1, x1 =>
 if decide (x1 < (a0.length : Int)) then
 (Option.bind (idx a0 x1) fun y12 =>
 Option.bind (a1 y12) fun y18 =>
 if y18 then
 (some (.inr (x1)))
 else
 (chk (inR (x1 + 1)) <|
 slices_IndexFunc_Llang_Deed_lang_Deed_l1 N a0 a1 m (x1 + 1)))
 else
 (some (Sum.inl ()))
def slices_IndexFunc_Llang_Deed_lang_Deed (N : Nat) (a0 : List Deed) (a1 : Deed → Option Bool) : Option (Int) :=
 Option.bind (slices_IndexFunc_Llang_Deed_lang_Deed_l1 N a0 a1 N 0) fun o2 => match o2 with
 | .inl () =>
 (some (-1))
 | .inr r => some r

def slices_ContainsFunc_Llang_Deed_lang_Deed (N : Nat) (a0 : List Deed) (a1 : Deed → Option Bool) : Option (Bool) :=
 Option.bind (slices_IndexFunc_Llang_Deed_lang_Deed N a0 a1) fun y1 =>
 some (decide (0 ≤ y1))

def dead_newRun_l1 (N : Nat) (a0 : List (List Deed)) : Nat → Int → Option (Sum Unit ((Option Run) × Int))
 | 0, _ => none
 | m + 1, x9 =>
 if decide (x9 < (a0.length : Int)) then
 (Option.bind (idx a0 x9) fun y20 =>
 Option.bind (slices_ContainsFunc_Llang_Deed_lang_Deed N y20 (fun x => dead_open N x )) fun y26 =>
 if y26 then
 (some (.inr ((none, 6))))
 else
 (chk (inR (x9 + 1)) <|
 dead_newRun_l1 N a0 m (x9 + 1)))
 else
 (some (Sum.inl ()))
def dead_newRun (N : Nat) (a0 : List (List Deed)) (a1 : Int) : Option ((Option Run) × Int) :=
 Option.bind (dead_Check N a0) fun y1 =>
 if !decide (y1 = 0) then
 (some ((none, y1)))
 else
 (Option.bind (dead_newRun_l1 N a0 N 0) fun o10 => match o10 with
 | .inl () =>
 (if decide (a1 < 0) then
 (some ((none, 3)))
 else
 (chk ((0 : Int) ≤ (a0.length : Int) ∧ (8 : Int) * (a0.length : Int) ≤ 281474976710656 ∧ (a0.length : Int) ≤ 9223372036854775807) <|
 some ((some (Run.with_at_ (⟨a0, a1, (List.replicate ((a0.length : Int)).toNat (0 : Int))⟩ : Run) (List.replicate ((a0.length : Int)).toNat (0 : Int))), 0))))
 | .inr r => some r)

def dead_sends (_N : Nat) (a0 : Deed) : Option (Bool) :=
 if decide (a0.Kind = 1) then
 (some (true))
 else
 (some (decide (a0.Kind = 3)))

def dead_fits (_N : Nat) (a0 : Deed) (a1 : Deed) : Option (Bool) :=
 if decide (a1.Tag = (-1)) then
 (some (true))
 else
 (some (decide (a1.Tag = a0.Tag)))

def dead_run_begun (_N : Nat) (a0 : Run) (a1 : Int) : Option ((List Deed)) :=
 Option.bind (idx a0.c a1) fun y5 =>
 Option.bind (idx a0.c a1) fun y15 =>
 Option.bind (idx a0.at_ a1) fun y25 =>
 chk (inR (y25 + 1)) <|
 Option.bind (cut y5 0 (min (y15.length : Int) (y25 + 1))) fun y30 =>
 some (y30)

def dead_run_pairs_l2 (N : Nat) (a1 : Int) (y7 : (List Deed)) (x31 : Int) (y45 : Deed) : Nat → Int → (List (Int × Int)) → (List Bool) → Option ((List (Int × Int)) × (List Bool))
 | 0, _, _, _ => none
 | m + 1, x93, x91, x92 =>
 if decide (x93 < (y7.length : Int)) then
 (Option.bind (idx y7 x93) fun y108 =>
 Option.bind (Option.bind (dead_receives N y108) fun y132 =>
 if y132 then
 (if decide (y108.Peer = a1) then
 (Option.bind (idx x92 x93) fun y143 =>
 if !y143 then
 (Option.bind (dead_fits N y45 y108) fun y152 =>
 some (y152))
 else
 (some (false)))
 else
 (some (false)))
 else
 (some (false))) fun o127 => match o127 with
 | x126 =>
 (if x126 then
 (Option.bind (idx x92 x93) fun y170 =>
 some ((mset x91 x31 x93, x92.set (x93).toNat true)))
 else
 (chk (inR (x93 + 1)) <|
 dead_run_pairs_l2 N a1 y7 x31 y45 m (x93 + 1) x91 x92)))
 else
 (some ((x91, x92)))
def dead_run_pairs_l1 (N : Nat) (a1 : Int) (a2 : Int) (y7 : (List Deed)) (y22 : (List Deed)) : Nat → Int → (List (Int × Int)) → (List Bool) → Option ((List (Int × Int)))
 | 0, _, _, _ => none
 | m + 1, x31, x29, x30 =>
 if decide (x31 < (y22.length : Int)) then
 (Option.bind (idx y22 x31) fun y45 =>
 Option.bind (Option.bind (dead_sends N y45) fun y69 =>
 if !y69 then
 (some (true))
 else
 (some (!decide (y45.Peer = a2)))) fun o64 => match o64 with
 | x63 =>
 (if x63 then
 (chk (inR (x31 + 1)) <|
 dead_run_pairs_l1 N a1 a2 y7 y22 m (x31 + 1) x29 x30)
 else
 (Option.bind (dead_run_pairs_l2 N a1 y7 x31 y45 N 0 (mset x29 x31 (-1)) x30) fun o96 => match o96 with
 | (x94, x95) =>
 (chk (inR (x31 + 1)) <|
 dead_run_pairs_l1 N a1 a2 y7 y22 m (x31 + 1) x94 x95))))
 else
 (some (x29))
def dead_run_pairs (N : Nat) (a0 : Run) (a1 : Int) (a2 : Int) : Option ((GMap Int)) :=
 Option.bind (dead_run_begun N a0 a2) fun y7 =>
 chk ((0 : Int) ≤ (y7.length : Int) ∧ (1 : Int) * (y7.length : Int) ≤ 281474976710656 ∧ (y7.length : Int) ≤ 9223372036854775807) <|
 Option.bind (dead_run_begun N a0 a1) fun y22 =>
 Option.bind (dead_run_pairs_l1 N a1 a2 y7 y22 N 0 ([] : List (Int × Int)) (List.replicate ((y7.length : Int)).toNat (false : Bool))) fun o33 => match o33 with
 | x32 =>
 (some ((⟨x32⟩ : GMap Int)))

def dead_run_taken_l1 (_N : Nat) (a0 : Run) (a1 : Int) (a2 : Int) (kv56 : Int × Int) (q : Int) : Option (LR Int Int Bool) :=
 match q with
 | x46 =>
 if decide (kv56.1 < a2) then
 (if decide (kv56.2 < 0) then
 (Option.bind (idx a0.c a1) fun y82 =>
 Option.bind (idx y82 kv56.1) fun y88 =>
 if !y88.Sync then
 (chk (inR (x46 + 1)) <|
 some (LR.next (x46 + 1)))
 else
 (some (LR.next x46)))
 else
 (some (LR.next x46)))
 else
 (some (LR.next x46))
def dead_run_taken (N : Nat) (a0 : Run) (a1 : Int) (a2 : Int) : Option (Bool) :=
 Option.bind (idx a0.c a1) fun y5 =>
 Option.bind (idx y5 a2) fun y11 =>
 Option.bind (dead_run_pairs N a0 a1 y11.Peer) fun y29 =>
 if decide (0 ≤ ((mget y29.l a2).getD (0 : Int))) then
 (some (true))
 else
 (Option.bind (foldE (ρ := Bool) (dead_run_taken_l1 N a0 a1 a2) (fun (q : Int) => match q with | x46 => x46) y29.l 0) fun o48 => match o48 with
 | .inl x47 =>
 (if !y11.Sync then
 (some (decide (x47 < a0.room)))
 else
 (some (false)))
 | .inr r => some r)

def takenD (a0 : Run) (a1 a2 : Int) (k : Int × Int) : Option Bool := if k.1 < a2 then (if k.2 < 0 then (idx a0.c a1).bind fun y => (idx y k.1).bind fun d => some (!d.Sync) else some false) else some false
theorem dead_run_taken_l1_key (N : Nat) (a0 : Run) (a1 a2 : Int) (k : Int × Int) (s : Int) : dead_run_taken_l1 N a0 a1 a2 k s = (match takenD a0 a1 a2 k with
  | none => none
  | some true => chk (inR (s + 1)) (some (.next (s + 1)))
  | some false => some (.next s)) := by
 unfold dead_run_taken_l1 takenD
 by_cases h1 : k.1 < a2 <;> by_cases h2 : k.2 < 0 <;> simp [h1, h2]
 cases idx a0.c a1 with
 | none => rfl
 | some y =>
  simp only [Option.bind_some]
  cases idx y k.1 with
  | none => rfl
  | some d => cases h : d.Sync <;> simp [h]
theorem dead_run_taken_l1_comm (N : Nat) (a0 : Run) (a1 a2 : Int) : Commutes (dead_run_taken_l1 N a0 a1 a2) := by
 intro a b s
 unfold two
 simp only [dead_run_taken_l1_key]
 rcases takenD a0 a1 a2 a with _ | _ | _ <;> rcases takenD a0 a1 a2 b with _ | _ | _ <;> simp [chk] <;> (by_cases h : inR (s + 1) <;> simp [h])

def dead_run_can_1 (N : Nat) (a0 : Ref Run) (a1 : Int) (a2 : Int) : Option (Bool) :=
 Option.bind (dead_run_taken N a0.x a1 a2) fun y3 =>
 some (y3)

def dead_run_received_l1 (_N : Nat) (a2 : Int) (kv39 : Int × Int) (q : Unit) : Option (LR Unit Unit Bool) :=
 match q with
 | () =>
 if decide (kv39.2 = a2) then
 (some (LR.ret (true)))
 else
 (some (LR.next ()))
def dead_run_received (N : Nat) (a0 : Run) (a1 : Int) (a2 : Int) : Option (Bool) :=
 Option.bind (idx a0.c a1) fun y5 =>
 Option.bind (idx y5 a2) fun y11 =>
 Option.bind (dead_run_pairs N a0 y11.Peer a1) fun y17 =>
 Option.bind (foldE (ρ := Bool) (dead_run_received_l1 N a2) (fun (q : Unit) => match q with | () => ()) y17.l ()) fun o31 => match o31 with
 | .inl () =>
 (some (false))
 | .inr r => some r

def dead_run_can_2 (N : Nat) (a0 : Ref Run) (a1 : Int) (a2 : Int) : Option (Bool) :=
 Option.bind (dead_run_received N a0.x a1 a2) fun y3 =>
 some (y3)

theorem dead_run_received_l1_comm (N : Nat) (a2 : Int) : Commutes (dead_run_received_l1 N a2) := by
 intro a b s
 unfold two dead_run_received_l1
 by_cases h1 : a.2 = a2 <;> by_cases h2 : b.2 = a2 <;> simp [h1, h2]

def dead_run_meetings_1 (_N : Nat) (a0 : Deed) : Option (Bool) :=
 some (decide (a0.Kind = 6))

def dead_run_meetings (N : Nat) (a0 : Run) (a1 : Int) : Option (Int) :=
 Option.bind (dead_run_begun N a0 a1) fun y1 =>
 Option.bind (dead_count_lang_Deed N y1 (fun x => dead_run_meetings_1 N x )) fun y8 =>
 some (y8)

def dead_run_late_l1 (N : Nat) (a0 : Run) (a1 : Int) : Nat → (List Int) → Int → Option ((List Int))
 | 0, _, _ => none
 | m + 1, x5, x7 =>
 if decide (x7 < (a0.c.length : Int)) then
 (Option.bind (dead_run_meetings N a0 x7) fun y21 =>
 Option.bind (dead_run_meetings N a0 a1) fun y28 =>
 if decide (y21 < y28) then
 (chk ((x5.length + ([x7] : List Int).length) * 8 ≤ 140737488355328 ∧ x5.length + ([x7] : List Int).length ≤ maxLen) <|
 chk (inR (x7 + 1)) <|
 dead_run_late_l1 N a0 a1 m (x5 ++ ([x7] : List Int)) (x7 + 1))
 else
 (chk (inR (x7 + 1)) <|
 dead_run_late_l1 N a0 a1 m x5 (x7 + 1)))
 else
 (some (x5))
def dead_run_late (N : Nat) (a0 : Run) (a1 : Int) : Option ((List Int)) :=
 Option.bind (dead_run_late_l1 N a0 a1 N ([] : List Int) 0) fun o10 => match o10 with
 | x8 =>
 (some (x8))

def dead_run_can_3 (N : Nat) (a0 : Ref Run) (a1 : Int) : Option (Bool) :=
 Option.bind (dead_run_late N a0.x a1) fun y3 =>
 some (decide ((y3.length : Int) = 0))

def dead_run_request_1 (N : Nat) (a0 : Deed) (a1 : Int) : Option (Bool) :=
 Option.bind (dead_begins N a0) fun y8 =>
 if y8 then
 (some (decide (a0.Req = a1)))
 else
 (some (false))

def dead_run_request (N : Nat) (a0 : Run) (a1 : Int) (a2 : Int) : Option (Int) :=
 Option.bind (idx a0.c a1) fun y10 =>
 Option.bind (slices_IndexFunc_Llang_Deed_lang_Deed N y10 (fun x => dead_run_request_1 N x a2)) fun y16 =>
 some (y16)

def dead_run_can_4 (N : Nat) (a0 : Ref Run) (a1 : Int) (a2 : Int) : Option (Bool) :=
 Option.bind (idx a0.x.c a1) fun y9 =>
 Option.bind (idx y9 a2) fun y15 =>
 Option.bind (dead_run_request N a0.x a1 y15.Req) fun y21 =>
 Option.bind (idx a0.x.c a1) fun y179 =>
 Option.bind (idx y179 y21) fun y185 =>
 Option.bind (dead_sends N y185) fun y191 =>
 if y191 then
 (Option.bind (dead_run_taken N a0.x a1 y21) fun y314 =>
 some (y314))
 else
 (Option.bind (dead_run_received N a0.x a1 y21) fun y323 =>
 some (y323))

def dead_run_can (N : Nat) (a0 : Run) (a1 : Int) : Option (Bool) :=
 Option.bind (idx a0.at_ a1) fun y17 =>
 Option.bind (idx a0.c a1) fun y132 =>
 if decide (y17 = (y132.length : Int)) then
 (some (false))
 else
 (Option.bind (idx a0.c a1) fun y245 =>
 Option.bind (idx y245 y17) fun y251 =>
 if decide (y251.Kind = (1 : Int)) then
 (Option.bind (dead_run_can_1 N (⟨a0⟩ : Ref Run) a1 y17) fun y675 =>
 some (y675))
 else
 (if decide (y251.Kind = (2 : Int)) then
 (Option.bind (dead_run_can_2 N (⟨a0⟩ : Ref Run) a1 y17) fun y1100 =>
 some (y1100))
 else
 (if decide (y251.Kind = (6 : Int)) then
 (Option.bind (dead_run_can_3 N (⟨a0⟩ : Ref Run) a1) fun y1525 =>
 some (y1525))
 else
 (if decide (y251.Kind = (5 : Int)) then
 (Option.bind (dead_run_can_4 N (⟨a0⟩ : Ref Run) a1 y17) fun y1950 =>
 some (y1950))
 else
 (some (true))))))

def dead_run_next_l1 (N : Nat) (a0 : Run) : Nat → Int → Option (Sum Unit Int)
 | 0, _ => none
 | m + 1, x5 =>
 if decide (x5 < (a0.c.length : Int)) then
 (Option.bind (dead_run_can N a0 x5) fun y16 =>
 if y16 then
 (some (.inr (x5)))
 else
 (chk (inR (x5 + 1)) <|
 dead_run_next_l1 N a0 m (x5 + 1)))
 else
 (some (Sum.inl ()))
def dead_run_next (N : Nat) (a0 : Run) : Option (Int) :=
 Option.bind (dead_run_next_l1 N a0 N 0) fun o6 => match o6 with
 | .inl () =>
 (some (-1))
 | .inr r => some r

def dead_Follow_l1 (N : Nat) (a0 : List (List Deed)) (a2 : List Int) (y13 : Run) : Nat → Int → (List Int) → Option (Sum ((List Int)) ((List Int) × Bool × Int))
 | 0, _, _ => none
 | m + 1, x20, x19 =>
 if decide (x20 < (a2.length : Int)) then
 (Option.bind (idx a2 x20) fun y33 =>
 Option.bind (Option.bind (if decide (y33 < 0) then
 (some (true))
 else
 (some (decide ((a0.length : Int) ≤ y33)))) fun o41 => match o41 with
 | x40 =>
 (if x40 then
 (some (.inr ((([] : List Int), false, 11))))
 else
 (Option.bind (dead_run_can N (Run.with_at_ y13 x19) y33) fun y55 =>
 if !y55 then
 (some (.inr ((([] : List Int), false, 6))))
 else
 (some (Sum.inl ()))))) fun o37 => match o37 with
 | .inl () =>
 (Option.bind (idx x19 y33) fun y74 =>
 chk (inR (y74 + 1)) <|
 Option.bind (idx x19 y33) fun y79 =>
 chk (inR (x20 + 1)) <|
 dead_Follow_l1 N a0 a2 y13 m (x20 + 1) (x19.set (y33).toNat (y74 + 1)))
 | .inr r => some (.inr r))
 else
 (some (Sum.inl x19))
def dead_Follow (N : Nat) (a0 : List (List Deed)) (a1 : Int) (a2 : List Int) : Option ((List Int) × Bool × Int) :=
 Option.bind (dead_newRun N a0 a1) fun y1 =>
 if !decide (y1.2 = 0) then
 (some ((([] : List Int), false, y1.2)))
 else
 (Option.bind (y1.1) fun y13 =>
 Option.bind (dead_Follow_l1 N a0 a2 y13 N 0 y13.at_) fun o22 => match o22 with
 | .inl x21 =>
 (Option.bind (dead_run_next N (Run.with_at_ y13 x21)) fun y106 =>
 some (((Run.with_at_ y13 x21).at_, decide (y106 < 0), 0)))
 | .inr r => some r)

def ref01_SameInts_l1 (N : Nat) (a0 : List Int) (a1 : List Int) : Nat → Int → Option (Sum Unit Bool)
 | 0, _ => none
 | m + 1, x2 =>
 if decide (x2 < (a0.length : Int)) then
 (Option.bind (idx a0 x2) fun y13 =>
 Option.bind (idx a1 x2) fun y17 =>
 if !decide (y13 = y17) then
 (some (.inr (false)))
 else
 (chk (inR (x2 + 1)) <|
 ref01_SameInts_l1 N a0 a1 m (x2 + 1)))
 else
 (some (Sum.inl ()))
def ref01_SameInts (N : Nat) (a0 : List Int) (a1 : List Int) : Option (Bool) :=
 if !decide ((a0.length : Int) = (a1.length : Int)) then
 (some (false))
 else
 (Option.bind (ref01_SameInts_l1 N a0 a1 N 0) fun o3 => match o3 with
 | .inl () =>
 (some (true))
 | .inr r => some r)

def dead_Narrow_1 (N : Nat) (a0 : Deed) (a1 : Int) (a2 : Deed) : Option (Bool) :=
 Option.bind (dead_sends N a0) fun y8 =>
 if y8 then
 (if decide (a0.Peer = a1) then
 (Option.bind (dead_fits N a0 a2) fun y23 =>
 some (y23))
 else
 (some (false)))
 else
 (some (false))

def dead_Narrow_l3 (N : Nat) (a0 : List (List Deed)) (p : Int) (d : Deed) : Nat → Int → Int → Option (Option Int)
 | 0, _, _ => none
 | m + 1, i, fr =>
 if decide (i < (a0.length : Int)) then
 (Option.bind (idx a0 i) fun y => Option.bind (slices_ContainsFunc_Llang_Deed_lang_Deed N y (fun x => dead_Narrow_1 N x p d)) fun b =>
 if !b then (chk (inR (i + 1)) <| dead_Narrow_l3 N a0 p d m (i + 1) fr)
 else (if decide (0 ≤ fr) then (some none) else (chk (inR (i + 1)) <| dead_Narrow_l3 N a0 p d m (i + 1) i)))
 else (some (some fr))
def dead_Narrow_l2 (N : Nat) (a0 : List (List Deed)) (p : Int) (y : List Deed) : Nat → Int → List (List Deed) → Option (Option (List (List Deed)))
 | 0, _, _ => none
 | m + 1, i, out =>
 if decide (i < (y.length : Int)) then
 (Option.bind (idx y i) fun d => Option.bind (dead_open N d) fun o =>
 if !o then (Option.bind (idx out p) fun z => chk ((z.length + [d].length) * 40 ≤ 140737488355328 ∧ z.length + [d].length ≤ maxLen) <| chk (inR (i + 1)) <| dead_Narrow_l2 N a0 p y m (i + 1) (out.set p.toNat (z ++ [d])))
 else (Option.bind (dead_Narrow_l3 N a0 p d N 0 (-1)) fun o => match o with
 | none => some none
 | some fr => Option.bind (idx out p) fun z => chk ((z.length + [Deed.with_Peer d (max 0 fr)].length) * 40 ≤ 140737488355328 ∧ z.length + [Deed.with_Peer d (max 0 fr)].length ≤ maxLen) <| chk (inR (i + 1)) <| dead_Narrow_l2 N a0 p y m (i + 1) (out.set p.toNat (z ++ [Deed.with_Peer d (max 0 fr)]))))
 else (some (some out))
def dead_Narrow_l1 (N : Nat) (a0 : List (List Deed)) : Nat → Int → List (List Deed) → Option (Option (List (List Deed)))
 | 0, _, _ => none
 | m + 1, i, out =>
 if decide (i < (a0.length : Int)) then
 (Option.bind (idx a0 i) fun y => Option.bind (dead_Narrow_l2 N a0 i y N 0 out) fun o => match o with
 | none => some none
 | some out' => chk (inR (i + 1)) <| dead_Narrow_l1 N a0 m (i + 1) out')
 else (some (some out))
def dead_Narrow (N : Nat) (a0 : List (List Deed)) : Option ((List (List Deed)) × Bool × Int) :=
 Option.bind (dead_Check N a0) fun e =>
 if !decide (e = 0) then (some (([] : List (List Deed)), false, e))
 else (chk ((0 : Int) ≤ (a0.length : Int) ∧ ((24 : Nat) : Int) * (a0.length : Int) ≤ 281474976710656 ∧ (a0.length : Int) ≤ 9223372036854775807) <|
 Option.bind (dead_Narrow_l1 N a0 N 0 (List.replicate ((a0.length : Int)).toNat [])) fun o => match o with
 | none => some (([] : List (List Deed)), false, 0)
 | some out => some (out, true, 0))

def dead_run_finish_l1 (N : Nat) (a0 : Run) : Nat → (List Int) → Int → (List Int) → Option ((List Int) × (List Int))
 | 0, _, _, _ => none
 | m + 1, x15, x17, x14 =>
 if decide (0 ≤ x17) then
 (Option.bind (idx x14 x17) fun y36 =>
 chk (inR (y36 + 1)) <|
 Option.bind (idx x14 x17) fun y41 =>
 chk ((x15.length + ([x17] : List Int).length) * 8 ≤ 140737488355328 ∧ x15.length + ([x17] : List Int).length ≤ maxLen) <|
 Option.bind (dead_run_next N (Run.with_at_ a0 (x14.set (x17).toNat (y36 + 1)))) fun y63 =>
 dead_run_finish_l1 N a0 m (x15 ++ ([x17] : List Int)) y63 (x14.set (x17).toNat (y36 + 1)))
 else
 (some ((x15, x14)))
def dead_run_finish (N : Nat) (a0 : Run) : Option ((List Int) × (List Int)) :=
 Option.bind (dead_run_next N (Run.with_at_ a0 a0.at_)) fun y5 =>
 Option.bind (dead_run_finish_l1 N a0 N ([] : List Int) y5 a0.at_) fun o21 => match o21 with
 | (x19, x18) =>
 (some ((x19, x18)))

def dead_End (N : Nat) (a0 : List (List Deed)) (a1 : Int) : Option ((List Int) × Int) :=
 Option.bind (dead_newRun N a0 a1) fun y1 =>
 if !decide (y1.2 = 0) then
 (some ((([] : List Int), y1.2)))
 else
 (Option.bind (y1.1) fun y13 =>
 Option.bind (dead_run_finish N (Run.with_at_ y13 y13.at_)) fun y19 =>
 some (((Run.with_at_ y13 y19.2).at_, 0)))

def dead_comes_l1 (N : Nat) (a0 : List (List Deed)) (y1 : (List Int) × Int) : Nat → Int → Option (Sum Unit Bool)
 | 0, _ => none
 | m + 1, x12 =>
 if decide (x12 < (y1.1.length : Int)) then
 (Option.bind (idx y1.1 x12) fun y23 =>
 Option.bind (idx a0 x12) fun y27 =>
 if decide (y23 < (y27.length : Int)) then
 (some (.inr (false)))
 else
 (chk (inR (x12 + 1)) <|
 dead_comes_l1 N a0 y1 m (x12 + 1)))
 else
 (some (Sum.inl ()))
def dead_comes (N : Nat) (a0 : List (List Deed)) (a1 : Int) : Option (Bool) :=
 Option.bind (dead_End N a0 a1) fun y1 =>
 Option.bind (dead_comes_l1 N a0 y1 N 0) fun o13 => match o13 with
 | .inl () =>
 (some (true))
 | .inr r => some r

def dead_Decide_l1 (N : Nat) (y7 : (List (List Deed)) × Bool × Int) : Nat → Int → Int → Option (Int)
 | 0, _, _ => none
 | m + 1, x71, x72 =>
 chk (inR (x72 - x71)) <|
 if decide (1 < (x72 - x71)) then
 (chk (inR (x71 + x72)) <|
 chk (2 ≠ (0 : Int) ∧ inR (Int.tdiv (x71 + x72) 2)) <|
 Option.bind (dead_comes N y7.1 (Int.tdiv (x71 + x72) 2)) fun y88 =>
 if y88 then
 (dead_Decide_l1 N y7 m x71 (Int.tdiv (x71 + x72) 2))
 else
 (dead_Decide_l1 N y7 m (Int.tdiv (x71 + x72) 2) x72))
 else
 (some (x72))
def dead_Decide (N : Nat) (a0 : List (List Deed)) : Option (Verdict × Int) :=
 Option.bind (dead_Narrow N a0) fun y7 =>
 Option.bind (if !decide (y7.2.2 = 0) then
 (some (.inr (((⟨0, 0⟩ : Verdict), y7.2.2))))
 else
 (if !y7.2.1 then
 (some (.inr (((⟨4, 0⟩ : Verdict), 0))))
 else
 (Option.bind (dead_comes N y7.1 0) fun y38 =>
 if y38 then
 (some (.inr (((⟨1, 0⟩ : Verdict), 0))))
 else
 (Option.bind (dead_comes N y7.1 200) fun y52 =>
 if !y52 then
 (some (.inr (((⟨3, 0⟩ : Verdict), 0))))
 else
 (some (Sum.inl (⟨0, 0⟩ : Verdict))))))) fun o21 => match o21 with
 | .inl x20 =>
 (Option.bind (dead_Decide_l1 N y7 N 0 200) fun o74 => match o74 with
 | x73 =>
 (some (((⟨2, x73⟩ : Verdict), 0))))
 | .inr r => some r

def dead_Show (N : Nat) (a0 : List (List Deed)) (a1 : Int) : Option ((List Int) × Int) :=
 Option.bind (dead_newRun N a0 a1) fun y1 =>
 if !decide (y1.2 = 0) then
 (some ((([] : List Int), y1.2)))
 else
 (Option.bind (y1.1) fun y13 =>
 Option.bind (dead_run_finish N (Run.with_at_ y13 y13.at_)) fun y19 =>
 some ((y19.1, 0)))

def dead_Blocks_l1 (N : Nat) (a0 : List (List Deed)) (y13 : Run) (y19 : (List Int) × (List Int)) : Nat → (List Block) → Int → Option ((List Block))
 | 0, _, _ => none
 | m + 1, x36, x38 =>
 if decide (x38 < (((Run.with_at_ y13 y19.2).at_).length : Int)) then
 (Option.bind (idx ((Run.with_at_ y13 y19.2).at_) x38) fun y52 =>
 Option.bind (idx a0 x38) fun y56 =>
 if decide (y52 = (y56.length : Int)) then
 (chk (inR (x38 + 1)) <|
 dead_Blocks_l1 N a0 y13 y19 m x36 (x38 + 1))
 else
 (Option.bind (idx a0 x38) fun y64 =>
 Option.bind (idx y64 y52) fun y70 =>
 if decide (y70.Kind = 5) then
 (Option.bind (idx a0 x38) fun y90 =>
 Option.bind (dead_run_request N (Run.with_at_ y13 y19.2) x38 y70.Req) fun y98 =>
 Option.bind (idx y90 y98) fun y105 =>
 if decide (y105.Kind = 6) then
 (Option.bind (dead_run_late N (Run.with_at_ y13 y19.2) x38) fun y283 =>
 chk ((x36.length + ([(Block.with_For (⟨x38, y52, ([y105.Peer] : List Int)⟩ : Block) y283)] : List Block).length) * 40 ≤ 140737488355328 ∧ x36.length + ([(Block.with_For (⟨x38, y52, ([y105.Peer] : List Int)⟩ : Block) y283)] : List Block).length ≤ maxLen) <|
 chk (inR (x38 + 1)) <|
 dead_Blocks_l1 N a0 y13 y19 m (x36 ++ ([(Block.with_For (⟨x38, y52, ([y105.Peer] : List Int)⟩ : Block) y283)] : List Block)) (x38 + 1))
 else
 (chk ((x36.length + ([(⟨x38, y52, ([y105.Peer] : List Int)⟩ : Block)] : List Block).length) * 40 ≤ 140737488355328 ∧ x36.length + ([(⟨x38, y52, ([y105.Peer] : List Int)⟩ : Block)] : List Block).length ≤ maxLen) <|
 chk (inR (x38 + 1)) <|
 dead_Blocks_l1 N a0 y13 y19 m (x36 ++ ([(⟨x38, y52, ([y105.Peer] : List Int)⟩ : Block)] : List Block)) (x38 + 1)))
 else
 (if decide (y70.Kind = 6) then
 (Option.bind (dead_run_late N (Run.with_at_ y13 y19.2) x38) fun y351 =>
 chk ((x36.length + ([(Block.with_For (⟨x38, y52, ([y70.Peer] : List Int)⟩ : Block) y351)] : List Block).length) * 40 ≤ 140737488355328 ∧ x36.length + ([(Block.with_For (⟨x38, y52, ([y70.Peer] : List Int)⟩ : Block) y351)] : List Block).length ≤ maxLen) <|
 chk (inR (x38 + 1)) <|
 dead_Blocks_l1 N a0 y13 y19 m (x36 ++ ([(Block.with_For (⟨x38, y52, ([y70.Peer] : List Int)⟩ : Block) y351)] : List Block)) (x38 + 1))
 else
 (chk ((x36.length + ([(⟨x38, y52, ([y70.Peer] : List Int)⟩ : Block)] : List Block).length) * 40 ≤ 140737488355328 ∧ x36.length + ([(⟨x38, y52, ([y70.Peer] : List Int)⟩ : Block)] : List Block).length ≤ maxLen) <|
 chk (inR (x38 + 1)) <|
 dead_Blocks_l1 N a0 y13 y19 m (x36 ++ ([(⟨x38, y52, ([y70.Peer] : List Int)⟩ : Block)] : List Block)) (x38 + 1)))))
 else
 (some (x36))
def dead_Blocks (N : Nat) (a0 : List (List Deed)) (a1 : Int) : Option ((List Block) × Int) :=
 Option.bind (dead_newRun N a0 a1) fun y1 =>
 if !decide (y1.2 = 0) then
 (some ((([] : List Block), y1.2)))
 else
 (Option.bind (y1.1) fun y13 =>
 Option.bind (dead_run_finish N (Run.with_at_ y13 y13.at_)) fun y19 =>
 Option.bind (dead_Blocks_l1 N a0 y13 y19 N ([] : List Block) 0) fun o41 => match o41 with
 | x39 =>
 (some ((x39, 0))))

def slices_IndexFunc_Ldead_Block_dead_Block_l1 (N : Nat) (a0 : List Block) (a1 : Block → Option Bool) : Nat → Int → Option (Sum Unit Int)
 | 0, _ => none
 | m + 1, x1 =>
 if decide (x1 < (a0.length : Int)) then
 (Option.bind (idx a0 x1) fun y12 =>
 Option.bind (a1 y12) fun y18 =>
 if y18 then
 (some (.inr (x1)))
 else
 (chk (inR (x1 + 1)) <|
 slices_IndexFunc_Ldead_Block_dead_Block_l1 N a0 a1 m (x1 + 1)))
 else
 (some (Sum.inl ()))
def slices_IndexFunc_Ldead_Block_dead_Block (N : Nat) (a0 : List Block) (a1 : Block → Option Bool) : Option (Int) :=
 Option.bind (slices_IndexFunc_Ldead_Block_dead_Block_l1 N a0 a1 N 0) fun o2 => match o2 with
 | .inl () =>
 (some (-1))
 | .inr r => some r

def slices_ContainsFunc_Ldead_Block_dead_Block (N : Nat) (a0 : List Block) (a1 : Block → Option Bool) : Option (Bool) :=
 Option.bind (slices_IndexFunc_Ldead_Block_dead_Block N a0 a1) fun y1 =>
 some (decide (0 ≤ y1))

def dead_Cycle_1 (_N : Nat) (a0 : Block) (a1 : Int) : Option (Bool) :=
 some (decide (a0.Proc = a1))

def slices_Index_Lint_int_l1 (N : Nat) (a0 : List Int) (a1 : Int) : Nat → Int → Option (Sum Unit Int)
 | 0, _ => none
 | m + 1, x1 =>
 if decide (x1 < (a0.length : Int)) then
 (Option.bind (idx a0 x1) fun y12 =>
 if decide (a1 = y12) then
 (some (.inr (x1)))
 else
 (chk (inR (x1 + 1)) <|
 slices_Index_Lint_int_l1 N a0 a1 m (x1 + 1)))
 else
 (some (Sum.inl ()))
def slices_Index_Lint_int (N : Nat) (a0 : List Int) (a1 : Int) : Option (Int) :=
 Option.bind (slices_Index_Lint_int_l1 N a0 a1 N 0) fun o2 => match o2 with
 | .inl () =>
 (some (-1))
 | .inr r => some r

def slices_Contains_Lint_int (N : Nat) (a0 : List Int) (a1 : Int) : Option (Bool) :=
 Option.bind (slices_Index_Lint_int N a0 a1) fun y1 =>
 some (decide (0 ≤ y1))

def slices_Min_Lint_int_l1 (N : Nat) (a0 : List Int) : Nat → Int → Int → Option (Int)
 | 0, _, _ => none
 | m + 1, x6, x7 =>
 if decide (x7 < (a0.length : Int)) then
 (Option.bind (idx a0 x7) fun y19 =>
 chk (inR (x7 + 1)) <|
 slices_Min_Lint_int_l1 N a0 m (min x6 y19) (x7 + 1))
 else
 (some (x6))
def slices_Min_Lint_int (N : Nat) (a0 : List Int) : Option (Int) :=
 if decide ((a0.length : Int) < 1) then
 (none)
 else
 (Option.bind (idx a0 0) fun y2 =>
 Option.bind (slices_Min_Lint_int_l1 N a0 N y2 1) fun o9 => match o9 with
 | x8 =>
 (some (x8)))

def slices_Grow_Lint_int (_N : Nat) (a1 : Int) : Option ((List Int)) :=
 if decide (a1 < 0) then
 (none)
 else
 (chk (inR (0 - ((0 : Nat) : Int))) <|
 chk (inR (a1 - (0 - ((0 : Nat) : Int)))) <|
 if decide (0 < (a1 - (0 - ((0 : Nat) : Int)))) then
 (chk (0 = (0 : Int)) <|
 chk ((0 : Int) < (a1 - (0 - ((0 : Nat) : Int))) ∧ (a1 - (0 - ((0 : Nat) : Int))).toNat * 8 ≤ 140737488355328 ∧ (a1 - (0 - ((0 : Nat) : Int))).toNat ≤ maxLen) <|
 chk (((0 : Nat) : Int) = (0 : Int)) <|
 some (([] : List Int)))
 else
 (some (([] : List Int))))

def slices_Concat_Lint_int_l1 (N : Nat) (a0 : List (List Int)) : Nat → Int → Int → Option (Int)
 | 0, _, _ => none
 | m + 1, x1, x2 =>
 if decide (x2 < (a0.length : Int)) then
 (Option.bind (idx a0 x2) fun y14 =>
 chk (inR (x1 + (y14.length : Int))) <|
 if decide ((x1 + (y14.length : Int)) < 0) then
 (none)
 else
 (chk (inR (x2 + 1)) <|
 slices_Concat_Lint_int_l1 N a0 m (x1 + (y14.length : Int)) (x2 + 1)))
 else
 (some (x1))
def slices_Concat_Lint_int_l2 (N : Nat) (a0 : List (List Int)) : Nat → (List Int) → Int → Option ((List Int))
 | 0, _, _ => none
 | m + 1, x38, x40 =>
 if decide (x40 < (a0.length : Int)) then
 (Option.bind (idx a0 x40) fun y54 =>
 chk ((x38.length + y54.length) * 8 ≤ 140737488355328 ∧ x38.length + y54.length ≤ maxLen) <|
 chk (inR (x40 + 1)) <|
 slices_Concat_Lint_int_l2 N a0 m (x38 ++ y54) (x40 + 1))
 else
 (some (x38))
def slices_Concat_Lint_int (N : Nat) (a0 : List (List Int)) : Option ((List Int)) :=
 Option.bind (slices_Concat_Lint_int_l1 N a0 N 0 0) fun o4 => match o4 with
 | x3 =>
 (Option.bind (slices_Grow_Lint_int N x3) fun y31 =>
 Option.bind (slices_Concat_Lint_int_l2 N a0 N y31 0) fun o43 => match o43 with
 | x41 =>
 (some (x41)))

def dead_Cycle_l2 (N : Nat) (y1 : (List Block) × Int) (y33 : Block) : Nat → Int → (List (Int × Int)) → Option ((List (Int × Int)))
 | 0, _, _ => none
 | m + 1, x55, x54 =>
 if decide (x55 < (y33.For.length : Int)) then
 (Option.bind (idx y33.For x55) fun y68 =>
 Option.bind (slices_ContainsFunc_Ldead_Block_dead_Block N y1.1 (fun x => dead_Cycle_1 N x y68)) fun y83 =>
 if y83 then
 (some (mset x54 y33.Proc y68))
 else
 (chk (inR (x55 + 1)) <|
 dead_Cycle_l2 N y1 y33 m (x55 + 1) x54))
 else
 (some (x54))
def dead_Cycle_l1 (N : Nat) (y1 : (List Block) × Int) : Nat → Int → (List (Int × Int)) → Option ((List (Int × Int)))
 | 0, _, _ => none
 | m + 1, x20, x19 =>
 if decide (x20 < (y1.1.length : Int)) then
 (Option.bind (idx y1.1 x20) fun y33 =>
 Option.bind (dead_Cycle_l2 N y1 y33 N 0 x19) fun o57 => match o57 with
 | x56 =>
 (chk (inR (x20 + 1)) <|
 dead_Cycle_l1 N y1 m (x20 + 1) x56))
 else
 (some (x19))
def dead_Cycle_l4 (N : Nat) (x21 : List (Int × Int)) : Nat → (List Int) → Int → Bool → Option ((List Int) × Int × Bool)
 | 0, _, _, _ => none
 | m + 1, x148, x150, x151 =>
 Option.bind (if x151 then
 (Option.bind (slices_Contains_Lint_int N x148 x150) fun y173 =>
 some (!y173))
 else
 (some (false))) fun o169 => match o169 with
 | x168 =>
 (if x168 then
 (chk ((x148.length + ([x150] : List Int).length) * 8 ≤ 140737488355328 ∧ x148.length + ([x150] : List Int).length ≤ maxLen) <|
 dead_Cycle_l4 N x21 m (x148 ++ ([x150] : List Int)) ((mget x21 x150).getD (0 : Int)) ((mget x21 x150).isSome))
 else
 (some ((x148, x150, x151))))
def dead_Cycle_l3 (N : Nat) (y1 : (List Block) × Int) (x21 : List (Int × Int)) : Nat → Int → Option (Sum Unit ((List Int) × Int))
 | 0, _ => none
 | m + 1, x117 =>
 if decide (x117 < (y1.1.length : Int)) then
 (Option.bind (idx y1.1 x117) fun y129 =>
 Option.bind (dead_Cycle_l4 N x21 N ([] : List Int) y129.Proc true) fun o156 => match o156 with
 | (x152, x154, x155) =>
 (if x155 then
 (Option.bind (slices_Index_Lint_int N x152 x154) fun y215 =>
 Option.bind (cut x152 y215 (x152.length : Int)) fun y222 =>
 Option.bind (slices_Min_Lint_int N y222) fun y226 =>
 Option.bind (slices_Index_Lint_int N y222 y226) fun y233 =>
 Option.bind (cut y222 y233 (y222.length : Int)) fun y240 =>
 Option.bind (cut y222 0 y233) fun y244 =>
 Option.bind (slices_Concat_Lint_int N ([y240, y244] : List (List Int))) fun y254 =>
 some (.inr ((y254, 0))))
 else
 (chk (inR (x117 + 1)) <|
 dead_Cycle_l3 N y1 x21 m (x117 + 1))))
 else
 (some (Sum.inl ()))
def dead_Cycle (N : Nat) (a0 : List (List Deed)) (a1 : Int) : Option ((List Int) × Int) :=
 Option.bind (dead_Blocks N a0 a1) fun y1 =>
 if !decide (y1.2 = 0) then
 (some ((([] : List Int), y1.2)))
 else
 (Option.bind (dead_Cycle_l1 N y1 N 0 ([] : List (Int × Int))) fun o22 => match o22 with
 | x21 =>
 (Option.bind (dead_Cycle_l3 N y1 x21 N 0) fun o118 => match o118 with
 | .inl () =>
 (some ((([] : List Int), 0)))
 | .inr r => some r))

def law08_send (_N : Nat) (a0 : Int) (a1 : Int) : Option (Deed) :=
 some ((⟨1, a0, a1, 0, false⟩ : Deed))

def law08_recv (_N : Nat) (a0 : Int) (a1 : Int) : Option (Deed) :=
 some ((⟨2, a0, a1, 0, false⟩ : Deed))

def law08_works (N : Nat) : Option (Bool) :=
 Option.bind (law08_send N 1 0) fun y1 =>
 Option.bind (law08_recv N 1 0) fun y8 =>
 Option.bind (law08_send N 0 0) fun y21 =>
 Option.bind (law08_recv N 0 0) fun y28 =>
 Option.bind (dead_Decide N ([([y1, y8] : List Deed), ([y21, y28] : List Deed)] : List (List Deed))) fun y47 =>
 Option.bind (dead_Cycle N ([([y1, y8] : List Deed), ([y21, y28] : List Deed)] : List (List Deed)) 0) fun y68 =>
 Option.bind (dead_End N ([([y1, y8] : List Deed), ([y21, y28] : List Deed)] : List (List Deed)) 0) fun y79 =>
 Option.bind (if !decide (y47.1 = (⟨2, 1⟩ : Verdict)) then
 (some (true))
 else
 (if !decide (y47.2 = 0) then
 (some (true))
 else
 (if !decide (y68.2 = 0) then
 (some (true))
 else
 (if !decide (y79.2 = 0) then
 (some (true))
 else
 (Option.bind (ref01_SameInts N y68.1 ([0, 1] : List Int)) fun y108 =>
 if !y108 then
 (some (true))
 else
 (Option.bind (ref01_SameInts N y79.1 ([0, 0] : List Int)) fun y122 =>
 some (!y122))))))) fun o91 => match o91 with
 | x90 =>
 (if x90 then
 (some (false))
 else
 (Option.bind (law08_recv N 1 0) fun y176 =>
 Option.bind (law08_recv N 0 0) fun y193 =>
 Option.bind (dead_Decide N ([([(⟨3, 1, 0, 0, false⟩ : Deed), y176, (⟨5, 0, 0, 0, false⟩ : Deed)] : List Deed), ([(⟨3, 0, 0, 0, false⟩ : Deed), y193, (⟨5, 0, 0, 0, false⟩ : Deed)] : List Deed)] : List (List Deed))) fun y325 =>
 Option.bind (dead_Show N ([([(⟨3, 1, 0, 0, false⟩ : Deed), y176, (⟨5, 0, 0, 0, false⟩ : Deed)] : List Deed), ([(⟨3, 0, 0, 0, false⟩ : Deed), y193, (⟨5, 0, 0, 0, false⟩ : Deed)] : List Deed)] : List (List Deed)) 0) fun y340 =>
 Option.bind (dead_Follow N ([([(⟨3, 1, 0, 0, false⟩ : Deed), y176, (⟨5, 0, 0, 0, false⟩ : Deed)] : List Deed), ([(⟨3, 0, 0, 0, false⟩ : Deed), y193, (⟨5, 0, 0, 0, false⟩ : Deed)] : List Deed)] : List (List Deed)) 0 ([0, 0, 0] : List Int)) fun y357 =>
 Option.bind (if !decide (y325.1 = (⟨1, 0⟩ : Verdict)) then
 (some (true))
 else
 (if !decide (y325.2 = 0) then
 (some (true))
 else
 (if !decide (y340.2 = 0) then
 (some (true))
 else
 (if !decide (y357.2.2 = 6) then
 (some (true))
 else
 (Option.bind (ref01_SameInts N y340.1 ([0, 0, 1, 0, 1, 1] : List Int)) fun y388 =>
 some (!y388)))))) fun o371 => match o371 with
 | x370 =>
 (if x370 then
 (some (false))
 else
 (Option.bind (law08_send N 1 0) fun y401 =>
 Option.bind (law08_send N 1 0) fun y408 =>
 Option.bind (law08_send N 1 1) fun y415 =>
 Option.bind (law08_recv N 0 1) fun y428 =>
 Option.bind (law08_recv N 0 0) fun y435 =>
 Option.bind (law08_recv N 0 0) fun y442 =>
 Option.bind (dead_Decide N ([([y401, y408, y415] : List Deed), ([y428, y435, y442] : List Deed)] : List (List Deed))) fun y461 =>
 Option.bind (law08_recv N (-1) 3) fun y476 =>
 Option.bind (law08_recv N (-1) 3) fun y483 =>
 Option.bind (law08_send N 0 3) fun y496 =>
 Option.bind (law08_send N 0 3) fun y509 =>
 Option.bind (dead_Decide N ([([y476, y483] : List Deed), ([y496] : List Deed), ([y509] : List Deed)] : List (List Deed))) fun y528 =>
 Option.bind (if !decide (y461.1 = (⟨2, 2⟩ : Verdict)) then
 (some (true))
 else
 (if !decide (y461.2 = 0) then
 (some (true))
 else
 (if !decide (y528.1 = (⟨4, 0⟩ : Verdict)) then
 (some (true))
 else
 (some (!decide (y528.2 = 0)))))) fun o551 => match o551 with
 | x550 =>
 (if x550 then
 (some (false))
 else
 (Option.bind (law08_recv N 1 0) fun y570 =>
 Option.bind (dead_Blocks N ([([y570] : List Deed), ([] : List Deed)] : List (List Deed)) 0) fun y595 =>
 Option.bind (law08_recv N 1 0) fun y606 =>
 Option.bind (dead_Decide N ([([y606] : List Deed), ([] : List Deed)] : List (List Deed))) fun y631 =>
 if decide (y595.2 = 0) then
 (if decide (y631.2 = 0) then
 (if decide ((y595.1.length : Int) = 1) then
 (Option.bind (idx y595.1 0) fun y655 =>
 if decide (y655.Proc = 0) then
 (Option.bind (idx y595.1 0) fun y662 =>
 Option.bind (ref01_SameInts N y662.For ([1] : List Int)) fun y676 =>
 if y676 then
 (some (decide (y631.1.Kind = 3)))
 else
 (some (false)))
 else
 (some (false)))
 else
 (some (false)))
 else
 (some (false)))
 else
 (some (false))))))))

def law08_deeds_l2 (N : Nat) (a0 : List (List Deed)) (x3 : Int) : Nat → (List Deed) → Int → Option ((List Deed))
 | 0, _, _ => none
 | m + 1, x17, x19 =>
 Option.bind (idx a0 x3) fun y34 =>
 if decide (x19 < (y34.length : Int)) then
 (Option.bind (idx a0 x3) fun y41 =>
 Option.bind (idx y41 x19) fun y47 =>
 chk ((x17.length + ([(⟨y47.Kind, y47.Peer, y47.Tag, y47.Req, y47.Sync⟩ : Deed)] : List Deed).length) * 40 ≤ 140737488355328 ∧ x17.length + ([(⟨y47.Kind, y47.Peer, y47.Tag, y47.Req, y47.Sync⟩ : Deed)] : List Deed).length ≤ maxLen) <|
 chk (inR (x19 + 1)) <|
 law08_deeds_l2 N a0 x3 m (x17 ++ ([(⟨y47.Kind, y47.Peer, y47.Tag, y47.Req, y47.Sync⟩ : Deed)] : List Deed)) (x19 + 1))
 else
 (some (x17))
def law08_deeds_l1 (N : Nat) (a0 : List (List Deed)) : Nat → (List (List Deed)) → Int → Option ((List (List Deed)))
 | 0, _, _ => none
 | m + 1, x1, x3 =>
 if decide (x3 < (a0.length : Int)) then
 (Option.bind (law08_deeds_l2 N a0 x3 N ([] : List Deed) 0) fun o22 => match o22 with
 | x20 =>
 (chk ((x1.length + ([x20] : List (List Deed)).length) * 24 ≤ 140737488355328 ∧ x1.length + ([x20] : List (List Deed)).length ≤ maxLen) <|
 chk (inR (x3 + 1)) <|
 law08_deeds_l1 N a0 m (x1 ++ ([x20] : List (List Deed))) (x3 + 1)))
 else
 (some (x1))
def law08_deeds (N : Nat) (a0 : List (List Deed)) : Option ((List (List Deed))) :=
 Option.bind (law08_deeds_l1 N a0 N ([] : List (List Deed)) 0) fun o6 => match o6 with
 | x4 =>
 (some (x4))

def ref08_named (_N : Nat) (a0 : Deed) : Option (Bool) :=
 if decide (a0.Kind = 3) then
 (some (true))
 else
 (some (decide (a0.Kind = 4)))

def ref08_formed_l1 (N : Nat) (a1 : List Deed) : Nat → Int → Int → Option (Int)
 | 0, _, _ => none
 | m + 1, x6, x7 =>
 if decide (x7 < (a1.length : Int)) then
 (Option.bind (idx a1 x7) fun y19 =>
 Option.bind (ref08_named N y19) fun y25 =>
 if y25 then
 (chk (inR (x6 + 1)) <|
 chk (inR (x7 + 1)) <|
 ref08_formed_l1 N a1 m (x6 + 1) (x7 + 1))
 else
 (chk (inR (x7 + 1)) <|
 ref08_formed_l1 N a1 m x6 (x7 + 1)))
 else
 (some (x6))
def ref08_formed_l2 (N : Nat) (a0 : Deed) (a1 : List Deed) : Nat → Int → Option (Sum Unit Bool)
 | 0, _ => none
 | m + 1, x191 =>
 if decide (x191 < (a1.length : Int)) then
 (Option.bind (Option.bind (idx a1 x191) fun y206 =>
 if decide (y206.Kind = 5) then
 (Option.bind (idx a1 x191) fun y213 =>
 some (decide (y213.Req = a0.Req)))
 else
 (some (false))) fun o203 => match o203 with
 | x202 =>
 (if x202 then
 (some (.inr (false)))
 else
 (chk (inR (x191 + 1)) <|
 ref08_formed_l2 N a0 a1 m (x191 + 1))))
 else
 (some (Sum.inl ()))
def ref08_formed (N : Nat) (a0 : Deed) (a1 : List Deed) (a2 : Int) : Option (Bool) :=
 Option.bind (ref08_formed_l1 N a1 N 0 0) fun o9 => match o9 with
 | x8 =>
 (Option.bind (if decide (0 ≤ a0.Tag) then
 (some (decide (a0.Tag ≤ 1048576)))
 else
 (some (false))) fun o45 => match o45 with
 | x44 =>
 (Option.bind (if decide (0 ≤ a0.Peer) then
 (some (decide (a0.Peer < a2)))
 else
 (some (false))) fun o58 => match o58 with
 | x57 =>
 (if decide (a0.Kind = 1) then
 (if x57 then
 (if x44 then
 (some (decide (a0.Req = 0)))
 else
 (some (false)))
 else
 (some (false)))
 else
 (if decide (a0.Kind = 3) then
 (if x57 then
 (if x44 then
 (if decide (a0.Req = x8) then
 (some (!a0.Sync))
 else
 (some (false)))
 else
 (some (false)))
 else
 (some (false)))
 else
 (if decide (a0.Kind = 2) then
 (if decide (a0.Kind = 4) then
 (if x57 then
 (if x44 then
 (if decide (a0.Req = x8) then
 (some (!a0.Sync))
 else
 (some (false)))
 else
 (if decide (a0.Tag = (-1)) then
 (if decide (a0.Req = x8) then
 (some (!a0.Sync))
 else
 (some (false)))
 else
 (some (false))))
 else
 (if decide (a0.Peer = (-1)) then
 (if x44 then
 (if decide (a0.Req = x8) then
 (some (!a0.Sync))
 else
 (some (false)))
 else
 (if decide (a0.Tag = (-1)) then
 (if decide (a0.Req = x8) then
 (some (!a0.Sync))
 else
 (some (false)))
 else
 (some (false))))
 else
 (some (false))))
 else
 (if x57 then
 (if x44 then
 (if decide (a0.Req = 0) then
 (some (!a0.Sync))
 else
 (some (false)))
 else
 (if decide (a0.Tag = (-1)) then
 (if decide (a0.Req = 0) then
 (some (!a0.Sync))
 else
 (some (false)))
 else
 (some (false))))
 else
 (if decide (a0.Peer = (-1)) then
 (if x44 then
 (if decide (a0.Req = 0) then
 (some (!a0.Sync))
 else
 (some (false)))
 else
 (if decide (a0.Tag = (-1)) then
 (if decide (a0.Req = 0) then
 (some (!a0.Sync))
 else
 (some (false)))
 else
 (some (false))))
 else
 (some (false)))))
 else
 (if decide (a0.Kind = 4) then
 (if x57 then
 (if x44 then
 (if decide (a0.Req = x8) then
 (some (!a0.Sync))
 else
 (some (false)))
 else
 (if decide (a0.Tag = (-1)) then
 (if decide (a0.Req = x8) then
 (some (!a0.Sync))
 else
 (some (false)))
 else
 (some (false))))
 else
 (if decide (a0.Peer = (-1)) then
 (if x44 then
 (if decide (a0.Req = x8) then
 (some (!a0.Sync))
 else
 (some (false)))
 else
 (if decide (a0.Tag = (-1)) then
 (if decide (a0.Req = x8) then
 (some (!a0.Sync))
 else
 (some (false)))
 else
 (some (false))))
 else
 (some (false))))
 else
 (if decide (a0.Kind = 5) then
 (Option.bind (ref08_formed_l2 N a0 a1 N 0) fun o192 => match o192 with
 | .inl () =>
 (if decide (0 ≤ a0.Req) then
 (if decide (a0.Req < x8) then
 (if decide (a0.Peer = 0) then
 (if decide (a0.Tag = 0) then
 (some (!a0.Sync))
 else
 (some (false)))
 else
 (some (false)))
 else
 (some (false)))
 else
 (some (false)))
 | .inr r => some r)
 else
 (if decide (a0.Kind = 6) then
 (if decide (a0.Peer = 0) then
 (if decide (a0.Tag = 0) then
 (if decide (a0.Req = 0) then
 (some (!a0.Sync))
 else
 (some (false)))
 else
 (some (false)))
 else
 (some (false)))
 else
 (some (false))))))))))

def ref08_Check_l1 (N : Nat) (a0 : List (List Deed)) : Nat → Int → Option (Sum Unit Int)
 | 0, _ => none
 | m + 1, x11 =>
 if decide (x11 < (a0.length : Int)) then
 (Option.bind (idx a0 x11) fun y22 =>
 if decide (200 < (y22.length : Int)) then
 (some (.inr (9)))
 else
 (chk (inR (x11 + 1)) <|
 ref08_Check_l1 N a0 m (x11 + 1)))
 else
 (some (Sum.inl ()))
def ref08_Check_l3 (N : Nat) (a0 : List (List Deed)) (x38 : Int) : Nat → Int → Option (Sum Unit Int)
 | 0, _ => none
 | m + 1, x49 =>
 Option.bind (idx a0 x38) fun y59 =>
 if decide (x49 < (y59.length : Int)) then
 (Option.bind (idx a0 x38) fun y66 =>
 Option.bind (idx y66 x49) fun y72 =>
 Option.bind (idx a0 x38) fun y78 =>
 Option.bind (cut y78 0 x49) fun y84 =>
 Option.bind (ref08_formed N y72 y84 (a0.length : Int)) fun y88 =>
 if !y88 then
 (some (.inr (2)))
 else
 (chk (inR (x49 + 1)) <|
 ref08_Check_l3 N a0 x38 m (x49 + 1)))
 else
 (some (Sum.inl ()))
def ref08_Check_l2 (N : Nat) (a0 : List (List Deed)) : Nat → Int → Option (Sum Unit Int)
 | 0, _ => none
 | m + 1, x38 =>
 if decide (x38 < (a0.length : Int)) then
 (Option.bind (ref08_Check_l3 N a0 x38 N 0) fun o50 => match o50 with
 | .inl () =>
 (chk (inR (x38 + 1)) <|
 ref08_Check_l2 N a0 m (x38 + 1))
 | .inr r => some (.inr r))
 else
 (some (Sum.inl ()))
def ref08_Check (N : Nat) (a0 : List (List Deed)) : Option (Int) :=
 Option.bind (if decide ((a0.length : Int) < 1) then
 (some (true))
 else
 (some (decide (64 < (a0.length : Int))))) fun o2 => match o2 with
 | x1 =>
 (if x1 then
 (some (3))
 else
 (Option.bind (ref08_Check_l1 N a0 N 0) fun o12 => match o12 with
 | .inl () =>
 (Option.bind (ref08_Check_l2 N a0 N 0) fun o39 => match o39 with
 | .inl () =>
 (some (0))
 | .inr r => some r)
 | .inr r => some r))

def ref08_receives (_N : Nat) (a0 : Deed) : Option (Bool) :=
 if decide (a0.Kind = 2) then
 (some (true))
 else
 (some (decide (a0.Kind = 4)))

def ref08_open_l2 (N : Nat) (a0 : List (List Deed)) (x1 : Int) : Nat → Int → Option (Sum Unit Bool)
 | 0, _ => none
 | m + 1, x12 =>
 Option.bind (idx a0 x1) fun y22 =>
 if decide (x12 < (y22.length : Int)) then
 (Option.bind (Option.bind (idx a0 x1) fun y33 =>
 Option.bind (idx y33 x12) fun y39 =>
 Option.bind (ref08_receives N y39) fun y45 =>
 if y45 then
 (Option.bind (idx a0 x1) fun y53 =>
 Option.bind (idx y53 x12) fun y59 =>
 some (decide (y59.Peer = (-1))))
 else
 (some (false))) fun o30 => match o30 with
 | x29 =>
 (if x29 then
 (some (.inr (true)))
 else
 (chk (inR (x12 + 1)) <|
 ref08_open_l2 N a0 x1 m (x12 + 1))))
 else
 (some (Sum.inl ()))
def ref08_open_l1 (N : Nat) (a0 : List (List Deed)) : Nat → Int → Option (Sum Unit Bool)
 | 0, _ => none
 | m + 1, x1 =>
 if decide (x1 < (a0.length : Int)) then
 (Option.bind (ref08_open_l2 N a0 x1 N 0) fun o13 => match o13 with
 | .inl () =>
 (chk (inR (x1 + 1)) <|
 ref08_open_l1 N a0 m (x1 + 1))
 | .inr r => some (.inr r))
 else
 (some (Sum.inl ()))
def ref08_open (N : Nat) (a0 : List (List Deed)) : Option (Bool) :=
 Option.bind (ref08_open_l1 N a0 N 0) fun o2 => match o2 with
 | .inl () =>
 (some (false))
 | .inr r => some r

def ref08_started (N : Nat) (a0 : List (List Deed)) (a1 : Int) : Option ((Option Case) × Int) :=
 Option.bind (ref08_Check N a0) fun y1 =>
 if !decide (y1 = 0) then
 (some ((none, y1)))
 else
 (Option.bind (ref08_open N a0) fun y9 =>
 if y9 then
 (some ((none, 6)))
 else
 (if decide (a1 < 0) then
 (some ((none, 3)))
 else
 (chk ((0 : Int) ≤ (a0.length : Int) ∧ (8 : Int) * (a0.length : Int) ≤ 281474976710656 ∧ (a0.length : Int) ≤ 9223372036854775807) <|
 some ((some (Case.with_At (⟨a0, a1, (List.replicate ((a0.length : Int)).toNat (0 : Int))⟩ : Case) (List.replicate ((a0.length : Int)).toNat (0 : Int))), 0)))))

def ref08_sends (_N : Nat) (a0 : Deed) : Option (Bool) :=
 if decide (a0.Kind = 1) then
 (some (true))
 else
 (some (decide (a0.Kind = 3)))

def ref08_request_l1 (N : Nat) (a0 : List Deed) : Nat → Int → Int → Option (Sum Unit Int)
 | 0, _, _ => none
 | m + 1, x1, x2 =>
 if decide (x2 < (a0.length : Int)) then
 (Option.bind (idx a0 x2) fun y13 =>
 Option.bind (ref08_named N y13) fun y19 =>
 if y19 then
 (if decide (x1 = 0) then
 (some (.inr (x2)))
 else
 (chk (inR (x1 - 1)) <|
 chk (inR (x2 + 1)) <|
 ref08_request_l1 N a0 m (x1 - 1) (x2 + 1)))
 else
 (chk (inR (x2 + 1)) <|
 ref08_request_l1 N a0 m x1 (x2 + 1)))
 else
 (some (Sum.inl ()))
def ref08_request (N : Nat) (a0 : List Deed) (a1 : Int) : Option (Int) :=
 Option.bind (ref08_request_l1 N a0 N a1 0) fun o3 => match o3 with
 | .inl () =>
 (some (-1))
 | .inr r => some r

def ref08_fits (_N : Nat) (a0 : Deed) (a1 : Deed) : Option (Bool) :=
 if decide (a1.Tag = (-1)) then
 (some (true))
 else
 (some (decide (a1.Tag = a0.Tag)))

def ref02_Index_l1 (N : Nat) (a0 : List Int) (a1 : Int) : Nat → Int → Option (Sum Unit Int)
 | 0, _ => none
 | m + 1, x1 =>
 if decide (x1 < (a0.length : Int)) then
 (Option.bind (idx a0 x1) fun y12 =>
 if decide (y12 = a1) then
 (some (.inr (x1)))
 else
 (chk (inR (x1 + 1)) <|
 ref02_Index_l1 N a0 a1 m (x1 + 1)))
 else
 (some (Sum.inl ()))
def ref02_Index (N : Nat) (a0 : List Int) (a1 : Int) : Option (Int) :=
 Option.bind (ref02_Index_l1 N a0 a1 N 0) fun o2 => match o2 with
 | .inl () =>
 (some (-1))
 | .inr r => some r

def ref08_Case_begun (_N : Nat) (a0 : Case) (a1 : Int) : Option ((List Deed)) :=
 Option.bind (idx a0.C a1) fun y5 =>
 Option.bind (idx a0.C a1) fun y15 =>
 Option.bind (idx a0.At a1) fun y25 =>
 chk (inR (y25 + 1)) <|
 Option.bind (cut y5 0 (min (y15.length : Int) (y25 + 1))) fun y30 =>
 some (y30)

def ref08_Case_partners_l2 (N : Nat) (a1 : Int) (y1 : (List Deed)) (y8 : (List Deed)) (x23 : Int) : Nat → Int → (List Int) → Option ((List Int))
 | 0, _, _ => none
 | m + 1, x74, x73 =>
 Option.bind (if decide (x74 < (y8.length : Int)) then
 (Option.bind (idx x73 x23) fun y91 =>
 some (decide (y91 < 0)))
 else
 (some (false))) fun o87 => match o87 with
 | x86 =>
 (if x86 then
 (Option.bind (Option.bind (idx y8 x74) fun y105 =>
 Option.bind (ref08_receives N y105) fun y111 =>
 if y111 then
 (Option.bind (idx y8 x74) fun y119 =>
 if decide (y119.Peer = a1) then
 (Option.bind (idx y1 x23) fun y126 =>
 Option.bind (idx y8 x74) fun y132 =>
 Option.bind (ref08_fits N y126 y132) fun y138 =>
 if y138 then
 (Option.bind (cut x73 0 x23) fun y146 =>
 Option.bind (ref02_Index N y146 x74) fun y154 =>
 some (decide (y154 < 0)))
 else
 (some (false)))
 else
 (some (false)))
 else
 (some (false))) fun o102 => match o102 with
 | x101 =>
 (if x101 then
 (Option.bind (idx x73 x23) fun y1380 =>
 chk (inR (x74 + 1)) <|
 ref08_Case_partners_l2 N a1 y1 y8 x23 m (x74 + 1) (x73.set (x23).toNat x74))
 else
 (chk (inR (x74 + 1)) <|
 ref08_Case_partners_l2 N a1 y1 y8 x23 m (x74 + 1) x73)))
 else
 (some (x73)))
def ref08_Case_partners_l1 (N : Nat) (a1 : Int) (a2 : Int) (y1 : (List Deed)) (y8 : (List Deed)) : Nat → Int → (List Int) → Option ((List Int))
 | 0, _, _ => none
 | m + 1, x23, x22 =>
 if decide (x23 < (y1.length : Int)) then
 (Option.bind (idx x22 x23) fun y36 =>
 Option.bind (Option.bind (idx y1 x23) fun y46 =>
 Option.bind (ref08_sends N y46) fun y52 =>
 if !y52 then
 (some (true))
 else
 (Option.bind (idx y1 x23) fun y60 =>
 some (!decide (y60.Peer = a2)))) fun o43 => match o43 with
 | x42 =>
 (if x42 then
 (chk (inR (x23 + 1)) <|
 ref08_Case_partners_l1 N a1 a2 y1 y8 m (x23 + 1) (x22.set (x23).toNat (-1)))
 else
 (Option.bind (ref08_Case_partners_l2 N a1 y1 y8 x23 N 0 (x22.set (x23).toNat (-1))) fun o76 => match o76 with
 | x75 =>
 (chk (inR (x23 + 1)) <|
 ref08_Case_partners_l1 N a1 a2 y1 y8 m (x23 + 1) x75))))
 else
 (some (x22))
def ref08_Case_partners (N : Nat) (a0 : Case) (a1 : Int) (a2 : Int) : Option ((List Int)) :=
 Option.bind (ref08_Case_begun N a0 a1) fun y1 =>
 Option.bind (ref08_Case_begun N a0 a2) fun y8 =>
 chk ((0 : Int) ≤ (y1.length : Int) ∧ (8 : Int) * (y1.length : Int) ≤ 281474976710656 ∧ (y1.length : Int) ≤ 9223372036854775807) <|
 Option.bind (ref08_Case_partners_l1 N a1 a2 y1 y8 N 0 (List.replicate ((y1.length : Int)).toNat (0 : Int))) fun o25 => match o25 with
 | x24 =>
 (some (x24))

def ref08_Case_taken_l1 (N : Nat) (a0 : Case) (a1 : Int) (a2 : Int) (y11 : Deed) (y29 : (List Int)) : Nat → Int → Int → Option (Int)
 | 0, _, _ => none
 | m + 1, x41, x42 =>
 if decide (x42 < a2) then
 (Option.bind (idx a0.C a1) fun y58 =>
 Option.bind (idx y58 x42) fun y64 =>
 Option.bind (Option.bind (ref08_sends N y64) fun y86 =>
 if y86 then
 (if decide (y64.Peer = y11.Peer) then
 (if !y64.Sync then
 (Option.bind (idx y29 x42) fun y102 =>
 some (decide (y102 < 0)))
 else
 (some (false)))
 else
 (some (false)))
 else
 (some (false))) fun o81 => match o81 with
 | x80 =>
 (if x80 then
 (chk (inR (x41 + 1)) <|
 chk (inR (x42 + 1)) <|
 ref08_Case_taken_l1 N a0 a1 a2 y11 y29 m (x41 + 1) (x42 + 1))
 else
 (chk (inR (x42 + 1)) <|
 ref08_Case_taken_l1 N a0 a1 a2 y11 y29 m x41 (x42 + 1))))
 else
 (some (x41))
def ref08_Case_taken (N : Nat) (a0 : Case) (a1 : Int) (a2 : Int) : Option (Bool) :=
 Option.bind (idx a0.C a1) fun y5 =>
 Option.bind (idx y5 a2) fun y11 =>
 Option.bind (ref08_Case_partners N a0 a1 y11.Peer) fun y29 =>
 Option.bind (idx y29 a2) fun y36 =>
 if decide (0 ≤ y36) then
 (some (true))
 else
 (Option.bind (ref08_Case_taken_l1 N a0 a1 a2 y11 y29 N 0 0) fun o44 => match o44 with
 | x43 =>
 (if !y11.Sync then
 (some (decide (x43 < a0.Room)))
 else
 (some (false))))

def ref08_Case_received (N : Nat) (a0 : Case) (a1 : Int) (a2 : Int) : Option (Bool) :=
 Option.bind (idx a0.C a1) fun y5 =>
 Option.bind (idx y5 a2) fun y11 =>
 Option.bind (ref08_Case_partners N a0 y11.Peer a1) fun y17 =>
 Option.bind (ref02_Index N y17 a2) fun y24 =>
 some (decide (0 ≤ y24))

def ref08_Case_meets_l1 (N : Nat) (y1 : (List Deed)) : Nat → Int → Int → Option (Int)
 | 0, _, _ => none
 | m + 1, x8, x9 =>
 if decide (x9 < (y1.length : Int)) then
 (Option.bind (idx y1 x9) fun y21 =>
 if decide (y21.Kind = 6) then
 (chk (inR (x8 + 1)) <|
 chk (inR (x9 + 1)) <|
 ref08_Case_meets_l1 N y1 m (x8 + 1) (x9 + 1))
 else
 (chk (inR (x9 + 1)) <|
 ref08_Case_meets_l1 N y1 m x8 (x9 + 1)))
 else
 (some (x8))
def ref08_Case_meets (N : Nat) (a0 : Case) (a1 : Int) : Option (Int) :=
 Option.bind (ref08_Case_begun N a0 a1) fun y1 =>
 Option.bind (ref08_Case_meets_l1 N y1 N 0 0) fun o11 => match o11 with
 | x10 =>
 (some (x10))

def ref08_Case_can_l1 (N : Nat) (a0 : Case) (a1 : Int) : Nat → Int → Option (Sum Unit Bool)
 | 0, _ => none
 | m + 1, x234 =>
 if decide (x234 < (a0.C.length : Int)) then
 (Option.bind (ref08_Case_meets N a0 x234) fun y249 =>
 Option.bind (ref08_Case_meets N a0 a1) fun y256 =>
 if decide (y249 < y256) then
 (some (.inr (false)))
 else
 (chk (inR (x234 + 1)) <|
 ref08_Case_can_l1 N a0 a1 m (x234 + 1)))
 else
 (some (Sum.inl ()))
def ref08_Case_can (N : Nat) (a0 : Case) (a1 : Int) : Option (Bool) :=
 Option.bind (idx a0.At a1) fun y5 =>
 Option.bind (idx a0.C a1) fun y13 =>
 if decide (y5 = (y13.length : Int)) then
 (some (false))
 else
 (Option.bind (idx a0.C a1) fun y24 =>
 Option.bind (idx y24 y5) fun y30 =>
 if decide (y30.Kind = 5) then
 (Option.bind (idx a0.C a1) fun y53 =>
 Option.bind (ref08_request N y53 y30.Req) fun y61 =>
 Option.bind (idx a0.C a1) fun y181 =>
 Option.bind (idx y181 y61) fun y187 =>
 Option.bind (ref08_sends N y187) fun y193 =>
 if y193 then
 (Option.bind (ref08_Case_taken N a0 a1 y61) fun y201 =>
 some (y201))
 else
 (Option.bind (ref08_Case_received N a0 a1 y61) fun y208 =>
 some (y208)))
 else
 (if decide (y30.Kind = 1) then
 (Option.bind (ref08_Case_taken N a0 a1 y5) fun y218 =>
 some (y218))
 else
 (if decide (y30.Kind = 2) then
 (Option.bind (ref08_Case_received N a0 a1 y5) fun y226 =>
 some (y226))
 else
 (if decide (y30.Kind = 6) then
 (Option.bind (ref08_Case_can_l1 N a0 a1 N 0) fun o235 => match o235 with
 | .inl () =>
 (some (true))
 | .inr r => some r)
 else
 (some (true))))))

def ref08_Case_least_l1 (N : Nat) (a0 : Case) : Nat → Int → Option (Sum Unit Int)
 | 0, _ => none
 | m + 1, x1 =>
 if decide (x1 < (a0.C.length : Int)) then
 (Option.bind (ref08_Case_can N a0 x1) fun y16 =>
 if y16 then
 (some (.inr (x1)))
 else
 (chk (inR (x1 + 1)) <|
 ref08_Case_least_l1 N a0 m (x1 + 1)))
 else
 (some (Sum.inl ()))
def ref08_Case_least (N : Nat) (a0 : Case) : Option (Int) :=
 Option.bind (ref08_Case_least_l1 N a0 N 0) fun o2 => match o2 with
 | .inl () =>
 (some (-1))
 | .inr r => some r

def ref08_Narrow_l4 (N : Nat) (a0 : List (List Deed)) (x11 : Int) (x50 : List Deed) (x51 : Int) (x95 : Int) : Nat → (List Int) → Int → Option ((List Int))
 | 0, _, _ => none
 | m + 1, x113, x115 =>
 Option.bind (idx a0 x95) fun y132 =>
 if decide (x115 < (y132.length : Int)) then
 (Option.bind (Option.bind (idx a0 x95) fun y143 =>
 Option.bind (idx y143 x115) fun y149 =>
 Option.bind (ref08_sends N y149) fun y155 =>
 if y155 then
 (Option.bind (idx a0 x95) fun y163 =>
 Option.bind (idx y163 x115) fun y169 =>
 if decide (y169.Peer = x11) then
 (Option.bind (idx a0 x95) fun y176 =>
 Option.bind (idx y176 x115) fun y182 =>
 Option.bind (idx x50 x51) fun y188 =>
 Option.bind (ref08_fits N y182 y188) fun y192 =>
 if y192 then
 (Option.bind (ref02_Index N x113 x95) fun y200 =>
 some (decide (y200 < 0)))
 else
 (some (false)))
 else
 (some (false)))
 else
 (some (false))) fun o140 => match o140 with
 | x139 =>
 (if x139 then
 (chk ((x113.length + ([x95] : List Int).length) * 8 ≤ 140737488355328 ∧ x113.length + ([x95] : List Int).length ≤ maxLen) <|
 chk (inR (x115 + 1)) <|
 ref08_Narrow_l4 N a0 x11 x50 x51 x95 m (x113 ++ ([x95] : List Int)) (x115 + 1))
 else
 (chk (inR (x115 + 1)) <|
 ref08_Narrow_l4 N a0 x11 x50 x51 x95 m x113 (x115 + 1))))
 else
 (some (x113))
def ref08_Narrow_l3 (N : Nat) (a0 : List (List Deed)) (x11 : Int) (x50 : List Deed) (x51 : Int) : Nat → (List Int) → Int → Option ((List Int))
 | 0, _, _ => none
 | m + 1, x93, x95 =>
 if decide (x95 < (a0.length : Int)) then
 (Option.bind (ref08_Narrow_l4 N a0 x11 x50 x51 x95 N x93 0) fun o118 => match o118 with
 | x116 =>
 (chk (inR (x95 + 1)) <|
 ref08_Narrow_l3 N a0 x11 x50 x51 m x116 (x95 + 1)))
 else
 (some (x93))
def ref08_Narrow_l2 (N : Nat) (a0 : List (List Deed)) (x11 : Int) : Nat → Int → (List Deed) → Option (Sum ((List Deed)) ((List (List Deed)) × Bool × Int))
 | 0, _, _ => none
 | m + 1, x51, x50 =>
 if decide (x51 < (x50.length : Int)) then
 (Option.bind (Option.bind (idx x50 x51) fun y69 =>
 Option.bind (ref08_receives N y69) fun y73 =>
 if !y73 then
 (some (true))
 else
 (Option.bind (idx x50 x51) fun y81 =>
 some (!decide (y81.Peer = (-1))))) fun o66 => match o66 with
 | x65 =>
 (if x65 then
 (chk (inR (x51 + 1)) <|
 ref08_Narrow_l2 N a0 x11 m (x51 + 1) x50)
 else
 (Option.bind (ref08_Narrow_l3 N a0 x11 x50 x51 N ([] : List Int) 0) fun o98 => match o98 with
 | x96 =>
 (if decide (1 < (x96.length : Int)) then
 (some (.inr ((([] : List (List Deed)), false, 0))))
 else
 (Option.bind (idx x50 x51) fun y1737 =>
 if decide ((x96.length : Int) = 1) then
 (Option.bind (idx x96 0) fun y1744 =>
 Option.bind (idx (x50.set (x51).toNat (Deed.with_Peer y1737 0)) x51) fun y1748 =>
 chk (inR (x51 + 1)) <|
 ref08_Narrow_l2 N a0 x11 m (x51 + 1) ((x50.set (x51).toNat (Deed.with_Peer y1737 0)).set (x51).toNat (Deed.with_Peer y1748 y1744)))
 else
 (chk (inR (x51 + 1)) <|
 ref08_Narrow_l2 N a0 x11 m (x51 + 1) (x50.set (x51).toNat (Deed.with_Peer y1737 0))))))))
 else
 (some (Sum.inl x50))
def ref08_Narrow_l1 (N : Nat) (a0 : List (List Deed)) : Nat → (List (List Deed)) → Int → Option (Sum ((List (List Deed))) ((List (List Deed)) × Bool × Int))
 | 0, _, _ => none
 | m + 1, x9, x11 =>
 if decide (x11 < (a0.length : Int)) then
 (Option.bind (idx a0 x11) fun y32 =>
 chk ((([] : List Deed).length + y32.length) * 40 ≤ 140737488355328 ∧ ([] : List Deed).length + y32.length ≤ maxLen) <|
 Option.bind (ref08_Narrow_l2 N a0 x11 N 0 (([] : List Deed) ++ y32)) fun o53 => match o53 with
 | .inl x52 =>
 (chk ((x9.length + ([x52] : List (List Deed)).length) * 24 ≤ 140737488355328 ∧ x9.length + ([x52] : List (List Deed)).length ≤ maxLen) <|
 chk (inR (x11 + 1)) <|
 ref08_Narrow_l1 N a0 m (x9 ++ ([x52] : List (List Deed))) (x11 + 1))
 | .inr r => some (.inr r))
 else
 (some (Sum.inl x9))
def ref08_Narrow (N : Nat) (a0 : List (List Deed)) : Option ((List (List Deed)) × Bool × Int) :=
 Option.bind (ref08_Check N a0) fun y1 =>
 if !decide (y1 = 0) then
 (some ((([] : List (List Deed)), false, y1)))
 else
 (Option.bind (ref08_Narrow_l1 N a0 N ([] : List (List Deed)) 0) fun o14 => match o14 with
 | .inl x12 =>
 (some ((x12, true, 0)))
 | .inr r => some r)

def law08_same_l2 (N : Nat) (a0 : List (List Deed)) (a1 : List (List Deed)) (x2 : Int) : Nat → Int → Option (Sum Unit Bool)
 | 0, _ => none
 | m + 1, x134 =>
 Option.bind (idx a0 x2) fun y144 =>
 if decide (x134 < (y144.length : Int)) then
 (Option.bind (idx a0 x2) fun y151 =>
 Option.bind (idx y151 x134) fun y157 =>
 Option.bind (idx a1 x2) fun y163 =>
 Option.bind (idx y163 x134) fun y169 =>
 Option.bind (if !decide (y157.Kind = y169.Kind) then
 (some (true))
 else
 (if !decide (y157.Peer = y169.Peer) then
 (some (true))
 else
 (if !decide (y157.Tag = y169.Tag) then
 (some (true))
 else
 (if !decide (y157.Req = y169.Req) then
 (some (true))
 else
 (some (!(y157.Sync == y169.Sync))))))) fun o382 => match o382 with
 | x381 =>
 (if x381 then
 (some (.inr (false)))
 else
 (chk (inR (x134 + 1)) <|
 law08_same_l2 N a0 a1 x2 m (x134 + 1))))
 else
 (some (Sum.inl ()))
def law08_same_l1 (N : Nat) (a0 : List (List Deed)) (a1 : List (List Deed)) : Nat → Int → Option (Sum Unit Bool)
 | 0, _ => none
 | m + 1, x2 =>
 if decide (x2 < (a0.length : Int)) then
 (Option.bind (idx a0 x2) fun y13 =>
 Option.bind (idx a1 x2) fun y19 =>
 if !decide ((y13.length : Int) = (y19.length : Int)) then
 (some (.inr (false)))
 else
 (Option.bind (law08_same_l2 N a0 a1 x2 N 0) fun o135 => match o135 with
 | .inl () =>
 (chk (inR (x2 + 1)) <|
 law08_same_l1 N a0 a1 m (x2 + 1))
 | .inr r => some (.inr r)))
 else
 (some (Sum.inl ()))
def law08_same (N : Nat) (a0 : List (List Deed)) (a1 : List (List Deed)) : Option (Bool) :=
 if !decide ((a0.length : Int) = (a1.length : Int)) then
 (some (false))
 else
 (Option.bind (law08_same_l1 N a0 a1 N 0) fun o3 => match o3 with
 | .inl () =>
 (some (true))
 | .inr r => some r)

def ref08_Case_ended_l1 (N : Nat) (a0 : Case) : Nat → (List Int) → (List Int) → Option (Sum ((List Int) × (List Int)) ((List Int) × (List Int)))
 | 0, _, _ => none
 | m + 1, x2, x1 =>
 Option.bind (ref08_Case_least N (Case.with_At a0 x1)) fun y23 =>
 if decide (y23 < 0) then
 (some (.inr ((x2, x1))))
 else
 (Option.bind (idx x1 y23) fun y35 =>
 chk (inR (y35 + 1)) <|
 Option.bind (idx x1 y23) fun y40 =>
 chk ((x2.length + ([y23] : List Int).length) * 8 ≤ 140737488355328 ∧ x2.length + ([y23] : List Int).length ≤ maxLen) <|
 ref08_Case_ended_l1 N a0 m (x2 ++ ([y23] : List Int)) (x1.set (y23).toNat (y35 + 1)))
def ref08_Case_ended (N : Nat) (a0 : Case) : Option ((List Int) × (List Int)) :=
 Option.bind (ref08_Case_ended_l1 N a0 N ([] : List Int) a0.At) fun o7 => match o7 with
 | .inl (x5, x4) =>
 (some ((x5, x4)))
 | .inr r => some r

def ref08_End (N : Nat) (a0 : List (List Deed)) (a1 : Int) : Option ((List Int) × Int) :=
 Option.bind (ref08_started N a0 a1) fun y1 =>
 if !decide (y1.2 = 0) then
 (some ((([] : List Int), y1.2)))
 else
 (Option.bind (y1.1) fun y13 =>
 Option.bind (ref08_Case_ended N (Case.with_At y13 y13.At)) fun y19 =>
 some (((Case.with_At y13 y19.2).At, 0)))

def ref08_comes_l1 (N : Nat) (a0 : List (List Deed)) (y1 : (List Int) × Int) : Nat → Int → Option (Sum Unit Bool)
 | 0, _ => none
 | m + 1, x12 =>
 if decide (x12 < (a0.length : Int)) then
 (Option.bind (idx y1.1 x12) fun y23 =>
 Option.bind (idx a0 x12) fun y27 =>
 if decide (y23 < (y27.length : Int)) then
 (some (.inr (false)))
 else
 (chk (inR (x12 + 1)) <|
 ref08_comes_l1 N a0 y1 m (x12 + 1)))
 else
 (some (Sum.inl ()))
def ref08_comes (N : Nat) (a0 : List (List Deed)) (a1 : Int) : Option (Bool) :=
 Option.bind (ref08_End N a0 a1) fun y1 =>
 Option.bind (ref08_comes_l1 N a0 y1 N 0) fun o13 => match o13 with
 | .inl () =>
 (some (true))
 | .inr r => some r

def ref08_Decide_l1 (N : Nat) (y7 : (List (List Deed)) × Bool × Int) : Nat → Int → Option (Int)
 | 0, _ => none
 | m + 1, x62 =>
 Option.bind (ref08_comes N y7.1 x62) fun y74 =>
 if !y74 then
 (chk (inR (x62 + 1)) <|
 ref08_Decide_l1 N y7 m (x62 + 1))
 else
 (some (x62))
def ref08_Decide (N : Nat) (a0 : List (List Deed)) : Option (Verdict × Int) :=
 Option.bind (ref08_Narrow N a0) fun y7 =>
 if !decide (y7.2.2 = 0) then
 (some (((⟨0, 0⟩ : Verdict), y7.2.2)))
 else
 (if !y7.2.1 then
 (some (((⟨4, 0⟩ : Verdict), 0)))
 else
 (Option.bind (ref08_comes N y7.1 0) fun y34 =>
 if y34 then
 (some (((⟨1, 0⟩ : Verdict), 0)))
 else
 (Option.bind (ref08_comes N y7.1 200) fun y48 =>
 if !y48 then
 (some (((⟨3, 0⟩ : Verdict), 0)))
 else
 (Option.bind (ref08_Decide_l1 N y7 N 1) fun o64 => match o64 with
 | x63 =>
 (some (((⟨2, x63⟩ : Verdict), 0)))))))

def law08_DeadDecides (N : Nat) (a0 : List (List Deed)) : Option (Bool) :=
 Option.bind (law08_few N a0) fun y1 =>
 if !y1 then
 (Option.bind (law08_works N ) fun y9 =>
 some (y9))
 else
 (Option.bind (law08_deeds N a0) fun y16 =>
 Option.bind (dead_Narrow N y16) fun y23 =>
 Option.bind (ref08_Narrow N a0) fun y36 =>
 Option.bind (Option.bind (law08_same N y23.1 y36.1) fun y53 =>
 if !y53 then
 (some (true))
 else
 (if !(y23.2.1 == y36.2.1) then
 (some (true))
 else
 (if !decide (y23.2.2 = y36.2.2) then
 (some (true))
 else
 (Option.bind (law08_same N y16 a0) fun y63 =>
 some (!y63))))) fun o50 => match o50 with
 | x49 =>
 (if x49 then
 (some (false))
 else
 (Option.bind (dead_Decide N y16) fun y75 =>
 Option.bind (ref08_Decide N a0) fun y96 =>
 if decide (y75.1.Kind = y96.1.Kind) then
 (if decide (y75.1.Room = y96.1.Room) then
 (if decide (y75.2 = y96.2) then
 (Option.bind (law08_works N ) fun y128 =>
 some (y128))
 else
 (some (false)))
 else
 (some (false)))
 else
 (some (false)))))

end Go.Arm
