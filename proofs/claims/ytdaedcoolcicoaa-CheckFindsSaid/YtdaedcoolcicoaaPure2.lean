/- A part of the proof. -/
import Derived.Test.YtdaedcoolcicoaaHandG
namespace Go.Arm
open Go Go.RowKit Go.Proofs
noncomputable section
variable {σ : Type}
def check_Repair_l1 (N : Nat) (a0 : List (List U8)) (a1 : List Bool) : Nat → (List Int) → (List (List U8)) → Int → Option ((List Int) × (List (List U8)))
  | 0, _, _, _ => none
  | m + 1, x24, x26, x28 =>
  if decide (x28 < (a0.length : Int)) then
  (Option.bind (idx a0 x28) fun y46 =>
  Option.bind (idx a1 x28) fun y52 =>
  if y52 then
  (chk ((x24.length + ([x28] : List Int).length) * 8 ≤ 140737488355328 ∧ x24.length + ([x28] : List Int).length ≤ maxLen) <|
  chk ((x26.length + ([y46] : List (List U8)).length) * 24 ≤ 140737488355328 ∧ x26.length + ([y46] : List (List U8)).length ≤ maxLen) <|
  chk (inR (x28 + 1)) <|
  check_Repair_l1 N a0 a1 m (x24 ++ ([x28] : List Int)) (x26 ++ ([y46] : List (List U8))) (x28 + 1))
  else
  (chk (inR (x28 + 1)) <|
  check_Repair_l1 N a0 a1 m x24 x26 (x28 + 1)))
  else
  (some ((x24, x26)))
def check_Repair_l2 (N : Nat) (a0 : List (List U8)) (a1 : List Bool) (y105 : Field) (y122 : (List (List U8))) : Nat → Int → (List (List U8)) → Option (Sum ((List (List U8))) ((List (List U8)) × Int))
  | 0, _, _ => none
  | m + 1, x237, x236 =>
  if decide (x237 < ((((a0.length : Int)).toNat : Nat) : Int)) then
  (Option.bind (check_field_block N y105 x237 y122) fun y250 =>
  Option.bind (idx x236 x237) fun _ =>
  Option.bind (Option.bind (idx a1 x237) fun y267 =>
  if y267 then
  (Option.bind (idx (x236.set (x237).toNat y250) x237) fun y272 =>
  Option.bind (idx a0 x237) fun y276 =>
  Option.bind (bytes_Equal N y272 y276) fun y282 =>
  some (!y282))
  else
  (some (false))) fun o264 => match o264 with
  | x263 =>
  (if x263 then
  (some (.inr ((([] : List (List U8)), (20 : Int)))))
  else
  (chk (inR (x237 + 1)) <|
  check_Repair_l2 N a0 a1 y105 y122 m (x237 + 1) (x236.set (x237).toNat y250))))
  else
  (some (Sum.inl x236))
def check_Repair (N : Nat) (a0 : List (List U8)) (a1 : List Bool) (a2 : Int) : Option ((List (List U8)) × Int) :=
  Option.bind (Option.bind (if decide (a2 < 1) then
  (some (true))
  else
  (if decide (16 < a2) then
  (some (true))
  else
  (if decide ((a0.length : Int) < a2) then
  (some (true))
  else
  (chk (inR (a2 + 16)) <|
  some (decide ((a2 + 16) < (a0.length : Int))))))) fun o5 => match o5 with
  | x4 =>
  (if x4 then
  (some (.inr ((([] : List (List U8)), (3 : Int)))))
  else
  (if !decide ((a1.length : Int) = (a0.length : Int)) then
  (some (.inr ((([] : List (List U8)), (26 : Int)))))
  else
  (some (Sum.inl ()))))) fun o1 => match o1 with
  | .inl () =>
  (Option.bind (check_Repair_l1 N a0 a1 N ([] : List Int) ([] : List (List U8)) 0) fun o33 => match o33 with
  | (x29, x31) =>
  (if decide ((x31.length : Int) < a2) then
  (some ((([] : List (List U8)), (19 : Int))))
  else
  (Option.bind (check_sized N x31) fun y97 =>
  if !decide (y97 = 0) then
  (some ((([] : List (List U8)), y97)))
  else
  (Option.bind (check_newField N ) fun y105 =>
  Option.bind (cut x29 0 a2) fun y113 =>
  Option.bind (cut x31 0 a2) fun y118 =>
  Option.bind (check_field_solve N y105 y113 y118) fun y122 =>
  chk ((0 : Int) ≤ (a0.length : Int) ∧ (24 : Int) * (a0.length : Int) ≤ 281474976710656 ∧ (a0.length : Int) ≤ 9223372036854775807) <|
  Option.bind (check_Repair_l2 N a0 a1 y105 y122 N 0 (List.replicate ((a0.length : Int)).toNat ([] : List U8))) fun o239 => match o239 with
  | .inl x238 =>
  (some ((x238, 0)))
  | .inr r => some r))))
  | .inr r => some r

def check_Unite (N : Nat) (a0 : List (List U8)) (a1 : List Bool) (a2 : Int) : Option ((List U8) × Int) :=
  Option.bind (check_Repair N a0 a1 a2) fun y1 =>
  if !decide (y1.2 = 0) then
  (some ((([] : List U8), y1.2)))
  else
  (Option.bind (cut y1.1 0 a2) fun y13 =>
  Option.bind (slices_Concat_Lbyte_byte N y13) fun y17 =>
  if decide ((y17.length : Int) < 4) then
  (some ((([] : List U8), 7)))
  else
  (Option.bind (idx y17 0) fun y25 =>
  chk (inR (y25.n)) <|
  chk ((0 : Int) ≤ (⟨24⟩ : U64).n) <|
  Option.bind (idx y17 1) fun y31 =>
  chk (inR (y31.n)) <|
  chk ((0 : Int) ≤ (⟨16⟩ : U64).n) <|
  Option.bind (idx y17 2) fun y37 =>
  chk (inR (y37.n)) <|
  chk ((0 : Int) ≤ (⟨8⟩ : U64).n) <|
  Option.bind (idx y17 3) fun y43 =>
  chk (inR (y43.n)) <|
  Option.bind (chk (inR ((y17.length : Int) - 4)) <|
  if decide (((y17.length : Int) - 4) < (orK .i64 (orK .i64 (orK .i64 (shlK .i64 y25.n (⟨24⟩ : U64).n) (shlK .i64 y31.n (⟨16⟩ : U64).n)) (shlK .i64 y37.n (⟨8⟩ : U64).n)) y43.n)) then
  (some (true))
  else
  (chk (inR ((y17.length : Int) - 4)) <|
  chk (inR ((y17.length : Int) - 4 - (orK .i64 (orK .i64 (orK .i64 (shlK .i64 y25.n (⟨24⟩ : U64).n) (shlK .i64 y31.n (⟨16⟩ : U64).n)) (shlK .i64 y37.n (⟨8⟩ : U64).n)) y43.n))) <|
  if decide (a2 ≤ ((y17.length : Int) - 4 - (orK .i64 (orK .i64 (orK .i64 (shlK .i64 y25.n (⟨24⟩ : U64).n) (shlK .i64 y31.n (⟨16⟩ : U64).n)) (shlK .i64 y37.n (⟨8⟩ : U64).n)) y43.n))) then
  (some (true))
  else
  (chk (inR (4 + (orK .i64 (orK .i64 (orK .i64 (shlK .i64 y25.n (⟨24⟩ : U64).n) (shlK .i64 y31.n (⟨16⟩ : U64).n)) (shlK .i64 y37.n (⟨8⟩ : U64).n)) y43.n))) <|
  Option.bind (cut y17 (4 + (orK .i64 (orK .i64 (orK .i64 (shlK .i64 y25.n (⟨24⟩ : U64).n) (shlK .i64 y31.n (⟨16⟩ : U64).n)) (shlK .i64 y37.n (⟨8⟩ : U64).n)) y43.n)) (y17.length : Int)) fun y255 =>
  Option.bind (slices_ContainsFunc_Lbyte_byte N y255 (fun x => check_Unite_1 N x )) fun y259 =>
  some (y259)))) fun o246 => match o246 with
  | x245 =>
  (if x245 then
  (some ((([] : List U8), 7)))
  else
  (chk (inR (4 + (orK .i64 (orK .i64 (orK .i64 (shlK .i64 y25.n (⟨24⟩ : U64).n) (shlK .i64 y31.n (⟨16⟩ : U64).n)) (shlK .i64 y37.n (⟨8⟩ : U64).n)) y43.n))) <|
  Option.bind (cut y17 4 (4 + (orK .i64 (orK .i64 (orK .i64 (shlK .i64 y25.n (⟨24⟩ : U64).n) (shlK .i64 y31.n (⟨16⟩ : U64).n)) (shlK .i64 y37.n (⟨8⟩ : U64).n)) y43.n))) fun y272 =>
  Option.bind (slices_Clone_Lbyte_byte N y272) fun y276 =>
  some ((y276, 0))))))

def check_Blame_l1 (N : Nat) (a0 : List (List U8)) (a1 : Int) : Nat → (List Int) → Int → (List Bool) → Option ((List Int))
  | 0, _, _, _ => none
  | m + 1, x37, x39, x36 =>
  if decide (x39 < (a0.length : Int)) then
  (Option.bind (idx x36 x39) fun _ =>
  Option.bind (check_Repair N a0 (x36.set (x39).toNat false) a1) fun y65 =>
  if decide (y65.2 = 0) then
  (chk ((x37.length + ([x39] : List Int).length) * 8 ≤ 140737488355328 ∧ x37.length + ([x39] : List Int).length ≤ maxLen) <|
  Option.bind (idx (x36.set (x39).toNat false) x39) fun _ =>
  chk (inR (x39 + 1)) <|
  check_Blame_l1 N a0 a1 m (x37 ++ ([x39] : List Int)) (x39 + 1) ((x36.set (x39).toNat false).set (x39).toNat true))
  else
  (Option.bind (idx (x36.set (x39).toNat false) x39) fun _ =>
  chk (inR (x39 + 1)) <|
  check_Blame_l1 N a0 a1 m x37 (x39 + 1) ((x36.set (x39).toNat false).set (x39).toNat true)))
  else
  (some (x37))
def check_Blame (N : Nat) (a0 : List (List U8)) (a1 : Int) : Option (Int × Int) :=
  Option.bind (slices_Repeat_Lbool_bool N ([true] : List Bool) (min (a0.length : Int) 33)) fun y7 =>
  Option.bind (check_Repair N a0 y7 a1) fun y21 =>
  if !decide (y21.2 = 20) then
  (if !decide (y21.2 = 0) then
  (some ((0, y21.2)))
  else
  (some ((-1, 0))))
  else
  (Option.bind (check_Blame_l1 N a0 a1 N ([] : List Int) 0 y7) fun o42 => match o42 with
  | x40 =>
  (if !decide ((x40.length : Int) = 1) then
  (some ((0, 20)))
  else
  (Option.bind (idx x40 0) fun y117 =>
  some ((y117, 0)))))

def check_Parity_l1 (N : Nat) (a0 : List (List U8)) (a1 : Int) (y21 : Field) : Nat → (List (List U8)) → Int → Option ((List (List U8)))
  | 0, _, _ => none
  | m + 1, x28, x30 =>
  if decide (x30 < a1) then
  (chk (inR ((a0.length : Int) + x30)) <|
  Option.bind (check_field_block N y21 ((a0.length : Int) + x30) a0) fun y45 =>
  chk ((x28.length + ([y45] : List (List U8)).length) * 24 ≤ 140737488355328 ∧ x28.length + ([y45] : List (List U8)).length ≤ maxLen) <|
  chk (inR (x30 + 1)) <|
  check_Parity_l1 N a0 a1 y21 m (x28 ++ ([y45] : List (List U8))) (x30 + 1))
  else
  (some (x28))
def check_Parity (N : Nat) (a0 : List (List U8)) (a1 : Int) : Option ((List (List U8)) × Int) :=
  Option.bind (if decide ((a0.length : Int) < 1) then
  (some (true))
  else
  (if decide (16 < (a0.length : Int)) then
  (some (true))
  else
  (if decide (a1 < 0) then
  (some (true))
  else
  (some (decide (16 < a1)))))) fun o2 => match o2 with
  | x1 =>
  (if x1 then
  (some ((([] : List (List U8)), (3 : Int))))
  else
  (Option.bind (check_sized N a0) fun y13 =>
  if !decide (y13 = 0) then
  (some ((([] : List (List U8)), y13)))
  else
  (Option.bind (check_newField N ) fun y21 =>
  Option.bind (check_Parity_l1 N a0 a1 y21 N ([] : List (List U8)) 0) fun o33 => match o33 with
  | x31 =>
  (some ((x31, 0))))))

end
end Go.Arm
namespace Go.Arm
open Go Go.RowKit Go.Proofs
variable {σ : Type}
theorem check_Repair_ok (N : Nat) (s0 : St) (w0 : Value) (a0 : List (List U8)) (h0 : V s0 w0 a0) (w1 : Value) (a1 : List Bool) (h1 : V s0 w1 a1) (a2 : Int) (r : (List (List U8)) × Int) (hr : check_Repair N a0 a1 a2 = some r) :
    Calls Try.prog 13 #[w0, w1, .int .i64 a2] s0.w (Ret s0 fun v s => ∃ a b, v = .tuple #[a, b] ∧ V s a r.1 ∧ V s b r.2) := by
 unfold check_Repair at hr
 have j0 := Ext.refl s0
 refine Calls_of (n := 114) (args := [w0, w1, .int .i64 a2]) Try.func13 rfl rfl (by simp) (sr (asg (rv (Value.slice none 0 0)) (asg (rv (vi 0)) (nn ?_))))
 obtain ⟨j1, j2, j3⟩ := bind_some hr
 refine W_seq_cut (fun f w => ∃ (s : St), s.w = w ∧ Ext s0 s ∧ Le s0 s ∧ Sum.inl () = j1 ∧ f 0 = w0 ∧ f 1 = w1 ∧ f 2 = vi (a2)) ?_ ?_
 ·have hr := j2
  refine W_block ?_
  obtain ⟨j4, j5, j6⟩ := bind_some hr
  refine W_seq_cut (fun f w => ∃ (s : St) (j7 : Bool), s.w = w ∧ Ext s0 s ∧ Le s0 s ∧ j7 = j4 ∧ f 17 = vb j7 ∧ f 0 = w0 ∧ f 1 = w1 ∧ f 2 = vi (a2)) ?_ ?_
  ·have hr := j5
   refine W_region (mv (rv (vi a2)) (ls (rv (vi a2)) (rv (vi 1)) (mv (rv (vb (decide (a2 < 1)))) ?_)))
   rcases tf (decide (a2 < 1)) with j8 | j8
   ·have hr := ite_t j8 hr; refine gf 20 (rv (vb (decide (a2 < 1)))) j8 (gf 20 (rv (vb (decide (a2 < 1)))) j8 (pt (rv (vb (decide (a2 < 1)))) j8 (rv (vb true)) (mv (rv (vb true)) (gf 24 (rv (vb true)) rfl (gf 24 (rv (vb true)) rfl (gf 24 (rv (vb true)) rfl (gf 24 (rv (vb true)) rfl (pt (rv (vb true)) rfl (rv (vb true)) (mv (rv (vb true)) (gf 30 (rv (vb true)) rfl (gf 30 (rv (vb true)) rfl (gf 30 (rv (vb true)) rfl (gf 30 (rv (vb true)) rfl ?_))))))))))))); exact gf 30 (rv (vb true)) rfl (pt (rv (vb true)) rfl (rv (vb true)) (asg (rv (vb true)) (nn ⟨s0, true, rfl, j0, (Le.refl _), Option.some.inj hr, rfl, rfl, rfl, rfl⟩)))
   ·have hr := ite_f j8 hr
    refine gt 20 (rv (vb (decide (a2 < 1)))) j8 (mv (rv (vi a2)) (gt 20 (rv (vb (decide (a2 < 1)))) j8 (L_gtr (rv (vi a2)) (rv (vi 16)) (by decide) (pf (rv (vb (decide (a2 < 1)))) j8 (rv (vb (decide (16 < a2)))) (mv (rv (vb (decide (16 < a2)))) ?_)))))
    rcases tf (decide (16 < a2)) with j9 | j9
    ·have hr := ite_t j9 hr; exact gf 24 (rv (vb (decide (16 < a2)))) j9 (gf 24 (rv (vb (decide (16 < a2)))) j9 (gf 24 (rv (vb (decide (16 < a2)))) j9 (gf 24 (rv (vb (decide (16 < a2)))) j9 (pt (rv (vb (decide (16 < a2)))) j9 (rv (vb true)) (mv (rv (vb true)) (gf 30 (rv (vb true)) rfl (gf 30 (rv (vb true)) rfl (gf 30 (rv (vb true)) rfl (gf 30 (rv (vb true)) rfl (gf 30 (rv (vb true)) rfl (pt (rv (vb true)) rfl (rv (vb true)) (asg (rv (vb true)) (nn ⟨s0, true, rfl, j0, (Le.refl _), Option.some.inj hr, rfl, rfl, rfl, rfl⟩)))))))))))))
    ·have hr := ite_f j9 hr
     refine gt 24 (rv (vb (decide (16 < a2)))) j9 (mv (rv w0) (gt 24 (rv (vb (decide (16 < a2)))) j9 (ln Try.underlying24 (rv w0) h0 (gt 24 (rv (vb (decide (16 < a2)))) j9 (mv (rv (vi a2)) (gt 24 (rv (vb (decide (16 < a2)))) j9 (ls (rv (vi ((a0.length : Int)))) (rv (vi a2)) (pf (rv (vb (decide (16 < a2)))) j9 (rv (vb (decide ((a0.length : Int) < a2)))) (mv (rv (vb (decide ((a0.length : Int) < a2)))) ?_)))))))))
     rcases tf (decide ((a0.length : Int) < a2)) with ja | ja
     ·have hr := ite_t ja hr; exact gf 30 (rv (vb (decide ((a0.length : Int) < a2)))) ja (gf 30 (rv (vb (decide ((a0.length : Int) < a2)))) ja (gf 30 (rv (vb (decide ((a0.length : Int) < a2)))) ja (gf 30 (rv (vb (decide ((a0.length : Int) < a2)))) ja (gf 30 (rv (vb (decide ((a0.length : Int) < a2)))) ja (pt (rv (vb (decide ((a0.length : Int) < a2)))) ja (rv (vb true)) (asg (rv (vb true)) (nn ⟨s0, true, rfl, j0, (Le.refl _), Option.some.inj hr, rfl, rfl, rfl, rfl⟩)))))))
     ·have hr := ite_f ja hr; refine gt 30 (rv (vb (decide ((a0.length : Int) < a2)))) ja (mv (rv w0) (gt 30 (rv (vb (decide ((a0.length : Int) < a2)))) ja (ln Try.underlying24 (rv w0) h0 (gt 30 (rv (vb (decide ((a0.length : Int) < a2)))) ja (mv (rv (vi a2)) (gt 30 (rv (vb (decide ((a0.length : Int) < a2)))) ja ?_)))))); obtain ⟨jb, hr⟩ := chk_some hr; exact ad (rv (vi a2)) (rv (vi 16)) jb (gt 30 (rv (vb (decide ((a0.length : Int) < a2)))) ja (L_gtr (rv (vi ((a0.length : Int)))) (rv (vi (a2 + 16))) (by decide) (pf (rv (vb (decide ((a0.length : Int) < a2)))) ja (rv (vb (decide ((a2 + 16) < (a0.length : Int))))) (asg (rv (vb (decide ((a2 + 16) < (a0.length : Int))))) (nn ⟨s0, (decide ((a2 + 16) < (a0.length : Int))), rfl, j0, (Le.refl _), Option.some.inj hr, rfl, rfl, rfl, rfl⟩)))))
  ·rintro j8 j9 ⟨ja, j7, rfl, jb, jc, j5, jd, je, jf, jg⟩
   subst j5
   have hr := j6
   try dsimp only at hr
   refine W_cond _ jd (fun jh => ?_) (fun jh => ?_)
   ·have hr := ite_t jh hr; refine sr (asg (rv (Value.slice none 0 0)) (asg (rv (vi 3)) (nn (W_ret (block_r ?_))))); obtain rfl := Option.some.inj hr; have hr := j3; (try dsimp only at hr); refine then_r ?_; obtain rfl := Option.some.inj hr; exact done2 (Or.inl rfl) Try.results13 rfl rfl ⟨_, _, rfl, rfl, jb, _, _, rfl, Vnil, Vint⟩
   ·have hr := ite_f jh hr
    refine sr (mv jf (ln Try.underlying27 (rv w1) (h1.mono jc) (mv je (ln Try.underlying24 (rv w0) (h0.mono jc) (ne (rv (vi ((a1.length : Int)))) (rv (vi ((a0.length : Int)))) (asg (rv (vb (!decide ((a1.length : Int) = (a0.length : Int))))) (nn ?_)))))))
    refine W_cond _ (rv (vb (!decide ((a1.length : Int) = (a0.length : Int))))) (fun ji => ?_) (fun ji => ?_)
    ·have hr := ite_t ji hr; refine sr (asg (rv (Value.slice none 0 0)) (asg (rv (vi 26)) (nn (W_ret (block_r ?_))))); obtain rfl := Option.some.inj hr; have hr := j3; (try dsimp only at hr); refine then_r ?_; obtain rfl := Option.some.inj hr; exact done2 (Or.inl rfl) Try.results13 rfl rfl ⟨_, _, rfl, rfl, jb, _, _, rfl, Vnil, Vint⟩
    ·have hr := ite_f ji hr; refine W_skip (block_n ?_); exact then_n ⟨ja, rfl, jb, jc, Option.some.inj hr, je, jf, jg⟩
 ·rintro j4 j5 ⟨j6, rfl, j7, j8, j2, j9, ja, jb⟩
  subst j2
  have hr := j3
  try dsimp only at hr
  refine sr (asg (rv (Value.slice none 0 0)) (nn (sr (asg (rv (Value.slice none 0 0)) (nn (W_seq (sr (mv j9 (ln Try.underlying24 (rv w0) (h0.mono j8) (mv (rv (vi 0)) (nn ?_)))))))))))
  obtain ⟨jc, jd, je⟩ := bind_some hr
  refine W_cut (fun f w => ∃ (s : St) (jf : Value) (jg : List Int) (jh : Value) (ji : List (List U8)), s.w = w ∧ Ext s0 s ∧ Le j6 s ∧ (jg, ji) = jc ∧ f 8 = jf ∧ Bld s s0.w.heap.size 3 jf jg ∧ f 9 = jh ∧ Bld s s0.w.heap.size 22 jh ji ∧ f 0 = w0 ∧ f 1 = w1 ∧ f 2 = vi (a2) ∧ (∀ k, (own jf) k → ¬ (own jh) k)) ?_ ?_
  ·refine W_block (W_loop (fun m f w => ∃ (s : St) (jj : Value) (jk : List Int) (jl : Value) (jm : List (List U8)) (jn : Int), s.w = w ∧ Ext s0 s ∧ Le j6 s ∧ check_Repair_l1 N a0 a1 m jk jm jn = some jc ∧ f 8 = jj ∧ Bld s s0.w.heap.size 3 jj jk ∧ f 9 = jl ∧ Bld s s0.w.heap.size 22 jl jm ∧ f 45 = vi jn ∧ f 0 = w0 ∧ f 1 = w1 ∧ f 2 = vi (a2) ∧ f 43 = w0 ∧ f 44 = vi ((a0.length : Int)) ∧ (∀ k, (own jj) k → ¬ (own jl) k)) N ⟨j6, (Value.slice none 0 0), ([]), (Value.slice none 0 0), ([]), 0, rfl, j7, (Le.refl _), jd, rfl, Bld.nil, rfl, Bld.nil, rfl, j9, ja, jb, rfl, rfl, (fun k h => absurd h own_nil)⟩ ?_)
   rintro jo jp jq ⟨jr, jj, jk, jl, jm, jn, rfl, js, jt, hr, ju, jv, jw, jx, jy, jz, k0, k1, k2, k3, k4⟩
   cases jo with
   | zero => exact absurd hr (by simp [check_Repair_l1])
   | succ jo =>
    rw [check_Repair_l1.eq_2] at hr
    refine sr (ls jy k3 (nn (W_seq ?_)))
    refine W_cond _ (rv (vb (decide (jn < (a0.length : Int))))) (fun k5 => ?_) (fun k5 => ?_)
    ·have hr := ite_t k5 hr
     refine W_skip (then_n (W_seq (W_block (sr (mv jy ?_)))))
     obtain ⟨k6, k7, hr⟩ := bind_some hr
     refine ix Try.underlying24 ty22.inf k2 (h0.mono (j8.trans jt)) jy k7 (fun k8 k9 => ld ty22 (rv k8) k9 (fun ka kb => asg (rv (vi jn)) (asg (rv ka) (nn (sr (mv k0 (mv (rv (vi jn)) ?_)))))))
     obtain ⟨kc, kd, hr⟩ := bind_some hr
     refine ix Try.underlying27 ty4.inf (rv w1) (h1.mono (j8.trans jt)) (rv (vi jn)) kd (fun ke kf => L_load_bool ty4 (rv ke) kf (by decide) (nn ?_))
     refine W_cond _ (rv (vb kc)) (fun kg => ?_) (fun kg => ?_)
     ·have hr := ite_t kg hr; refine W_region (mv ju (mv (rv (vi jn)) (L_buildSlice (xs := ([jn] : List Int)) Try.underlying40 tyz3 (Parts_cons rfl (rv (vi jn)) Parts_nil) (Vs.cons Vint Vs.nil) rfl (by decide) (by decide) (fun kh ki kj kk kl => ?_)))); have km := Tch.ext js kj; obtain ⟨kn, hr⟩ := chk_some hr; refine L_append (xs := jk) (B := s0.w.heap.size) Try.underlying40 tyz3 (rv jj) (rv ki) ((jv).ext kj) (km.size) kl kn.1 kn.2 (by decide) (fun ko kp kq => ?_); have kr := kq.tchM ((jv).ext kj) km (Nat.le_refl _); have ks := kq.apart ((jx).ext kj) (fun k hk hm => k4 k hm hk); refine mv jw (mv (rv ka) (L_buildSlice (xs := ([k6] : List (List U8))) Try.underlying24 tyz22 (Parts_cons rfl (rv ka) Parts_nil) (Vs.cons (kb.mono (kj.le.trans kq.tch.le)) Vs.nil) rfl (by decide) (by decide) (fun kt ku kv kw kx => ?_))); have ky := Tch.ext kr kv; obtain ⟨kz, hr⟩ := chk_some hr; refine L_append (xs := jm) (B := s0.w.heap.size) Try.underlying24 tyz22 (rv jl) (rv ku) ((((jx).ext kj).tch kq.tch (fun k hk hm => k4 k hm hk)).ext kv) (ky.size) kx kz.1 kz.2 (by decide) (fun g0 g1 g2 => ?_); have g3 := g2.tchM ((((jx).ext kj).tch kq.tch (fun k hk hm => k4 k hm hk)).ext kv) ky (Nat.le_refl _); have g4 := g2.apart ((kq.bld).ext kv) (fun k hk hm => ks k hm hk); refine asg (rv ko) (asg (rv g0) (L_nil (block_n (then_n (W_region ?_))))); obtain ⟨g5, hr⟩ := chk_some hr; exact ad jy (rv (vi 1)) g5 (mv (rv (vi (jn + 1))) (nn ⟨jo, Nat.lt_succ_self _, ⟨g1, ko, (jk ++ ([jn] : List Int)), g0, (jm ++ ([k6] : List (List U8))), (jn + 1), rfl, g3, (jt.trans (kj.le.trans (kq.tch.le.trans (kv.le.trans g2.tch.le)))), hr, rfl, ((kq.bld).ext kv).tch g2.tch (fun k hk hm => ks k hm hk), rfl, g2.bld, rfl, jz, k0, k1, k2, k3, g4⟩⟩))
     ·have hr := ite_f kg hr; refine W_skip (block_n (then_n (W_region ?_))); obtain ⟨kh, hr⟩ := chk_some hr; exact ad jy (rv (vi 1)) kh (mv (rv (vi (jn + 1))) (nn ⟨jo, Nat.lt_succ_self _, ⟨jr, jj, jk, jl, jm, (jn + 1), rfl, js, jt, hr, ju, jv, jw, jx, rfl, jz, k0, k1, k2, k3, k4⟩⟩))
    ·have hr := ite_f k5 hr; refine W_exit (then_x (then_x (block_here ?_))); exact then_n ⟨jr, jj, jk, jl, jm, rfl, js, jt, Option.some.inj hr, ju, jv, jw, jx, jz, k0, k1, k4⟩
  ·rintro jj jk ⟨jl, jf, jg, jh, ji, rfl, jm, jn, jd, jo, jp, jq, jr, js, jt, ju, jv⟩
   subst jd
   have hr := je
   try dsimp only at hr
   refine then_n (W_seq (sr (mv jq ?_)))
   have jw := (jr).toV
   refine ln Try.underlying24 (rv jh) jw (mv ju (ls (rv (vi ((ji.length : Int)))) (rv (vi a2)) (nn ?_)))
   refine W_cond _ (rv (vb (decide ((ji.length : Int) < a2)))) (fun jx => ?_) (fun jx => ?_)
   ·have hr := ite_t jx hr; refine sr (asg (rv (Value.slice none 0 0)) (asg (rv (vi 19)) (nn (W_ret (then_r ?_))))); obtain rfl := Option.some.inj hr; exact done2 (Or.inl rfl) Try.results13 rfl rfl ⟨_, _, rfl, rfl, jm, _, _, rfl, Vnil, Vint⟩
   ·have hr := ite_f jx hr
    refine W_skip (then_n (W_seq (sr (mv jq ?_))))
    have jy := (jr).toV
    obtain ⟨jz, k0, hr⟩ := bind_some hr
    refine L_calls cal36 (args1 (rv jh)) (check_sized_ok N _ _ _ jy jz k0) (by decide) (fun k1 k2 k3 k4 => ?_)
    have k5 := Tch.ext jm k3
    obtain rfl := k4.int
    refine asg (rv (vi jz)) (nn (sr (mv (rv (vi jz)) (ne (rv (vi jz)) (rv (vi 0)) (nn ?_)))))
    refine W_cond _ (rv (vb (!decide (jz = 0)))) (fun k6 => ?_) (fun k6 => ?_)
    ·have hr := ite_t k6 hr; refine sr (mv (rv (vi jz)) (asg (rv (Value.slice none 0 0)) (asg (rv (vi jz)) (nn (W_ret (then_r ?_)))))); obtain rfl := Option.some.inj hr; exact done2 (Or.inl rfl) Try.results13 rfl rfl ⟨_, _, rfl, rfl, k5, _, _, rfl, Vnil, Vint⟩
    ·have hr := ite_f k6 hr
     refine W_skip (then_n (sr ?_))
     obtain ⟨k7, k8, hr⟩ := bind_some hr
     refine L_calls cal37 (args0) (check_newField_ok N _  k7 k8) (by decide) (fun k9 ka kb kc => ?_)
     have kd := Tch.ext k5 kb
     refine asg (rv k9) (nn (W_seq ?_))
     obtain ⟨ke, kf, hr⟩ := bind_some hr
     obtain ⟨kg, kh, hr⟩ := bind_some hr
     obtain ⟨ki, kj, hr⟩ := bind_some hr
     refine W_draws mixed (by kernel_rfl) [PV.ptr (k7 : Field), PV.data (jg : List Int), PV.eq (vi a2), PV.data (ke : List Int), PV.data (ji : List (List U8)), PV.eq (vi a2), PV.data (kg : List (List U8)), PV.data (ki : List (List U8)), PV.data (ki : List (List U8))] (Steps_cons ?_ (Steps_cons ?_ (Steps_cons ?_ (Steps_cons ?_ (Steps_cons ?_ (Steps_cons ?_ (Steps_cons ?_ (Steps_cons ?_ (Steps_cons ?_ Steps_nil))))))))) ?_
     ·intro kk kl km kn ko Q kp; have kq : kk 13 = k9 := (ko 13 (by kernel_rfl)).trans rfl; exact mv kq (fin kp (kc.mono km.le))
     ·intro kk kl km kn ko Q kp; have kq : kk 8 = jf := (ko 8 (by kernel_rfl)).trans jo; refine mv kq ?_; have kr := ((((jp).ext k3).ext kb).ext km).toV; exact fin kp kr
     ·intro kk kl km kn ko Q kp; have kq : kk 2 = vi (a2) := (ko 2 (by kernel_rfl)).trans ju; exact mv kq (fin kp rfl)
     ·intro kk kl km kn ko Q kp; have kq : V _ (kk 74) (jg : List Int) := kn 1 74 (by kernel_rfl) (by kernel_rfl); obtain ⟨kr, ks, kt⟩ : ∃ v, _ = v ∧ V _ v _ := ⟨_, rfl, kq⟩; have ku : kk 75 = vi (a2) := kn 2 75 (by kernel_rfl) (by kernel_rfl); exact L_slice_h Try.underlying40 ty3.inf ks kt ku kf (by decide) (fun kv kw => fin kp kw)
     ·intro kk kl km kn ko Q kp; have kq : kk 9 = jh := (ko 9 (by kernel_rfl)).trans jq; refine mv kq ?_; have kr := ((((jr).ext k3).ext kb).ext km).toV; exact fin kp kr
     ·intro kk kl km kn ko Q kp; have kq : kk 2 = vi (a2) := (ko 2 (by kernel_rfl)).trans ju; exact mv kq (fin kp rfl)
     ·intro kk kl km kn ko Q kp; have kq : V _ (kk 77) (ji : List (List U8)) := kn 4 77 (by kernel_rfl) (by kernel_rfl); obtain ⟨kr, ks, kt⟩ : ∃ v, _ = v ∧ V _ v _ := ⟨_, rfl, kq⟩; have ku : kk 78 = vi (a2) := kn 5 78 (by kernel_rfl) (by kernel_rfl); exact L_slice_h Try.underlying24 ty22.inf ks kt ku kh (by decide) (fun kv kw => fin kp kw)
     ·intro kk kl km kn ko Q kp; have kq : Ptr _ (kk 73) (k7 : Field) := kn 0 73 (by kernel_rfl) (by kernel_rfl); obtain ⟨kr, ks, kt⟩ : ∃ v, _ = v ∧ Ptr _ v _ := ⟨_, rfl, kq⟩; have ku : V _ (kk 76) (ke : List Int) := kn 3 76 (by kernel_rfl) (by kernel_rfl); obtain ⟨kv, kw, kx⟩ : ∃ v, _ = v ∧ V _ v _ := ⟨_, rfl, ku⟩; have ky : V _ (kk 79) (kg : List (List U8)) := kn 6 79 (by kernel_rfl) (by kernel_rfl); obtain ⟨kz, g0, g1⟩ : ∃ v, _ = v ∧ V _ v _ := ⟨_, rfl, ky⟩; refine L_calls cal38 (args3 ks kw g0) (check_field_solve_ok N _ _ _ kt _ _ kx _ _ g1 ki kj) (by decide) (fun g2 g3 g4 g5 => ?_); have g6 := Tch.ext (Ext.refl kl) g4; exact L_nil (kp _ _ g6 g5)
     ·intro kk kl km kn ko Q kp; have kq : V _ (kk 80) (ki : List (List U8)) := kn 7 80 (by kernel_rfl) (by kernel_rfl); obtain ⟨kr, ks, kt⟩ : ∃ v, _ = v ∧ V _ v _ := ⟨_, rfl, kq⟩; exact asg ks (fin kp kt)
     ·intro kk kl km kn ko
      have kp := Tch.ext kd km
      have kq : kk 0 = w0 := (ko 0 (by kernel_rfl)).trans js
      have kr : kk 1 = w1 := (ko 1 (by kernel_rfl)).trans jt
      have ks : kk 13 = k9 := (ko 13 (by kernel_rfl)).trans rfl
      have kt : V _ (kk 14) (ki : List (List U8)) := kn 8 14 (by kernel_rfl)
      obtain ⟨ku, kv, kw⟩ : ∃ v, _ = v ∧ V _ v _ := ⟨_, rfl, kt⟩
      refine then_n (sr (mv kq (ln Try.underlying24 (rv w0) (h0.mono (j8.trans (jn.trans (k3.le.trans (kb.le.trans km.le))))) ?_)))
      obtain ⟨kx, hr⟩ := chk_some hr
      refine L_makeArr (x0 := ([] : List U8)) Try.underlying24 tyz22 (rv (vi ((a0.length : Int)))) kx.1 kx.2.1 kx.2.2 (fun _ => ⟨none, 0, rfl, Nat.le_refl _, fun h => (h rfl).elim⟩) (by decide) (fun ky kz g0 g1 g2 => ?_)
      have g3 := Tch.ext kp g0
      refine asg (rv (Value.slice (some ⟨kz, 0, none⟩) ((a0.length : Int)).toNat ((a0.length : Int)).toNat)) (nn (W_seq (sr (mv (rv (Value.slice (some ⟨kz, 0, none⟩) ((a0.length : Int)).toNat ((a0.length : Int)).toNat)) (L_lenA Try.underlying24 (rv (Value.slice (some ⟨kz, 0, none⟩) ((a0.length : Int)).toNat ((a0.length : Int)).toNat)) (by decide) (mv (rv (vi 0)) (nn ?_)))))))
      obtain ⟨g4, g5, g6⟩ := bind_some hr
      refine W_cut (fun f w => ∃ (s : St) (g7 : List (List U8)), s.w = w ∧ Ext s0 s ∧ Le ky s ∧ Sum.inl g7 = g4 ∧ f 15 = Value.slice (some ⟨kz, 0, none⟩) ((a0.length : Int)).toNat ((a0.length : Int)).toNat ∧ Arr s kz 22 ((a0.length : Int)).toNat g7) ?_ ?_
      ·refine W_block (W_loop (fun m f w => ∃ (s : St) (g8 : Int) (g9 : List (List U8)), s.w = w ∧ Ext s0 s ∧ Le ky s ∧ check_Repair_l2 N a0 a1 k7 ki m g8 g9 = some g4 ∧ f 86 = vi g8 ∧ f 0 = w0 ∧ f 1 = w1 ∧ f 13 = k9 ∧ f 14 = ku ∧ f 15 = Value.slice (some ⟨kz, 0, none⟩) ((a0.length : Int)).toNat ((a0.length : Int)).toNat ∧ f 85 = vi (((((a0.length : Int)).toNat : Nat) : Int)) ∧ Arr s kz 22 ((a0.length : Int)).toNat g9) N ⟨ky, 0, (List.replicate ((a0.length : Int)).toNat ([] : List U8)), rfl, g3, (Le.refl _), g5, rfl, kq, kr, ks, kv, rfl, rfl, g2⟩ ?_)
       rintro ga gb gc ⟨gd, g8, g9, rfl, gg, gh, hr, gi, gj, gk, gl, gm, gn, go, gp⟩
       cases ga with
       | zero => exact absurd hr (by simp [check_Repair_l2])
       | succ ga =>
        rw [check_Repair_l2.eq_2] at hr
        refine sr (ls gi go (nn (W_seq ?_)))
        refine W_cond _ (rfl : _ = vb (decide (g8 < ((((a0.length : Int)).toNat : Nat) : Int)))) (fun gq => ?_) (fun gq => ?_)
        ·have hr := ite_t gq hr
         refine W_skip (then_n (W_seq (W_block (sr (mv gi (asg (rv (vi g8)) (nn (sr (mv gn (mv (rv (vi g8)) (mv gl (mv (rv (vi g8)) (mv gm ?_)))))))))))))
         obtain ⟨gr, gs, hr⟩ := bind_some hr
         refine L_calls cal39 (args3 (rv k9) (rv (vi g8)) (rv ku)) (check_field_block_ok N _ _ _ (kc.mono (km.le.trans (g0.le.trans gh))) g8 _ _ (kw.mono (g0.le.trans gh)) gr gs) (by decide) (fun gu gv gw gx => ?_)
         have gy := Tch.ext gg gw
         obtain ⟨gz, u0, hr⟩ := bind_some hr
         refine L_indexA (sz := 1) Try.underlying24 ty22.inf (rv (Value.slice (some ⟨kz, 0, none⟩) ((a0.length : Int)).toNat ((a0.length : Int)).toNat)) (rv (vi g8)) (idx_some u0).1 (by have := (idx_some u0).2.1; have := ((gp).ext gw).1; omega) (by decide) (L_storeA (xs := g9) ty22 (rv (Value.pointer (some ⟨kz, (g8).toNat * 1, none⟩))) (rv gu) gx ((gp).ext gw) u0 (fun u1 u2 u3 => ?_))
         have u4 := Tch.trans gy u2 (fun k hk => Or.inr (by subst hk; exact (Nat.le_trans kp.size g1)))
         refine nn ?_
         obtain ⟨u5, u6, u7⟩ := bind_some hr
         refine W_seq_cut (fun f w => ∃ (s : St) (u9 : Bool), s.w = w ∧ Ext s0 s ∧ Le u1 s ∧ u9 = u5 ∧ f 111 = vb u9 ∧ f 0 = w0 ∧ f 1 = w1 ∧ f 13 = k9 ∧ f 14 = ku ∧ f 15 = Value.slice (some ⟨kz, 0, none⟩) ((a0.length : Int)).toNat ((a0.length : Int)).toNat ∧ f 85 = vi (((((a0.length : Int)).toNat : Nat) : Int)) ∧ f 86 = vi (g8) ∧ Arr s kz 22 ((a0.length : Int)).toNat (g9.set (g8).toNat gr)) ?_ ?_
         ·have hr := u6
          obtain ⟨ua, ub, hr⟩ := bind_some hr
          rcases tf (ua) with uc | uc
          ·have hr := ite_t uc hr
           obtain ⟨ud, ue, hr⟩ := bind_some hr
           obtain ⟨uf, ug, hr⟩ := bind_some hr
           obtain ⟨uh, ui, hr⟩ := bind_some hr
           refine W_draws mixed (by kernel_rfl) [PV.data (a1 : List Bool), PV.eq (vi g8), PV.ptr (ua : Bool), PV.eq (vb ua), PV.eq (vb ua), PV.eq (Value.slice (some ⟨kz, 0, none⟩) ((a0.length : Int)).toNat ((a0.length : Int)).toNat), PV.eq (vi g8), PV.eq (Value.pointer (some ⟨kz, (g8).toNat * 1, none⟩)), PV.data (ud : List U8), PV.data (a0 : List (List U8)), PV.eq (vi g8), PV.ptr (uf : List U8), PV.data (uf : List U8), PV.eq (vb uh), PV.eq (vb (!uh)), PV.eq (vb (!uh))] (Steps_cons ?_ (Steps_cons ?_ (Steps_cons ?_ (Steps_cons ?_ (Steps_cons ?_ (Steps_cons ?_ (Steps_cons ?_ (Steps_cons ?_ (Steps_cons ?_ (Steps_cons ?_ (Steps_cons ?_ (Steps_cons ?_ (Steps_cons ?_ (Steps_cons ?_ (Steps_cons ?_ (Steps_cons ?_ Steps_nil)))))))))))))))) ?_
           ·intro uj uk ul um un Q uo; have uq : uj 1 = w1 := (un 1 (by kernel_rfl)).trans gk; exact mv uq (fin uo (h1.mono (j8.trans (jn.trans (k3.le.trans (kb.le.trans (km.le.trans (g0.le.trans (gh.trans (gw.le.trans (u2.le.trans ul.le)))))))))))
           ·intro uj uk ul um un Q uo; have uq : uj 16 = vi (g8) := (un 16 (by kernel_rfl)).trans rfl; exact mv uq (fin uo rfl)
           ·intro uj uk ul um un Q uo; have uq : V _ (uj 96) (a1 : List Bool) := um 0 96 (by kernel_rfl) (by kernel_rfl); obtain ⟨ur, us, ut⟩ : ∃ v, _ = v ∧ V _ v _ := ⟨_, rfl, uq⟩; have uu : uj 97 = vi (g8) := um 1 97 (by kernel_rfl) (by kernel_rfl); exact ix Try.underlying27 ty4.inf us ut uu ub (fun uv uw => fin uo uw)
           ·intro uj uk ul um un Q uo; have uq : Ptr _ (uj 98) (ua : Bool) := um 2 98 (by kernel_rfl) (by kernel_rfl); obtain ⟨ur, us, ut⟩ : ∃ v, _ = v ∧ Ptr _ v _ := ⟨_, rfl, uq⟩; exact L_load_bool ty4 us ut (by decide) (fin uo rfl)
           ·intro uj uk ul um un Q uo; have uq : uj 99 = vb (ua) := um 3 99 (by kernel_rfl) (by kernel_rfl); exact mv uq (fin uo rfl)
           ·intro uj uk ul um un Q uo; have uq : uj 15 = Value.slice (some ⟨kz, 0, none⟩) ((a0.length : Int)).toNat ((a0.length : Int)).toNat := (un 15 (by kernel_rfl)).trans gn; have ur : uj 100 = vb (ua) := um 4 100 (by kernel_rfl) (by kernel_rfl); exact gt 100 ur uc (mv uq (fin uo rfl))
           ·intro uj uk ul um un Q uo; have uq : uj 16 = vi (g8) := (un 16 (by kernel_rfl)).trans rfl; have ur : uj 100 = vb (ua) := um 4 100 (by kernel_rfl) (by kernel_rfl); exact gt 100 ur uc (mv uq (fin uo rfl))
           ·intro uj uk ul um un Q uo; have uq : uj 100 = vb (ua) := um 4 100 (by kernel_rfl) (by kernel_rfl); have ur : uj 101 = Value.slice (some ⟨kz, 0, none⟩) ((a0.length : Int)).toNat ((a0.length : Int)).toNat := um 5 101 (by kernel_rfl) (by kernel_rfl); have us : uj 102 = vi (g8) := um 6 102 (by kernel_rfl) (by kernel_rfl); exact gt 100 uq uc (L_indexA (sz := 1) Try.underlying24 ty22.inf ur us (idx_some ue).1 (by have := (idx_some ue).2.1; have := ((u3).ext ul).1; omega) (by decide) (fin uo rfl))
           ·intro uj uk ul um un Q uo; have uq : uj 100 = vb (ua) := um 4 100 (by kernel_rfl) (by kernel_rfl); have ur : uj 103 = Value.pointer (some ⟨kz, (g8).toNat * 1, none⟩) := um 7 103 (by kernel_rfl) (by kernel_rfl); exact gt 100 uq uc (L_loadA (xs := (g9.set (g8).toNat gr)) ty22 ur ((u3).ext ul) ue (by decide) (fun us ut => fin uo ut))
           ·intro uj uk ul um un Q uo; have uq : uj 0 = w0 := (un 0 (by kernel_rfl)).trans gj; have ur : uj 100 = vb (ua) := um 4 100 (by kernel_rfl) (by kernel_rfl); exact gt 100 ur uc (mv uq (fin uo (h0.mono (j8.trans (jn.trans (k3.le.trans (kb.le.trans (km.le.trans (g0.le.trans (gh.trans (gw.le.trans (u2.le.trans ul.le))))))))))))
           ·intro uj uk ul um un Q uo; have uq : uj 16 = vi (g8) := (un 16 (by kernel_rfl)).trans rfl; have ur : uj 100 = vb (ua) := um 4 100 (by kernel_rfl) (by kernel_rfl); exact gt 100 ur uc (mv uq (fin uo rfl))
           ·intro uj uk ul um un Q uo; have uq : uj 100 = vb (ua) := um 4 100 (by kernel_rfl) (by kernel_rfl); have ur : V _ (uj 105) (a0 : List (List U8)) := um 9 105 (by kernel_rfl) (by kernel_rfl); obtain ⟨us, ut, uu⟩ : ∃ v, _ = v ∧ V _ v _ := ⟨_, rfl, ur⟩; have uv : uj 106 = vi (g8) := um 10 106 (by kernel_rfl) (by kernel_rfl); exact gt 100 uq uc (ix Try.underlying24 ty22.inf ut uu uv ug (fun uw ux => fin uo ux))
           ·intro uj uk ul um un Q uo; have uq : uj 100 = vb (ua) := um 4 100 (by kernel_rfl) (by kernel_rfl); have ur : Ptr _ (uj 107) (uf : List U8) := um 11 107 (by kernel_rfl) (by kernel_rfl); obtain ⟨us, ut, uu⟩ : ∃ v, _ = v ∧ Ptr _ v _ := ⟨_, rfl, ur⟩; exact gt 100 uq uc (ld ty22 ut uu (fun uv uw => fin uo uw))
           ·intro uj uk ul um un Q uo; have uq : uj 100 = vb (ua) := um 4 100 (by kernel_rfl) (by kernel_rfl); have ur : V _ (uj 104) (ud : List U8) := um 8 104 (by kernel_rfl) (by kernel_rfl); obtain ⟨us, ut, uu⟩ : ∃ v, _ = v ∧ V _ v _ := ⟨_, rfl, ur⟩; have uv : V _ (uj 108) (uf : List U8) := um 12 108 (by kernel_rfl) (by kernel_rfl); obtain ⟨uw, ux, uy⟩ : ∃ v, _ = v ∧ V _ v _ := ⟨_, rfl, uv⟩; refine gt 100 uq uc (L_calls cal40 (args2 ut ux) (bytes_Equal_ok N _ _ _ uu _ _ uy uh ui) (by decide) (fun uz t0 t1 t2 => ?_)); have t3 := Tch.ext (Ext.refl uk) t1; obtain rfl := t2.bool; exact L_nil (uo _ _ t3 rfl)
           ·intro uj uk ul um un Q uo; have uq : uj 100 = vb (ua) := um 4 100 (by kernel_rfl) (by kernel_rfl); have ur : uj 109 = vb (uh) := um 13 109 (by kernel_rfl) (by kernel_rfl); exact gt 100 uq uc (L_not ur (by decide) (fin uo rfl))
           ·intro uj uk ul um un Q uo; have uq : uj 100 = vb (ua) := um 4 100 (by kernel_rfl) (by kernel_rfl); have ur : uj 110 = vb (!uh) := um 14 110 (by kernel_rfl) (by kernel_rfl); exact pt uq uc ur (fin uo rfl)
           ·intro uj uk ul um un; have uo := Tch.ext u4 ul; have uq : uj 0 = w0 := (un 0 (by kernel_rfl)).trans gj; have ur : uj 1 = w1 := (un 1 (by kernel_rfl)).trans gk; have us : uj 13 = k9 := (un 13 (by kernel_rfl)).trans gl; have ut : uj 14 = ku := (un 14 (by kernel_rfl)).trans gm; have uu : uj 15 = Value.slice (some ⟨kz, 0, none⟩) ((a0.length : Int)).toNat ((a0.length : Int)).toNat := (un 15 (by kernel_rfl)).trans gn; have uv : uj 85 = vi (((((a0.length : Int)).toNat : Nat) : Int)) := (un 85 (by kernel_rfl)).trans go; have uw : uj 86 = vi (g8) := (un 86 (by kernel_rfl)).trans gi; have ux : uj 111 = vb (!uh) := um 15 111 (by kernel_rfl); exact then_n ⟨uk, (!uh), rfl, uo, ul.le, Option.some.inj hr, ux, uq, ur, us, ut, uu, uv, uw, (u3).ext ul⟩
          ·have hr := ite_f uc hr
           refine W_draws mixed (by kernel_rfl) [PV.data (a1 : List Bool), PV.eq (vi g8), PV.ptr (ua : Bool), PV.eq (vb ua), PV.eq (vb ua), PV.eq (undef), PV.eq (undef), PV.eq (undef), PV.eq (undef), PV.eq (undef), PV.eq (undef), PV.eq (undef), PV.eq (undef), PV.eq (undef), PV.eq (undef), PV.eq (vb false)] (Steps_cons ?_ (Steps_cons ?_ (Steps_cons ?_ (Steps_cons ?_ (Steps_cons ?_ (Steps_cons ?_ (Steps_cons ?_ (Steps_cons ?_ (Steps_cons ?_ (Steps_cons ?_ (Steps_cons ?_ (Steps_cons ?_ (Steps_cons ?_ (Steps_cons ?_ (Steps_cons ?_ (Steps_cons ?_ Steps_nil)))))))))))))))) ?_
           ·intro ud ue uf ug uh Q ui; have uj : ud 1 = w1 := (uh 1 (by kernel_rfl)).trans gk; exact mv uj (fin ui (h1.mono (j8.trans (jn.trans (k3.le.trans (kb.le.trans (km.le.trans (g0.le.trans (gh.trans (gw.le.trans (u2.le.trans uf.le)))))))))))
           ·intro ud ue uf ug uh Q ui; have uj : ud 16 = vi (g8) := (uh 16 (by kernel_rfl)).trans rfl; exact mv uj (fin ui rfl)
           ·intro ud ue uf ug uh Q ui; have uj : V _ (ud 96) (a1 : List Bool) := ug 0 96 (by kernel_rfl) (by kernel_rfl); obtain ⟨uk, ul, um⟩ : ∃ v, _ = v ∧ V _ v _ := ⟨_, rfl, uj⟩; have un : ud 97 = vi (g8) := ug 1 97 (by kernel_rfl) (by kernel_rfl); exact ix Try.underlying27 ty4.inf ul um un ub (fun uo uq => fin ui uq)
           ·intro ud ue uf ug uh Q ui; have uj : Ptr _ (ud 98) (ua : Bool) := ug 2 98 (by kernel_rfl) (by kernel_rfl); obtain ⟨uk, ul, um⟩ : ∃ v, _ = v ∧ Ptr _ v _ := ⟨_, rfl, uj⟩; exact L_load_bool ty4 ul um (by decide) (fin ui rfl)
           ·intro ud ue uf ug uh Q ui; have uj : ud 99 = vb (ua) := ug 3 99 (by kernel_rfl) (by kernel_rfl); exact mv uj (fin ui rfl)
           ·intro ud ue uf ug uh Q ui; have uj : ud 100 = vb (ua) := ug 4 100 (by kernel_rfl) (by kernel_rfl); exact gf 100 uj uc (fin ui rfl)
           ·intro ud ue uf ug uh Q ui; have uj : ud 100 = vb (ua) := ug 4 100 (by kernel_rfl) (by kernel_rfl); exact gf 100 uj uc (fin ui rfl)
           ·intro ud ue uf ug uh Q ui; have uj : ud 100 = vb (ua) := ug 4 100 (by kernel_rfl) (by kernel_rfl); exact gf 100 uj uc (fin ui rfl)
           ·intro ud ue uf ug uh Q ui; have uj : ud 100 = vb (ua) := ug 4 100 (by kernel_rfl) (by kernel_rfl); exact gf 100 uj uc (fin ui rfl)
           ·intro ud ue uf ug uh Q ui; have uj : ud 100 = vb (ua) := ug 4 100 (by kernel_rfl) (by kernel_rfl); exact gf 100 uj uc (fin ui rfl)
           ·intro ud ue uf ug uh Q ui; have uj : ud 100 = vb (ua) := ug 4 100 (by kernel_rfl) (by kernel_rfl); exact gf 100 uj uc (fin ui rfl)
           ·intro ud ue uf ug uh Q ui; have uj : ud 100 = vb (ua) := ug 4 100 (by kernel_rfl) (by kernel_rfl); exact gf 100 uj uc (fin ui rfl)
           ·intro ud ue uf ug uh Q ui; have uj : ud 100 = vb (ua) := ug 4 100 (by kernel_rfl) (by kernel_rfl); exact gf 100 uj uc (fin ui rfl)
           ·intro ud ue uf ug uh Q ui; have uj : ud 100 = vb (ua) := ug 4 100 (by kernel_rfl) (by kernel_rfl); exact gf 100 uj uc (fin ui rfl)
           ·intro ud ue uf ug uh Q ui; have uj : ud 100 = vb (ua) := ug 4 100 (by kernel_rfl) (by kernel_rfl); exact gf 100 uj uc (fin ui rfl)
           ·intro ud ue uf ug uh Q ui; have uj : ud 100 = vb (ua) := ug 4 100 (by kernel_rfl) (by kernel_rfl); exact pf uj uc (rv (vb false)) (fin ui rfl)
           ·intro ud ue uf ug uh; have ui := Tch.ext u4 uf; have uj : ud 0 = w0 := (uh 0 (by kernel_rfl)).trans gj; have uk : ud 1 = w1 := (uh 1 (by kernel_rfl)).trans gk; have ul : ud 13 = k9 := (uh 13 (by kernel_rfl)).trans gl; have um : ud 14 = ku := (uh 14 (by kernel_rfl)).trans gm; have un : ud 15 = Value.slice (some ⟨kz, 0, none⟩) ((a0.length : Int)).toNat ((a0.length : Int)).toNat := (uh 15 (by kernel_rfl)).trans gn; have uo : ud 85 = vi (((((a0.length : Int)).toNat : Nat) : Int)) := (uh 85 (by kernel_rfl)).trans go; have uq : ud 86 = vi (g8) := (uh 86 (by kernel_rfl)).trans gi; have ur : ud 111 = vb (false) := ug 15 111 (by kernel_rfl); exact then_n ⟨ue, false, rfl, ui, uf.le, Option.some.inj hr, ur, uj, uk, ul, um, un, uo, uq, (u3).ext uf⟩
         ·rintro ua ub ⟨uc, u9, rfl, ud, ue, u6, uf, ug, uh, ui, uj, uk, ul, um, un⟩
          subst u6
          have hr := u7
          try dsimp only at hr
          refine W_cond _ uf (fun uo => ?_) (fun uo => ?_)
          ·have hr := ite_t uo hr; refine sr (asg (rv (Value.slice none 0 0)) (asg (rv (vi 20)) (nn (W_ret (block_r (then_r (then_r (block_r ?_)))))))); obtain rfl := Option.some.inj hr; have hr := g6; (try dsimp only at hr); refine then_r (then_r ?_); obtain rfl := Option.some.inj hr; exact done2 (Or.inl rfl) Try.results13 rfl rfl ⟨_, _, rfl, rfl, ud, _, _, rfl, Vnil, Vint⟩
          ·have hr := ite_f uo hr; refine W_skip (block_n (then_n (W_region ?_))); obtain ⟨uq, hr⟩ := chk_some hr; exact ad um (rv (vi 1)) uq (mv (rv (vi (g8 + 1))) (nn ⟨ga, Nat.lt_succ_self _, ⟨uc, (g8 + 1), (g9.set (g8).toNat gr), rfl, ud, (gh.trans (gw.le.trans (u2.le.trans ue))), hr, rfl, ug, uh, ui, uj, uk, ul, un⟩⟩))
        ·have hr := ite_f gq hr; refine W_exit (then_x (then_x (block_here ?_))); exact then_n ⟨gd, g9, rfl, gg, gh, Option.some.inj hr, gn, gp⟩
      ·rintro g8 g9 ⟨ga, g7, rfl, gb, gc, g5, gd, gg⟩; subst g5; have hr := g6; (try dsimp only at hr); refine then_n (sr (mv gd (asg (rv (Value.slice (some ⟨kz, 0, none⟩) ((a0.length : Int)).toNat ((a0.length : Int)).toNat)) (asg (rv (vi 0)) (nn (W_ret ?_)))))); obtain rfl := Option.some.inj hr; obtain ⟨gh, gi, gj, gk⟩ := (gg).freeze; have gl := Tch.trans gb gj (fun k hk => Or.inr (by subst hk; exact (Nat.le_trans kp.size g1))); exact done2 (Or.inl rfl) Try.results13 rfl rfl ⟨_, _, rfl, gi, gl, _, _, rfl, gk, Vint⟩

theorem check_Blame_ok (N : Nat) (s0 : St) (w0 : Value) (a0 : List (List U8)) (h0 : V s0 w0 a0) (a1 : Int) (r : Int × Int) (hr : check_Blame N a0 a1 = some r) :
    Calls Try.prog 30 #[w0, .int .i64 a1] s0.w (Ret s0 fun v s => ∃ a b, v = .tuple #[a, b] ∧ V s a r.1 ∧ V s b r.2) := by
 unfold check_Blame at hr
 have j0 := Ext.refl s0
 refine Calls_of (n := 61) (args := [w0, .int .i64 a1]) Try.func30 rfl rfl (by simp) (sr (asg (rv (vi 0)) (asg (rv (vi 0)) (nn (sr (L_buildSlice (xs := ([true] : List Bool)) Try.underlying27 tyz4 (Parts_cons rfl (rv (vb true)) Parts_nil) (Vs.cons Vbool Vs.nil) rfl (by decide) (by decide) (fun j1 j2 j3 j4 j5 => ?_)))))))
 have j6 := Tch.ext j0 j3
 refine mv (rv w0) (ln Try.underlying24 (rv w0) (h0.mono j3.le) (L_min (rv (vi ((a0.length : Int)))) (rv (vi 33)) (by decide) ?_))
 obtain ⟨j7, j8, hr⟩ := bind_some hr
 refine L_calls cal61 (args2 (rv j2) (rv (vi (min (a0.length : Int) 33)))) (slices_Repeat_Lbool_bool_ok N _ _ _ j5 (min (a0.length : Int) 33) j7 j8) (by decide) (fun j9 ja jb jc => ?_)
 have jd := Tch.ext j6 jb
 obtain ⟨je, jf, rfl, jg⟩ := jc
 refine asg (rv (Value.slice (some ⟨je, 0, none⟩) j7.length j7.length)) (nn (W_seq (sr (mv (rv w0) (mv (rv (Value.slice (some ⟨je, 0, none⟩) j7.length j7.length)) (mv (rv (vi a1)) ?_))))))
 obtain ⟨jh, ji, hr⟩ := bind_some hr
 obtain ⟨jj, jk, jl, jm⟩ := (jg).freeze
 refine L_calls_fz cal13 (args3 (rv w0) (rv (Value.slice (some ⟨je, 0, none⟩) j7.length j7.length)) (rv (vi a1))) jk jl (fun k hk => by have jn : k = je := hk; rw [jn]; exact (jg).g) (check_Repair_ok N _ _ _ (h0.mono (j3.le.trans (jb.le.trans jl.le))) _ _ jm a1 jh ji) (by decide) (fun jo jp jq jr js jt => ?_)
 have ju := Tch.ext jd js
 obtain ⟨jv, jw, rfl, jx, jy⟩ := jt
 obtain rfl := jy.int
 refine mv (rv (Value.tuple #[jv, vi (jh.2)])) (xt (rv (Value.tuple #[jv, vi (jh.2)])) (k := 0) rfl (xt (rv (Value.tuple #[jv, vi (jh.2)])) (k := 1) rfl (asg (rv jv) (asg (rv (vi (jh.2))) (nn (sr (mv (rv (vi (jh.2))) (ne (rv (vi (jh.2))) (rv (vi 20)) (nn ?_)))))))))
 refine W_cond _ (rv (vb (!decide (jh.2 = 20)))) (fun jz => ?_) (fun jz => ?_)
 ·have hr := ite_t jz hr
  refine W_seq (sr (mv (rv (vi (jh.2))) (ne (rv (vi (jh.2))) (rv (vi 0)) (nn ?_))))
  refine W_cond _ (rv (vb (!decide (jh.2 = 0)))) (fun k0 => ?_) (fun k0 => ?_)
  ·have hr := ite_t k0 hr; refine sr (mv (rv (vi (jh.2))) (asg (rv (vi 0)) (asg (rv (vi (jh.2))) (nn (W_ret (then_r (then_r ?_))))))); obtain rfl := Option.some.inj hr; exact done2 (Or.inl rfl) Try.results30 rfl rfl ⟨_, _, rfl, rfl, ju, _, _, rfl, Vint, Vint⟩
  ·have hr := ite_f k0 hr; refine W_skip (then_n (sr (asg (rv (vi (-1))) (asg (rv (vi 0)) (nn (W_ret (then_r ?_))))))); obtain rfl := Option.some.inj hr; exact done2 (Or.inl rfl) Try.results30 rfl rfl ⟨_, _, rfl, rfl, ju, _, _, rfl, Vint, Vint⟩
 ·have hr := ite_f jz hr
  refine W_skip (then_n (sr (asg (rv (Value.slice none 0 0)) (nn (W_seq (sr (mv (rv w0) (ln Try.underlying24 (rv w0) (h0.mono (j3.le.trans (jb.le.trans js.le))) (mv (rv (vi 0)) (nn ?_))))))))))
  obtain ⟨k0, k1, k2⟩ := bind_some hr
  refine W_cut (fun f w => ∃ (s : St) (k3 : Value) (k4 : List Int), s.w = w ∧ Ext s0 s ∧ Le jq s ∧ k4 = k0 ∧ f 9 = k3 ∧ Bld s s0.w.heap.size 3 k3 k4) ?_ ?_
  ·refine W_block (W_loop (fun m f w => ∃ (s : St) (k5 : Value) (k6 : List Int) (k7 : Int) (k8 : List Bool), s.w = w ∧ Ext s0 s ∧ Le jq s ∧ check_Blame_l1 N a0 a1 m k6 k7 k8 = some k0 ∧ f 9 = k5 ∧ Bld s s0.w.heap.size 3 k5 k6 ∧ f 32 = vi k7 ∧ f 0 = w0 ∧ f 1 = vi (a1) ∧ f 6 = Value.slice (some ⟨je, 0, none⟩) j7.length j7.length ∧ f 31 = vi ((a0.length : Int)) ∧ Arr s je 4 j7.length k8 ∧ (∀ k, (own k5) k → ¬ (fun k => k = je) k)) N ⟨jq, (Value.slice none 0 0), ([]), 0, j7, rfl, ju, (Le.refl _), k1, rfl, Bld.nil, rfl, rfl, rfl, rfl, rfl, (jg).ext js, (fun k h => absurd h own_nil)⟩ ?_)
   rintro k9 ka kb ⟨kc, k5, k6, k7, k8, rfl, kd, ke, hr, kf, kg, kh, ki, kj, kk, kl, km, kn⟩
   cases k9 with
   | zero => exact absurd hr (by simp [check_Blame_l1])
   | succ k9 =>
    rw [check_Blame_l1.eq_2] at hr
    refine sr (ls kh kl (nn (W_seq ?_)))
    refine W_cond _ (rv (vb (decide (k7 < (a0.length : Int))))) (fun ko => ?_) (fun ko => ?_)
    ·have hr := ite_t ko hr
     refine W_skip (then_n (W_seq (W_block (sr (mv kh (asg (rv (vi k7)) (nn (sr (mv kk (mv (rv (vi k7)) ?_))))))))))
     obtain ⟨kp, kq, hr⟩ := bind_some hr
     refine L_indexA (sz := 1) Try.underlying27 ty4.inf (rv (Value.slice (some ⟨je, 0, none⟩) j7.length j7.length)) (rv (vi k7)) (idx_some kq).1 (by have := (idx_some kq).2.1; have := (km).1; omega) (by decide) (L_storeA (xs := k8) ty4 (rv (Value.pointer (some ⟨je, (k7).toNat * 1, none⟩))) (rv (vb false)) Vbool (km) kq (fun kr ks kt => ?_))
     have ku := Tch.trans kd ks (fun k hk => Or.inr (by subst hk; exact (Nat.le_trans j6.size jf)))
     refine nn (W_seq (sr (mv ki (mv kk (mv kj ?_)))))
     obtain ⟨kv, kw, hr⟩ := bind_some hr
     obtain ⟨kx, ky, kz, g0⟩ := (kt).freeze
     refine L_calls_fz cal13 (args3 (rv w0) (rv (Value.slice (some ⟨je, 0, none⟩) j7.length j7.length)) (rv (vi a1))) ky kz (fun k hk => by have jn : k = je := hk; rw [jn]; exact (kt).g) (check_Repair_ok N _ _ _ (h0.mono (j3.le.trans (jb.le.trans (js.le.trans (ke.trans (ks.le.trans kz.le)))))) _ _ g0 a1 kv kw) (by decide) (fun g1 g2 g3 g4 g5 g6 => ?_)
     have g7 := Tch.ext ku g5
     obtain ⟨g8, g9, rfl, ga, gb⟩ := g6
     obtain rfl := gb.int
     refine mv (rv (Value.tuple #[g8, vi (kv.2)])) (xt (rv (Value.tuple #[g8, vi (kv.2)])) (k := 0) rfl (xt (rv (Value.tuple #[g8, vi (kv.2)])) (k := 1) rfl (asg (rv g8) (asg (rv (vi (kv.2))) (nn (sr (mv (rv (vi (kv.2))) (el (rv (vi (kv.2))) (rv (vi 0)) (nn ?_)))))))))
     refine W_cond _ (rv (vb (decide (kv.2 = 0)))) (fun gc => ?_) (fun gc => ?_)
     ·have hr := ite_t gc hr
      refine W_region (mv kf (mv (rv (vi k7)) (L_buildSlice (xs := ([k7] : List Int)) Try.underlying40 tyz3 (Parts_cons rfl (rv (vi k7)) Parts_nil) (Vs.cons Vint Vs.nil) rfl (by decide) (by decide) (fun gd gg gh gi gj => ?_))))
      have gk := Tch.ext g7 gh
      obtain ⟨gl, hr⟩ := chk_some hr
      refine L_append (xs := k6) (B := s0.w.heap.size) Try.underlying40 tyz3 (rv k5) (rv gg) ((((kg).tch ks kn).ext g5).ext gh) (gk.size) gj gl.1 gl.2 (by decide) (fun gm gn go => ?_)
      have gp := go.tchM ((((kg).tch ks kn).ext g5).ext gh) gk (Nat.le_refl _)
      have gq : ∀ k, (fun k => k = je) k → ¬ own gm k := fun k gr gs => by rcases go.own k gs with gu | gu; exact (fun k hk hm => kn k hm hk) k gr gu; have gv := (((kt).ext g5).ext gh).lt; subst gr; omega
      refine asg (rv gm) (nn (W_region (mv kk (mv (rv (vi k7)) ?_))))
      obtain ⟨gw, gx, hr⟩ := bind_some hr
      refine L_indexA (sz := 1) Try.underlying27 ty4.inf (rv (Value.slice (some ⟨je, 0, none⟩) j7.length j7.length)) (rv (vi k7)) (idx_some gx).1 (by have := (idx_some gx).2.1; have := ((((kt).ext g5).ext gh).tch go.tch ((fun k hk hm => kn k hm hk) je rfl)).1; omega) (by decide) (L_storeA (xs := (k8.set (k7).toNat false)) ty4 (rv (Value.pointer (some ⟨je, (k7).toNat * 1, none⟩))) (rv (vb true)) Vbool ((((kt).ext g5).ext gh).tch go.tch ((fun k hk hm => kn k hm hk) je rfl)) gx (fun gy gz u0 => ?_))
      have u1 := Tch.trans gp gz (fun k hk => Or.inr (by subst hk; exact (Nat.le_trans j6.size jf)))
      refine L_nil (block_n (then_n (W_region ?_)))
      obtain ⟨u2, hr⟩ := chk_some hr
      exact ad kh (rv (vi 1)) u2 (mv (rv (vi (k7 + 1))) (nn ⟨k9, Nat.lt_succ_self _, ⟨gy, gm, (k6 ++ ([k7] : List Int)), (k7 + 1), ((k8.set (k7).toNat false).set (k7).toNat true), rfl, u1, (ke.trans (ks.le.trans (g5.le.trans (gh.le.trans (go.tch.le.trans gz.le))))), hr, rfl, (go.bld).tch gz (fun k hk hm => gq k hm hk), rfl, ki, kj, kk, kl, u0, (fun k hk hm => gq k hm hk)⟩⟩))
     ·have hr := ite_f gc hr; refine W_skip (then_n (W_region (mv kk (mv (rv (vi k7)) ?_)))); obtain ⟨gd, gg, hr⟩ := bind_some hr; refine L_indexA (sz := 1) Try.underlying27 ty4.inf (rv (Value.slice (some ⟨je, 0, none⟩) j7.length j7.length)) (rv (vi k7)) (idx_some gg).1 (by have := (idx_some gg).2.1; have := ((kt).ext g5).1; omega) (by decide) (L_storeA (xs := (k8.set (k7).toNat false)) ty4 (rv (Value.pointer (some ⟨je, (k7).toNat * 1, none⟩))) (rv (vb true)) Vbool ((kt).ext g5) gg (fun gh gi gj => ?_)); have gk := Tch.trans g7 gi (fun k hk => Or.inr (by subst hk; exact (Nat.le_trans j6.size jf))); refine L_nil (block_n (then_n (W_region ?_))); obtain ⟨gl, hr⟩ := chk_some hr; exact ad kh (rv (vi 1)) gl (mv (rv (vi (k7 + 1))) (nn ⟨k9, Nat.lt_succ_self _, ⟨gh, k5, k6, (k7 + 1), ((k8.set (k7).toNat false).set (k7).toNat true), rfl, gk, (ke.trans (ks.le.trans (g5.le.trans gi.le))), hr, kf, (((kg).tch ks kn).ext g5).tch gi kn, rfl, ki, kj, kk, kl, gj, kn⟩⟩))
    ·have hr := ite_f ko hr; refine W_exit (then_x (then_x (block_here ?_))); exact then_n ⟨kc, k5, k6, rfl, kd, ke, Option.some.inj hr, kf, kg⟩
  ·rintro k5 k6 ⟨k7, k3, k4, rfl, k8, k9, k1, ka, kb⟩
   subst k1
   have hr := k2
   try dsimp only at hr
   refine then_n (W_seq (sr (mv ka ?_)))
   have kc := (kb).toV
   refine ln Try.underlying40 (rv k3) kc (ne (rv (vi ((k4.length : Int)))) (rv (vi 1)) (nn ?_))
   refine W_cond _ (rv (vb (!decide ((k4.length : Int) = 1)))) (fun kd => ?_) (fun kd => ?_)
   ·have hr := ite_t kd hr; refine sr (asg (rv (vi 0)) (asg (rv (vi 20)) (nn (W_ret (then_r ?_))))); obtain rfl := Option.some.inj hr; exact done2 (Or.inl rfl) Try.results30 rfl rfl ⟨_, _, rfl, rfl, k8, _, _, rfl, Vint, Vint⟩
   ·have hr := ite_f kd hr; refine W_skip (then_n (sr (mv ka ?_))); have ke := (kb).toV; obtain ⟨kf, kg, hr⟩ := bind_some hr; refine ix Try.underlying40 ty3.inf (rv k3) ke (rv (vi 0)) kg (fun kh ki => li ty3 (rv kh) ki (asg (rv (vi kf)) (asg (rv (vi 0)) (nn (W_ret ?_))))); obtain rfl := Option.some.inj hr; exact done2 (Or.inl rfl) Try.results30 rfl rfl ⟨_, _, rfl, rfl, k8, _, _, rfl, Vint, Vint⟩

theorem check_Parity_ok (N : Nat) (s0 : St) (w0 : Value) (a0 : List (List U8)) (h0 : V s0 w0 a0) (a1 : Int) (r : (List (List U8)) × Int) (hr : check_Parity N a0 a1 = some r) :
    Calls Try.prog 31 #[w0, .int .i64 a1] s0.w (Ret s0 fun v s => ∃ a b, v = .tuple #[a, b] ∧ V s a r.1 ∧ V s b r.2) := by
 unfold check_Parity at hr
 have j0 := Ext.refl s0
 refine Calls_of (n := 48) (args := [w0, .int .i64 a1]) Try.func31 rfl rfl (by simp) (sr (asg (rv (Value.slice none 0 0)) (asg (rv (vi 0)) (nn (W_seq ?_)))))
 obtain ⟨j1, j2, j3⟩ := bind_some hr
 refine W_seq_cut (fun f w => ∃ (s : St) (j4 : Bool), s.w = w ∧ Ext s0 s ∧ Le s0 s ∧ j4 = j1 ∧ f 25 = vb j4 ∧ f 0 = w0 ∧ f 1 = vi (a1)) ?_ ?_
 ·have hr := j2
  refine W_region (mv (rv w0) (ln Try.underlying24 (rv w0) h0 (ls (rv (vi ((a0.length : Int)))) (rv (vi 1)) (mv (rv (vb (decide ((a0.length : Int) < 1)))) ?_))))
  rcases tf (decide ((a0.length : Int) < 1)) with j5 | j5
  ·have hr := ite_t j5 hr; exact gf 13 (rv (vb (decide ((a0.length : Int) < 1)))) j5 (gf 13 (rv (vb (decide ((a0.length : Int) < 1)))) j5 (gf 13 (rv (vb (decide ((a0.length : Int) < 1)))) j5 (pt (rv (vb (decide ((a0.length : Int) < 1)))) j5 (rv (vb true)) (mv (rv (vb true)) (gf 18 (rv (vb true)) rfl (gf 18 (rv (vb true)) rfl (pt (rv (vb true)) rfl (rv (vb true)) (mv (rv (vb true)) (gf 22 (rv (vb true)) rfl (gf 22 (rv (vb true)) rfl (pt (rv (vb true)) rfl (rv (vb true)) (nn ⟨s0, true, rfl, j0, (Le.refl _), Option.some.inj hr, rfl, rfl, rfl⟩))))))))))))
  ·have hr := ite_f j5 hr
   refine gt 13 (rv (vb (decide ((a0.length : Int) < 1)))) j5 (mv (rv w0) (gt 13 (rv (vb (decide ((a0.length : Int) < 1)))) j5 (ln Try.underlying24 (rv w0) h0 (gt 13 (rv (vb (decide ((a0.length : Int) < 1)))) j5 (L_gtr (rv (vi ((a0.length : Int)))) (rv (vi 16)) (by decide) (pf (rv (vb (decide ((a0.length : Int) < 1)))) j5 (rv (vb (decide (16 < (a0.length : Int))))) (mv (rv (vb (decide (16 < (a0.length : Int))))) ?_)))))))
   rcases tf (decide (16 < (a0.length : Int))) with j6 | j6
   ·have hr := ite_t j6 hr; exact gf 18 (rv (vb (decide (16 < (a0.length : Int))))) j6 (gf 18 (rv (vb (decide (16 < (a0.length : Int))))) j6 (pt (rv (vb (decide (16 < (a0.length : Int))))) j6 (rv (vb true)) (mv (rv (vb true)) (gf 22 (rv (vb true)) rfl (gf 22 (rv (vb true)) rfl (pt (rv (vb true)) rfl (rv (vb true)) (nn ⟨s0, true, rfl, j0, (Le.refl _), Option.some.inj hr, rfl, rfl, rfl⟩)))))))
   ·have hr := ite_f j6 hr
    refine gt 18 (rv (vb (decide (16 < (a0.length : Int))))) j6 (mv (rv (vi a1)) (gt 18 (rv (vb (decide (16 < (a0.length : Int))))) j6 (ls (rv (vi a1)) (rv (vi 0)) (pf (rv (vb (decide (16 < (a0.length : Int))))) j6 (rv (vb (decide (a1 < 0)))) (mv (rv (vb (decide (a1 < 0)))) ?_)))))
    rcases tf (decide (a1 < 0)) with j7 | j7
    ·have hr := ite_t j7 hr; exact gf 22 (rv (vb (decide (a1 < 0)))) j7 (gf 22 (rv (vb (decide (a1 < 0)))) j7 (pt (rv (vb (decide (a1 < 0)))) j7 (rv (vb true)) (nn ⟨s0, true, rfl, j0, (Le.refl _), Option.some.inj hr, rfl, rfl, rfl⟩)))
    ·have hr := ite_f j7 hr; exact gt 22 (rv (vb (decide (a1 < 0)))) j7 (mv (rv (vi a1)) (gt 22 (rv (vb (decide (a1 < 0)))) j7 (L_gtr (rv (vi a1)) (rv (vi 16)) (by decide) (pf (rv (vb (decide (a1 < 0)))) j7 (rv (vb (decide (16 < a1)))) (nn ⟨s0, (decide (16 < a1)), rfl, j0, (Le.refl _), Option.some.inj hr, rfl, rfl, rfl⟩)))))
 ·rintro j5 j6 ⟨j7, j4, rfl, j8, j9, j2, ja, jb, jc⟩
  subst j2
  have hr := j3
  try dsimp only at hr
  refine W_cond _ ja (fun jd => ?_) (fun jd => ?_)
  ·have hr := ite_t jd hr; refine sr (asg (rv (Value.slice none 0 0)) (asg (rv (vi 3)) (nn (W_ret (then_r ?_))))); obtain rfl := Option.some.inj hr; exact done2 (Or.inl rfl) Try.results31 rfl rfl ⟨_, _, rfl, rfl, j8, _, _, rfl, Vnil, Vint⟩
  ·have hr := ite_f jd hr
   refine W_skip (then_n (W_seq (sr (mv jb ?_))))
   obtain ⟨je, jf, hr⟩ := bind_some hr
   refine L_calls cal36 (args1 (rv w0)) (check_sized_ok N _ _ _ (h0.mono j9) je jf) (by decide) (fun jg jh ji jj => ?_)
   have jk := Tch.ext j8 ji
   obtain rfl := jj.int
   refine asg (rv (vi je)) (nn (sr (mv (rv (vi je)) (ne (rv (vi je)) (rv (vi 0)) (nn ?_)))))
   refine W_cond _ (rv (vb (!decide (je = 0)))) (fun jl => ?_) (fun jl => ?_)
   ·have hr := ite_t jl hr; refine sr (mv (rv (vi je)) (asg (rv (Value.slice none 0 0)) (asg (rv (vi je)) (nn (W_ret (then_r ?_)))))); obtain rfl := Option.some.inj hr; exact done2 (Or.inl rfl) Try.results31 rfl rfl ⟨_, _, rfl, rfl, jk, _, _, rfl, Vnil, Vint⟩
   ·have hr := ite_f jl hr
    refine W_skip (then_n (sr ?_))
    obtain ⟨jm, jn, hr⟩ := bind_some hr
    refine L_calls cal37 (args0) (check_newField_ok N _  jm jn) (by decide) (fun jo jp jq jr => ?_)
    have js := Tch.ext jk jq
    refine asg (rv jo) (nn (sr (asg (rv (Value.slice none 0 0)) (nn (W_seq (sr (mv jc (mv (rv (vi 0)) (nn ?_)))))))))
    obtain ⟨jt, ju, jv⟩ := bind_some hr
    refine W_cut (fun f w => ∃ (s : St) (jw : Value) (jx : List (List U8)), s.w = w ∧ Ext s0 s ∧ Le jp s ∧ jx = jt ∧ f 8 = jw ∧ Bld s s0.w.heap.size 22 jw jx) ?_ ?_
    ·refine W_block (W_loop (fun m f w => ∃ (s : St) (jy : Value) (jz : List (List U8)) (k0 : Int), s.w = w ∧ Ext s0 s ∧ Le jp s ∧ check_Parity_l1 N a0 a1 jm m jz k0 = some jt ∧ f 8 = jy ∧ Bld s s0.w.heap.size 22 jy jz ∧ f 33 = vi k0 ∧ f 0 = w0 ∧ f 7 = jo ∧ f 32 = vi (a1)) N ⟨jp, (Value.slice none 0 0), ([]), 0, rfl, js, (Le.refl _), ju, rfl, Bld.nil, rfl, jb, rfl, rfl⟩ ?_)
     rintro k1 k2 k3 ⟨k4, jy, jz, k0, rfl, k5, k6, hr, k7, k8, k9, ka, kb, kc⟩
     cases k1 with
     | zero => exact absurd hr (by simp [check_Parity_l1])
     | succ k1 =>
      rw [check_Parity_l1.eq_2] at hr
      refine sr (ls k9 kc (nn (W_seq ?_)))
      refine W_cond _ (rv (vb (decide (k0 < a1)))) (fun kd => ?_) (fun kd => ?_)
      ·have hr := ite_t kd hr; refine W_skip (then_n (W_seq (W_block (sr (mv k9 (asg (rv (vi k0)) (nn (W_region (mv k7 (mv kb (mv ka (ln Try.underlying24 (rv w0) (h0.mono (j9.trans (ji.le.trans (jq.le.trans k6)))) (mv (rv (vi k0)) ?_))))))))))))); obtain ⟨ke, hr⟩ := chk_some hr; refine ad (rv (vi ((a0.length : Int)))) (rv (vi k0)) ke (mv ka ?_); obtain ⟨kf, kg, hr⟩ := bind_some hr; refine L_calls cal39 (args3 (rv jo) (rv (vi ((a0.length : Int) + k0))) (rv w0)) (check_field_block_ok N _ _ _ (jr.mono k6) ((a0.length : Int) + k0) _ _ (h0.mono (j9.trans (ji.le.trans (jq.le.trans k6)))) kf kg) (by decide) (fun kh ki kj kk => ?_); have kl := Tch.ext k5 kj; refine L_buildSlice (xs := ([kf] : List (List U8))) Try.underlying24 tyz22 (Parts_cons rfl (rv kh) Parts_nil) (Vs.cons kk Vs.nil) rfl (by decide) (by decide) (fun km kn ko kp kq => ?_); have kr := Tch.ext kl ko; obtain ⟨ks, hr⟩ := chk_some hr; refine L_append (xs := jz) (B := s0.w.heap.size) Try.underlying24 tyz22 (rv jy) (rv kn) (((k8).ext kj).ext ko) (kr.size) kq ks.1 ks.2 (by decide) (fun kt ku kv => ?_); have kw := kv.tchM (((k8).ext kj).ext ko) kr (Nat.le_refl _); refine asg (rv kt) (L_nil (block_n (then_n (W_region ?_)))); obtain ⟨kx, hr⟩ := chk_some hr; exact ad k9 (rv (vi 1)) kx (mv (rv (vi (k0 + 1))) (nn ⟨k1, Nat.lt_succ_self _, ⟨ku, kt, (jz ++ ([kf] : List (List U8))), (k0 + 1), rfl, kw, (k6.trans (kj.le.trans (ko.le.trans kv.tch.le))), hr, rfl, kv.bld, rfl, ka, kb, kc⟩⟩))
      ·have hr := ite_f kd hr; refine W_exit (then_x (then_x (block_here ?_))); exact then_n ⟨k4, jy, jz, rfl, k5, k6, Option.some.inj hr, k7, k8⟩
    ·rintro jy jz ⟨k0, jw, jx, rfl, k1, k2, ju, k3, k4⟩; subst ju; have hr := jv; (try dsimp only at hr); refine then_n (sr (mv k3 ?_)); have k5 := (k4).toV; refine asg (rv jw) (asg (rv (vi 0)) (nn (W_ret ?_))); obtain rfl := Option.some.inj hr; exact done2 (Or.inl rfl) Try.results31 rfl rfl ⟨_, _, rfl, rfl, k1, _, _, rfl, k5, Vint⟩

end Go.Arm
