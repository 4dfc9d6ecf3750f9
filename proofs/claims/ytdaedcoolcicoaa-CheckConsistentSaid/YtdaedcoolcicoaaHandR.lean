/- A part of the proof. -/
import Derived.Test.YtdaedcoolcicoaaHandO
namespace Go.Arm
open Go Go.RowKit Go.Proofs

theorem cal19 : Callee Try.prog 19 := ⟨_, Try.func19, by kernel_rfl, by kernel_rfl⟩
theorem cal20 : Callee Try.prog 20 := ⟨_, Try.func20, by kernel_rfl, by kernel_rfl⟩
theorem cal23 : Callee Try.prog 23 := ⟨_, Try.func23, by kernel_rfl, by kernel_rfl⟩

noncomputable section
def law14_CheckConsistent_l1 (N : Nat) (a0 : List (List Item)) : Nat → Int → Option (Sum Unit Bool)
  | 0, _ => none
  | m + 1, x18 =>
  if decide (x18 < (a0.length : Int)) then
  (Option.bind (idx a0 x18) fun y29 =>
  if decide (20 < (y29.length : Int)) then
  (Option.bind (law14_works N ) fun y36 =>
  some (.inr (y36)))
  else
  (chk (inR (x18 + 1)) <|
  law14_CheckConsistent_l1 N a0 m (x18 + 1)))
  else
  (some (Sum.inl ()))
def law14_CheckConsistent_l2 (N : Nat) (a0 : List (List Item)) (a1 : List Int) (a2 : List U8) (y52 : (List Int) × (List Int) × Int) : Nat → Int → (List Int) → (List Int) → Option (Sum ((List Int) × (List Int)) Bool)
  | 0, _, _, _ => none
  | m + 1, x135, x133, x134 =>
  if decide (x135 < (a0.length : Int)) then
  (Option.bind (Option.bind (idx y52.1 x135) fun y154 =>
  if decide (y154 < 0) then
  (some (true))
  else
  (Option.bind (idx y52.1 x135) fun y308 =>
  Option.bind (idx a1 x135) fun y312 =>
  some (decide (y312 < y308)))) fun o151 => match o151 with
  | x150 =>
  (if x150 then
  (some (.inr (false)))
  else
  (if decide (0 < (a2.length : Int)) then
  (chk ((a2.length : Int) ≠ (0 : Int)) <|
  Option.bind (idx a2 (Int.tmod x135 (a2.length : Int))) fun y486 =>
  chk (inR (y486.n)) <|
  Option.bind (idx a1 x135) fun y491 =>
  chk (3 ≠ (0 : Int)) <|
  chk (inR (y491 - (Int.tmod y486.n 3))) <|
  Option.bind (idx a1 x135) fun y497 =>
  chk (inR (y497 + 1)) <|
  chk ((y497 + 1) ≠ (0 : Int)) <|
  Option.bind (idx x133 x135) fun _ =>
  Option.bind (idx x134 x135) fun _ =>
  chk (inR (x135 + 1)) <|
  law14_CheckConsistent_l2 N a0 a1 a2 y52 m (x135 + 1) (x133.set (x135).toNat (max 0 (y491 - (Int.tmod y486.n 3)))) (x134.set (x135).toNat (Int.tmod y486.n (y497 + 1))))
  else
  (Option.bind (idx a1 x135) fun y754 =>
  chk (3 ≠ (0 : Int)) <|
  chk (inR (y754 - (Int.tmod 0 3))) <|
  Option.bind (idx a1 x135) fun y760 =>
  chk (inR (y760 + 1)) <|
  chk ((y760 + 1) ≠ (0 : Int)) <|
  Option.bind (idx x133 x135) fun _ =>
  Option.bind (idx x134 x135) fun _ =>
  chk (inR (x135 + 1)) <|
  law14_CheckConsistent_l2 N a0 a1 a2 y52 m (x135 + 1) (x133.set (x135).toNat (max 0 (y754 - (Int.tmod 0 3)))) (x134.set (x135).toNat (Int.tmod 0 (y760 + 1)))))))
  else
  (some (Sum.inl (x133, x134)))
def law14_CheckConsistent_l3 (N : Nat) (a0 : List (List Item)) (y52 : (List Int) × (List Int) × Int) (x137 : List Int) (y1039 : (List Int) × (List Int) × Int) : Nat → Int → Option (Sum Unit Bool)
  | 0, _ => none
  | m + 1, x1062 =>
  if decide (x1062 < (a0.length : Int)) then
  (Option.bind (Option.bind (idx y1039.1 x1062) fun y1077 =>
  Option.bind (idx y52.1 x1062) fun y1081 =>
  if decide (y1081 < y1077) then
  (some (true))
  else
  (Option.bind (law14_consistent N a0 x137) fun y1310 =>
  if y1310 then
  (Option.bind (idx x137 x1062) fun y1318 =>
  Option.bind (idx y52.1 x1062) fun y1322 =>
  some (decide (y1322 < y1318)))
  else
  (some (false)))) fun o1074 => match o1074 with
  | x1073 =>
  (if x1073 then
  (some (.inr (false)))
  else
  (chk (inR (x1062 + 1)) <|
  law14_CheckConsistent_l3 N a0 y52 x137 y1039 m (x1062 + 1))))
  else
  (some (Sum.inl ()))
def law14_CheckConsistent_l5 (N : Nat) (a0 : List (List Item)) (y52 : (List Int) × (List Int) × Int) (x1815 : Int) (y1827 : List Item) : Nat → Int → Int → Option (Sum Int Bool)
  | 0, _, _ => none
  | m + 1, x1833, x1834 =>
  if decide (x1834 < (y1827.length : Int)) then
  (Option.bind (idx y1827 x1834) fun y1846 =>
  Option.bind (if !decide (y1846.Kind = 2) then
  (some (true))
  else
  (Option.bind (idx y52.1 x1815) fun y1869 =>
  Option.bind (law14_past N y1827 x1834 y1869) fun y1873 =>
  some (!y1873))) fun o1863 => match o1863 with
  | x1862 =>
  (if x1862 then
  (chk (inR (x1834 + 1)) <|
  law14_CheckConsistent_l5 N a0 y52 x1815 y1827 m x1833 (x1834 + 1))
  else
  (Option.bind (law14_at N a0 3 y1846.No) fun y1888 =>
  Option.bind (if y1888.2.2 then
  (Option.bind (idx a0 y1888.1) fun y1906 =>
  Option.bind (idx y52.1 y1888.1) fun y1912 =>
  Option.bind (law14_past N y1906 y1888.2.1 y1912) fun y1916 =>
  some (y1916))
  else
  (some (false))) fun o1902 => match o1902 with
  | x1901 =>
  (if x1901 then
  (chk (inR (x1834 + 1)) <|
  law14_CheckConsistent_l5 N a0 y52 x1815 y1827 m x1833 (x1834 + 1))
  else
  (Option.bind (if decide ((y52.2.1.length : Int) ≤ x1833) then
  (some (true))
  else
  (Option.bind (law14_among N y52.2.1 y1846.No) fun y2203 =>
  some (!y2203))) fun o2197 => match o2197 with
  | x2196 =>
  (if x2196 then
  (some (.inr (false)))
  else
  (chk (inR (x1833 + 1)) <|
  chk (inR (x1834 + 1)) <|
  law14_CheckConsistent_l5 N a0 y52 x1815 y1827 m (x1833 + 1) (x1834 + 1))))))))
  else
  (some (Sum.inl x1833))
def law14_CheckConsistent_l4 (N : Nat) (a0 : List (List Item)) (y52 : (List Int) × (List Int) × Int) : Nat → Int → Int → Option (Sum Int Bool)
  | 0, _, _ => none
  | m + 1, x1814, x1815 =>
  if decide (x1815 < (a0.length : Int)) then
  (Option.bind (idx a0 x1815) fun y1827 =>
  Option.bind (law14_CheckConsistent_l5 N a0 y52 x1815 y1827 N x1814 0) fun o1836 => match o1836 with
  | .inl x1835 =>
  (chk (inR (x1815 + 1)) <|
  law14_CheckConsistent_l4 N a0 y52 m x1835 (x1815 + 1))
  | .inr r => some (.inr r))
  else
  (some (Sum.inl x1814))
def law14_CheckConsistent_l6 (N : Nat) (y52 : (List Int) × (List Int) × Int) : Nat → Int → Option (Sum Unit Bool)
  | 0, _ => none
  | m + 1, x2240 =>
  if decide (x2240 < (y52.2.1.length : Int)) then
  (chk (inR (x2240 - 1)) <|
  Option.bind (idx y52.2.1 (x2240 - 1)) fun y2252 =>
  Option.bind (idx y52.2.1 x2240) fun y2256 =>
  if decide (y2256 ≤ y2252) then
  (some (.inr (false)))
  else
  (chk (inR (x2240 + 1)) <|
  law14_CheckConsistent_l6 N y52 m (x2240 + 1)))
  else
  (some (Sum.inl ()))
def law14_CheckConsistent (N : Nat) (a0 : List (List Item)) (a1 : List Int) (a2 : List U8) : Option (Bool) :=
  Option.bind (if decide (5 < (a0.length : Int)) then
  (some (true))
  else
  (some (!decide ((a1.length : Int) = (a0.length : Int))))) fun o2 => match o2 with
  | x1 =>
  (if x1 then
  (Option.bind (law14_works N ) fun y11 =>
  some (y11))
  else
  (Option.bind (law14_CheckConsistent_l1 N a0 N 0) fun o19 => match o19 with
  | .inl () =>
  (Option.bind (check_Line N a0 a1) fun y52 =>
  if !decide (y52.2.2 = 0) then
  (Option.bind (law14_works N ) fun y66 =>
  some (y66))
  else
  (Option.bind (if !decide ((y52.1.length : Int) = (a0.length : Int)) then
  (some (true))
  else
  (Option.bind (law14_consistent N a0 y52.1) fun y78 =>
  some (!y78))) fun o74 => match o74 with
  | x73 =>
  (if x73 then
  (some (false))
  else
  (chk ((0 : Int) ≤ (a0.length : Int) ∧ (8 : Int) * (a0.length : Int) ≤ 281474976710656 ∧ (a0.length : Int) ≤ 9223372036854775807) <|
  chk ((0 : Int) ≤ (a0.length : Int) ∧ (8 : Int) * (a0.length : Int) ≤ 281474976710656 ∧ (a0.length : Int) ≤ 9223372036854775807) <|
  Option.bind (law14_CheckConsistent_l2 N a0 a1 a2 y52 N 0 (List.replicate ((a0.length : Int)).toNat (0 : Int)) (List.replicate ((a0.length : Int)).toNat (0 : Int))) fun o138 => match o138 with
  | .inl (x136, x137) =>
  (Option.bind (check_Line N a0 x136) fun y1039 =>
  Option.bind (if !decide (y1039.2.2 = 0) then
  (some (true))
  else
  (some (!decide ((y1039.1.length : Int) = (a0.length : Int))))) fun o1053 => match o1053 with
  | x1052 =>
  (if x1052 then
  (some (false))
  else
  (Option.bind (law14_CheckConsistent_l3 N a0 y52 x137 y1039 N 0) fun o1063 => match o1063 with
  | .inl () =>
  (Option.bind (law14_CheckConsistent_l4 N a0 y52 N 0 0) fun o1817 => match o1817 with
  | .inl x1816 =>
  (Option.bind (law14_CheckConsistent_l6 N y52 N 1) fun o2241 => match o2241 with
  | .inl () =>
  (if decide (x1816 = (y52.2.1.length : Int)) then
  (Option.bind (law14_works N ) fun y2366 =>
  some (y2366))
  else
  (some (false)))
  | .inr r => some r)
  | .inr r => some r)
  | .inr r => some r)))
  | .inr r => some r))))
  | .inr r => some r))

end
set_option maxHeartbeats 2805000 in
theorem law14_CheckConsistent_ok (N : Nat) (s0 : St) (w0 : Value) (a0 : List (List Item)) (h0 : V s0 w0 a0) (w1 : Value) (a1 : List Int) (h1 : V s0 w1 a1) (w2 : Value) (a2 : List U8) (h2 : V s0 w2 a2) (r : Bool) (hr : law14_CheckConsistent N a0 a1 a2 = some r) :
    Calls Try.prog 5 #[w0, w1, w2] s0.w (Ret s0 fun v s => V s v r) := by
 unfold law14_CheckConsistent at hr
 have j0 := Ext.refl s0
 refine Calls_of (n := 264) (args := [w0, w1, w2]) Try.func5 rfl rfl (by simp) (sr (asg (rv (vb false)) (nn (W_seq ?_))))
 obtain ⟨j1, j2, j3⟩ := bind_some hr
 refine W_seq_cut (fun f w => ∃ (s : St) (j4 : Bool), s.w = w ∧ Ext s0 s ∧ Le s0 s ∧ j4 = j1 ∧ f 37 = vb j4 ∧ f 0 = w0 ∧ f 1 = w1 ∧ f 2 = w2) ?_ ?_
 ·have hr := j2
  refine W_region (mv (rv w0) (ln Try.underlying49 (rv w0) h0 (L_gtr (rv (vi ((a0.length : Int)))) (rv (vi 5)) (by decide) (mv (rv (vb (decide (5 < (a0.length : Int))))) ?_))))
  rcases tf (decide (5 < (a0.length : Int))) with j5 | j5
  ·have hr := ite_t j5 hr; exact gf 31 (rv (vb (decide (5 < (a0.length : Int))))) j5 (gf 31 (rv (vb (decide (5 < (a0.length : Int))))) j5 (gf 31 (rv (vb (decide (5 < (a0.length : Int))))) j5 (gf 31 (rv (vb (decide (5 < (a0.length : Int))))) j5 (gf 31 (rv (vb (decide (5 < (a0.length : Int))))) j5 (pt (rv (vb (decide (5 < (a0.length : Int))))) j5 (rv (vb true)) (nn ⟨s0, true, rfl, j0, (Le.refl _), Option.some.inj hr, rfl, rfl, rfl, rfl⟩))))))
  ·have hr := ite_f j5 hr; exact gt 31 (rv (vb (decide (5 < (a0.length : Int))))) j5 (mv (rv w1) (gt 31 (rv (vb (decide (5 < (a0.length : Int))))) j5 (ln Try.underlying40 (rv w1) h1 (gt 31 (rv (vb (decide (5 < (a0.length : Int))))) j5 (mv (rv w0) (gt 31 (rv (vb (decide (5 < (a0.length : Int))))) j5 (ln Try.underlying49 (rv w0) h0 (gt 31 (rv (vb (decide (5 < (a0.length : Int))))) j5 (ne (rv (vi ((a1.length : Int)))) (rv (vi ((a0.length : Int)))) (pf (rv (vb (decide (5 < (a0.length : Int))))) j5 (rv (vb (!decide ((a1.length : Int) = (a0.length : Int))))) (nn ⟨s0, (!decide ((a1.length : Int) = (a0.length : Int))), rfl, j0, (Le.refl _), Option.some.inj hr, rfl, rfl, rfl, rfl⟩)))))))))))
 ·rintro j5 j6 ⟨j7, j4, rfl, j8, j9, j2, ja, jb, jc, jd⟩
  subst j2
  have hr := j3
  try dsimp only at hr
  refine W_cond _ ja (fun je => ?_) (fun je => ?_)
  ·have hr := ite_t je hr; refine sr ?_; obtain ⟨jf, jg, hr⟩ := bind_some hr; refine L_calls cal9 (args0) (law14_works_ok N _  jf jg) (by decide) (fun jh ji jj jk => ?_); have jl := Tch.ext j8 jj; obtain rfl := jk.bool; refine asg (rv (vb jf)) (nn (W_ret (then_r ?_))); obtain rfl := Option.some.inj hr; exact done1 (Or.inl rfl) Try.results5 rfl ⟨_, _, rfl, rfl, jl, Vbool⟩
  ·have hr := ite_f je hr
   refine W_skip (then_n (W_seq (sr (mv jb (ln Try.underlying49 (rv w0) (h0.mono j9) (mv (rv (vi 0)) (nn ?_)))))))
   obtain ⟨jf, jg, jh⟩ := bind_some hr
   refine W_cut (fun f w => ∃ (s : St), s.w = w ∧ Ext s0 s ∧ Le j7 s ∧ Sum.inl () = jf ∧ f 0 = w0 ∧ f 1 = w1 ∧ f 2 = w2) ?_ ?_
   ·refine W_block (W_loop (fun m f w => ∃ (s : St) (ji : Int), s.w = w ∧ Ext s0 s ∧ Le j7 s ∧ law14_CheckConsistent_l1 N a0 m ji = some jf ∧ f 41 = vi ji ∧ f 0 = w0 ∧ f 1 = w1 ∧ f 2 = w2 ∧ f 39 = w0 ∧ f 40 = vi ((a0.length : Int))) N ⟨j7, 0, rfl, j8, (Le.refl _), jg, rfl, jb, jc, jd, rfl, rfl⟩ ?_)
    rintro jj jk jl ⟨jm, ji, rfl, jn, jo, hr, jp, jq, jr, js, jt, ju⟩
    cases jj with
    | zero => exact absurd hr (by simp [law14_CheckConsistent_l1])
    | succ jj =>
     rw [law14_CheckConsistent_l1.eq_2] at hr
     refine sr (ls jp ju (nn (W_seq ?_)))
     refine W_cond _ (rv (vb (decide (ji < (a0.length : Int))))) (fun jv => ?_) (fun jv => ?_)
     ·have hr := ite_t jv hr
      refine W_skip (then_n (W_seq (W_block (sr ?_))))
      obtain ⟨jw, jx, hr⟩ := bind_some hr
      refine ix Try.underlying49 ty50.inf jt (h0.mono (j9.trans jo)) jp jx (fun jy jz => ld ty50 (rv jy) jz (fun k0 k1 => asg (rv k0) (nn (sr (mv (rv k0) (ln Try.underlying50 (rv k0) k1 (L_gtr (rv (vi ((jw.length : Int)))) (rv (vi 20)) (by decide) (nn ?_))))))))
      refine W_cond _ (rv (vb (decide (20 < (jw.length : Int))))) (fun k2 => ?_) (fun k2 => ?_)
      ·have hr := ite_t k2 hr; refine sr ?_; obtain ⟨k3, k4, hr⟩ := bind_some hr; refine L_calls cal9 (args0) (law14_works_ok N _  k3 k4) (by decide) (fun k5 k6 k7 k8 => ?_); have k9 := Tch.ext jn k7; obtain rfl := k8.bool; refine asg (rv (vb k3)) (nn (W_ret (block_r (then_r (then_r (block_r ?_)))))); obtain rfl := Option.some.inj hr; have hr := jh; (try dsimp only at hr); refine then_r (then_r ?_); obtain rfl := Option.some.inj hr; exact done1 (Or.inl rfl) Try.results5 rfl ⟨_, _, rfl, rfl, k9, Vbool⟩
      ·have hr := ite_f k2 hr; refine W_skip (block_n (then_n (W_region ?_))); obtain ⟨k3, hr⟩ := chk_some hr; exact ad jp (rv (vi 1)) k3 (mv (rv (vi (ji + 1))) (nn ⟨jj, Nat.lt_succ_self _, ⟨jm, (ji + 1), rfl, jn, jo, hr, rfl, jq, jr, js, jt, ju⟩⟩))
     ·have hr := ite_f jv hr; refine W_exit (then_x (then_x (block_here ?_))); exact then_n ⟨jm, rfl, jn, jo, Option.some.inj hr, jq, jr, js⟩
   ·rintro ji jj ⟨jk, rfl, jl, jm, jg, jn, jo, jp⟩
    subst jg
    have hr := jh
    try dsimp only at hr
    refine then_n (sr (mv jn (mv jo ?_)))
    obtain ⟨jq, jr, hr⟩ := bind_some hr
    refine L_calls cal19 (args2 (rv w0) (rv w1)) (check_Line_ok N _ _ _ (h0.mono (j9.trans jm)) _ _ (h1.mono (j9.trans jm)) jq jr) (by decide) (fun js jt ju jv => ?_)
    have jw := Tch.ext jl ju
    obtain ⟨jx, jy, jz, rfl, k0, k1, k2⟩ := jv
    obtain rfl := k2.int
    refine mv (rv (Value.tuple #[jx, jy, vi (jq.2.2)])) (xt (rv (Value.tuple #[jx, jy, vi (jq.2.2)])) (k := 0) rfl (xt (rv (Value.tuple #[jx, jy, vi (jq.2.2)])) (k := 1) rfl (xt (rv (Value.tuple #[jx, jy, vi (jq.2.2)])) (k := 2) rfl (asg (rv jx) (asg (rv jy) (asg (rv (vi (jq.2.2))) (nn (W_seq (sr (mv (rv (vi (jq.2.2))) (ne (rv (vi (jq.2.2))) (rv (vi 0)) (nn ?_))))))))))))
    refine W_cond _ (rv (vb (!decide (jq.2.2 = 0)))) (fun k3 => ?_) (fun k3 => ?_)
    ·have hr := ite_t k3 hr; refine sr ?_; obtain ⟨k4, k5, hr⟩ := bind_some hr; refine L_calls cal9 (args0) (law14_works_ok N _  k4 k5) (by decide) (fun k6 k7 k8 k9 => ?_); have ka := Tch.ext jw k8; obtain rfl := k9.bool; refine asg (rv (vb k4)) (nn (W_ret (then_r ?_))); obtain rfl := Option.some.inj hr; exact done1 (Or.inl rfl) Try.results5 rfl ⟨_, _, rfl, rfl, ka, Vbool⟩
    ·have hr := ite_f k3 hr
     refine W_skip (then_n (W_seq ?_))
     obtain ⟨k4, k5, k6⟩ := bind_some hr
     refine W_seq_cut (fun f w => ∃ (s : St) (k7 : Bool), s.w = w ∧ Ext s0 s ∧ Le jt s ∧ k7 = k4 ∧ f 70 = vb k7 ∧ f 0 = w0 ∧ f 1 = w1 ∧ f 2 = w2 ∧ f 9 = jx ∧ f 10 = jy) ?_ ?_
     ·have hr := k5
      refine W_region (mv (rv jx) (ln Try.underlying40 (rv jx) k0 (mv jn (ln Try.underlying49 (rv w0) (h0.mono (j9.trans (jm.trans ju.le))) (ne (rv (vi ((jq.1.length : Int)))) (rv (vi ((a0.length : Int)))) (mv (rv (vb (!decide ((jq.1.length : Int) = (a0.length : Int))))) ?_))))))
      rcases tf (!decide ((jq.1.length : Int) = (a0.length : Int))) with k8 | k8
      ·have hr := ite_t k8 hr; exact gf 65 (rv (vb (!decide ((jq.1.length : Int) = (a0.length : Int))))) k8 (gf 65 (rv (vb (!decide ((jq.1.length : Int) = (a0.length : Int))))) k8 (gf 65 (rv (vb (!decide ((jq.1.length : Int) = (a0.length : Int))))) k8 (gf 65 (rv (vb (!decide ((jq.1.length : Int) = (a0.length : Int))))) k8 (pt (rv (vb (!decide ((jq.1.length : Int) = (a0.length : Int))))) k8 (rv (vb true)) (nn ⟨jt, true, rfl, jw, (Le.refl _), Option.some.inj hr, rfl, jn, jo, jp, rfl, rfl⟩)))))
      ·have hr := ite_f k8 hr; refine gt 65 (rv (vb (!decide ((jq.1.length : Int) = (a0.length : Int))))) k8 (mv jn (gt 65 (rv (vb (!decide ((jq.1.length : Int) = (a0.length : Int))))) k8 (mv (rv jx) (gt 65 (rv (vb (!decide ((jq.1.length : Int) = (a0.length : Int))))) k8 ?_)))); obtain ⟨k9, ka, hr⟩ := bind_some hr; refine L_calls cal20 (args2 (rv w0) (rv jx)) (law14_consistent_ok N _ _ _ (h0.mono (j9.trans (jm.trans ju.le))) _ _ k0 k9 ka) (by decide) (fun kb kc kd ke => ?_); have kf := Tch.ext jw kd; obtain rfl := ke.bool; exact gt 65 (rv (vb (!decide ((jq.1.length : Int) = (a0.length : Int))))) k8 (L_not (rv (vb k9)) (by decide) (pf (rv (vb (!decide ((jq.1.length : Int) = (a0.length : Int))))) k8 (rv (vb (!k9))) (nn ⟨kc, (!k9), rfl, kf, kd.le, Option.some.inj hr, rfl, jn, jo, jp, rfl, rfl⟩)))
     ·rintro k8 k9 ⟨ka, k7, rfl, kb, kc, k5, kd, ke, kf, kg, kh, ki⟩
      subst k5
      have hr := k6
      try dsimp only at hr
      refine W_cond _ kd (fun kj => ?_) (fun kj => ?_)
      ·have hr := ite_t kj hr; refine sr (asg (rv (vb false)) (nn (W_ret (then_r ?_)))); obtain rfl := Option.some.inj hr; exact done1 (Or.inl rfl) Try.results5 rfl ⟨_, _, rfl, rfl, kb, Vbool⟩
      ·have hr := ite_f kj hr
       refine W_skip (then_n (W_seq ?_))
       obtain ⟨kk, hr⟩ := chk_some hr
       obtain ⟨kl, hr⟩ := chk_some hr
       refine W_cut (fun f w => ∃ (s : St) (km : Nat) (kn : Nat), s.w = w ∧ Ext s0 s ∧ Le ka s ∧ f 12 = Value.slice (some ⟨km, 0, none⟩) (((a0.length : Int)).toNat) (((a0.length : Int)).toNat) ∧ s0.w.heap.size ≤ km ∧ Arr s km 3 (((a0.length : Int)).toNat) ((List.replicate ((a0.length : Int)).toNat (0 : Int)) : List Int) ∧ f 13 = Value.slice (some ⟨kn, 0, none⟩) (((a0.length : Int)).toNat) (((a0.length : Int)).toNat) ∧ s0.w.heap.size ≤ kn ∧ Arr s kn 3 (((a0.length : Int)).toNat) ((List.replicate ((a0.length : Int)).toNat (0 : Int)) : List Int) ∧ km ≠ kn ∧ f 0 = w0 ∧ f 1 = w1 ∧ f 2 = w2 ∧ f 9 = jx ∧ f 10 = jy) ?_ ?_
       ·refine W_any (s := ka) mixed ?_
        obtain ⟨ko, kp⟩ : ∃ x : St, x = ka.drew := ⟨_, rfl⟩
        rw [← kp]
        have kq : Ext ka ko := kp ▸ Ext.drew ka
        have kr := Tch.ext kb kq
        refine AN_two 0 3 (by kernel_rfl) rfl rfl rfl rfl ?_ ?_
        ·refine mv ke ?_
         refine L_nil ⟨rfl, ?_⟩
         refine AN_two 1 3 (by kernel_rfl) rfl rfl rfl rfl ?_ ?_
         ·refine ln Try.underlying49 (rv w0) (h0.mono (j9.trans (jm.trans (ju.le.trans (kc.trans kq.le))))) ?_
          refine L_nil ⟨rfl, ?_⟩
          refine AN_two 2 3 (by kernel_rfl) rfl rfl rfl rfl ?_ ?_
          ·refine L_makeArr (x0 := (0 : Int)) Try.underlying40 tyz3 (rv (vi ((a0.length : Int)))) kk.1 kk.2.1 kk.2.2 (fun _ => rfl) (by decide) (fun ks kt ku kv kw => ?_)
           have kx := Tch.ext kr ku
           refine L_nil ⟨rfl, ?_⟩
           refine AN_two 3 6 (by kernel_rfl) rfl rfl rfl rfl ?_ ?_
           ·refine mv ke ?_
            refine L_nil ⟨rfl, ?_⟩
            refine AN_two 4 6 (by kernel_rfl) rfl rfl rfl rfl ?_ ?_
            ·refine ln Try.underlying49 (rv w0) (h0.mono (j9.trans (jm.trans (ju.le.trans (kc.trans (kq.le.trans ku.le)))))) ?_
             refine L_nil ⟨rfl, ?_⟩
             refine AN_two 5 6 (by kernel_rfl) rfl rfl rfl rfl ?_ ?_
             ·refine L_makeArr (x0 := (0 : Int)) Try.underlying40 tyz3 (rv (vi ((a0.length : Int)))) kl.1 kl.2.1 kl.2.2 (fun _ => rfl) (by decide) (fun ky kz g0 g1 g2 => ?_)
              have g3 := Tch.ext kx g0
              have g4 : ∀ k, (fun k => k = kt) k → ¬ (fun k => k = kz) k := fun k h1 h2 => by have g5 := (fun k (hk : k = kt) => lt_at hk (kw).lt) k h1; have g6 := g1; subst h2; omega
              refine L_nil ⟨rfl, ?_⟩
              refine AN_one 6 (by kernel_rfl) rfl rfl (asg (rv (Value.slice (some ⟨kt, 0, none⟩) ((a0.length : Int)).toNat ((a0.length : Int)).toNat)) ?_)
              refine L_nil ⟨rfl, ?_⟩
              refine AN_one 7 (by kernel_rfl) rfl rfl (asg (rv (Value.slice (some ⟨kz, 0, none⟩) ((a0.length : Int)).toNat ((a0.length : Int)).toNat)) ?_)
              refine L_nil ⟨rfl, ?_⟩
              exact AN_done (by kernel_rfl) ⟨rfl, ky, kt, kz, rfl, g3, (kq.le.trans (ku.le.trans g0.le)), rfl, (Nat.le_trans kr.size kv), (kw).ext g0, rfl, (Nat.le_trans kx.size g1), g2, (fun e => (fun k hk => g4 k hk) _ rfl e), ke, kf, kg, kh, ki⟩
             ·refine asg (rv (Value.slice (some ⟨kt, 0, none⟩) ((a0.length : Int)).toNat ((a0.length : Int)).toNat)) ?_
              refine L_nil ⟨rfl, ?_⟩
              refine AN_one 5 (by kernel_rfl) rfl rfl (L_makeArr (x0 := (0 : Int)) Try.underlying40 tyz3 (rv (vi ((a0.length : Int)))) kl.1 kl.2.1 kl.2.2 (fun _ => rfl) (by decide) (fun ky kz g0 g1 g2 => ?_))
              have g3 := Tch.ext kx g0
              have g4 : ∀ k, (fun k => k = kt) k → ¬ (fun k => k = kz) k := fun k h1 h2 => by have g5 := (fun k (hk : k = kt) => lt_at hk (kw).lt) k h1; have g6 := g1; subst h2; omega
              refine L_nil ⟨rfl, ?_⟩
              refine AN_one 7 (by kernel_rfl) rfl rfl (asg (rv (Value.slice (some ⟨kz, 0, none⟩) ((a0.length : Int)).toNat ((a0.length : Int)).toNat)) ?_)
              refine L_nil ⟨rfl, ?_⟩
              exact AN_done (by kernel_rfl) ⟨rfl, ky, kt, kz, rfl, g3, (kq.le.trans (ku.le.trans g0.le)), rfl, (Nat.le_trans kr.size kv), (kw).ext g0, rfl, (Nat.le_trans kx.size g1), g2, (fun e => (fun k hk => g4 k hk) _ rfl e), ke, kf, kg, kh, ki⟩
            ·refine asg (rv (Value.slice (some ⟨kt, 0, none⟩) ((a0.length : Int)).toNat ((a0.length : Int)).toNat)) ?_
             refine L_nil ⟨rfl, ?_⟩
             refine AN_one 4 (by kernel_rfl) rfl rfl (ln Try.underlying49 (rv w0) (h0.mono (j9.trans (jm.trans (ju.le.trans (kc.trans (kq.le.trans ku.le)))))) ?_)
             refine L_nil ⟨rfl, ?_⟩
             refine AN_one 5 (by kernel_rfl) rfl rfl (L_makeArr (x0 := (0 : Int)) Try.underlying40 tyz3 (rv (vi ((a0.length : Int)))) kl.1 kl.2.1 kl.2.2 (fun _ => rfl) (by decide) (fun ky kz g0 g1 g2 => ?_))
             have g3 := Tch.ext kx g0
             have g4 : ∀ k, (fun k => k = kt) k → ¬ (fun k => k = kz) k := fun k h1 h2 => by have g5 := (fun k (hk : k = kt) => lt_at hk (kw).lt) k h1; have g6 := g1; subst h2; omega
             refine L_nil ⟨rfl, ?_⟩
             refine AN_one 7 (by kernel_rfl) rfl rfl (asg (rv (Value.slice (some ⟨kz, 0, none⟩) ((a0.length : Int)).toNat ((a0.length : Int)).toNat)) ?_)
             refine L_nil ⟨rfl, ?_⟩
             exact AN_done (by kernel_rfl) ⟨rfl, ky, kt, kz, rfl, g3, (kq.le.trans (ku.le.trans g0.le)), rfl, (Nat.le_trans kr.size kv), (kw).ext g0, rfl, (Nat.le_trans kx.size g1), g2, (fun e => (fun k hk => g4 k hk) _ rfl e), ke, kf, kg, kh, ki⟩
           ·refine asg (rv (Value.slice (some ⟨kt, 0, none⟩) ((a0.length : Int)).toNat ((a0.length : Int)).toNat)) ?_
            refine L_nil ⟨rfl, ?_⟩
            refine AN_one 3 (by kernel_rfl) rfl rfl (mv ke ?_)
            refine L_nil ⟨rfl, ?_⟩
            refine AN_one 4 (by kernel_rfl) rfl rfl (ln Try.underlying49 (rv w0) (h0.mono (j9.trans (jm.trans (ju.le.trans (kc.trans (kq.le.trans ku.le)))))) ?_)
            refine L_nil ⟨rfl, ?_⟩
            refine AN_one 5 (by kernel_rfl) rfl rfl (L_makeArr (x0 := (0 : Int)) Try.underlying40 tyz3 (rv (vi ((a0.length : Int)))) kl.1 kl.2.1 kl.2.2 (fun _ => rfl) (by decide) (fun ky kz g0 g1 g2 => ?_))
            have g3 := Tch.ext kx g0
            have g4 : ∀ k, (fun k => k = kt) k → ¬ (fun k => k = kz) k := fun k h1 h2 => by have g5 := (fun k (hk : k = kt) => lt_at hk (kw).lt) k h1; have g6 := g1; subst h2; omega
            refine L_nil ⟨rfl, ?_⟩
            refine AN_one 7 (by kernel_rfl) rfl rfl (asg (rv (Value.slice (some ⟨kz, 0, none⟩) ((a0.length : Int)).toNat ((a0.length : Int)).toNat)) ?_)
            refine L_nil ⟨rfl, ?_⟩
            exact AN_done (by kernel_rfl) ⟨rfl, ky, kt, kz, rfl, g3, (kq.le.trans (ku.le.trans g0.le)), rfl, (Nat.le_trans kr.size kv), (kw).ext g0, rfl, (Nat.le_trans kx.size g1), g2, (fun e => (fun k hk => g4 k hk) _ rfl e), ke, kf, kg, kh, ki⟩
          ·refine mv ke ?_
           refine L_nil ⟨rfl, ?_⟩
           refine AN_two 2 4 (by kernel_rfl) rfl rfl rfl rfl ?_ ?_
           ·refine L_makeArr (x0 := (0 : Int)) Try.underlying40 tyz3 (rv (vi ((a0.length : Int)))) kk.1 kk.2.1 kk.2.2 (fun _ => rfl) (by decide) (fun ks kt ku kv kw => ?_)
            have kx := Tch.ext kr ku
            refine L_nil ⟨rfl, ?_⟩
            refine AN_two 4 6 (by kernel_rfl) rfl rfl rfl rfl ?_ ?_
            ·refine ln Try.underlying49 (rv w0) (h0.mono (j9.trans (jm.trans (ju.le.trans (kc.trans (kq.le.trans ku.le)))))) ?_
             refine L_nil ⟨rfl, ?_⟩
             refine AN_two 5 6 (by kernel_rfl) rfl rfl rfl rfl ?_ ?_
             ·refine L_makeArr (x0 := (0 : Int)) Try.underlying40 tyz3 (rv (vi ((a0.length : Int)))) kl.1 kl.2.1 kl.2.2 (fun _ => rfl) (by decide) (fun ky kz g0 g1 g2 => ?_)
              have g3 := Tch.ext kx g0
              have g4 : ∀ k, (fun k => k = kt) k → ¬ (fun k => k = kz) k := fun k h1 h2 => by have g5 := (fun k (hk : k = kt) => lt_at hk (kw).lt) k h1; have g6 := g1; subst h2; omega
              refine L_nil ⟨rfl, ?_⟩
              refine AN_one 6 (by kernel_rfl) rfl rfl (asg (rv (Value.slice (some ⟨kt, 0, none⟩) ((a0.length : Int)).toNat ((a0.length : Int)).toNat)) ?_)
              refine L_nil ⟨rfl, ?_⟩
              refine AN_one 7 (by kernel_rfl) rfl rfl (asg (rv (Value.slice (some ⟨kz, 0, none⟩) ((a0.length : Int)).toNat ((a0.length : Int)).toNat)) ?_)
              refine L_nil ⟨rfl, ?_⟩
              exact AN_done (by kernel_rfl) ⟨rfl, ky, kt, kz, rfl, g3, (kq.le.trans (ku.le.trans g0.le)), rfl, (Nat.le_trans kr.size kv), (kw).ext g0, rfl, (Nat.le_trans kx.size g1), g2, (fun e => (fun k hk => g4 k hk) _ rfl e), ke, kf, kg, kh, ki⟩
             ·refine asg (rv (Value.slice (some ⟨kt, 0, none⟩) ((a0.length : Int)).toNat ((a0.length : Int)).toNat)) ?_
              refine L_nil ⟨rfl, ?_⟩
              refine AN_one 5 (by kernel_rfl) rfl rfl (L_makeArr (x0 := (0 : Int)) Try.underlying40 tyz3 (rv (vi ((a0.length : Int)))) kl.1 kl.2.1 kl.2.2 (fun _ => rfl) (by decide) (fun ky kz g0 g1 g2 => ?_))
              have g3 := Tch.ext kx g0
              have g4 : ∀ k, (fun k => k = kt) k → ¬ (fun k => k = kz) k := fun k h1 h2 => by have g5 := (fun k (hk : k = kt) => lt_at hk (kw).lt) k h1; have g6 := g1; subst h2; omega
              refine L_nil ⟨rfl, ?_⟩
              refine AN_one 7 (by kernel_rfl) rfl rfl (asg (rv (Value.slice (some ⟨kz, 0, none⟩) ((a0.length : Int)).toNat ((a0.length : Int)).toNat)) ?_)
              refine L_nil ⟨rfl, ?_⟩
              exact AN_done (by kernel_rfl) ⟨rfl, ky, kt, kz, rfl, g3, (kq.le.trans (ku.le.trans g0.le)), rfl, (Nat.le_trans kr.size kv), (kw).ext g0, rfl, (Nat.le_trans kx.size g1), g2, (fun e => (fun k hk => g4 k hk) _ rfl e), ke, kf, kg, kh, ki⟩
            ·refine asg (rv (Value.slice (some ⟨kt, 0, none⟩) ((a0.length : Int)).toNat ((a0.length : Int)).toNat)) ?_
             refine L_nil ⟨rfl, ?_⟩
             refine AN_one 4 (by kernel_rfl) rfl rfl (ln Try.underlying49 (rv w0) (h0.mono (j9.trans (jm.trans (ju.le.trans (kc.trans (kq.le.trans ku.le)))))) ?_)
             refine L_nil ⟨rfl, ?_⟩
             refine AN_one 5 (by kernel_rfl) rfl rfl (L_makeArr (x0 := (0 : Int)) Try.underlying40 tyz3 (rv (vi ((a0.length : Int)))) kl.1 kl.2.1 kl.2.2 (fun _ => rfl) (by decide) (fun ky kz g0 g1 g2 => ?_))
             have g3 := Tch.ext kx g0
             have g4 : ∀ k, (fun k => k = kt) k → ¬ (fun k => k = kz) k := fun k h1 h2 => by have g5 := (fun k (hk : k = kt) => lt_at hk (kw).lt) k h1; have g6 := g1; subst h2; omega
             refine L_nil ⟨rfl, ?_⟩
             refine AN_one 7 (by kernel_rfl) rfl rfl (asg (rv (Value.slice (some ⟨kz, 0, none⟩) ((a0.length : Int)).toNat ((a0.length : Int)).toNat)) ?_)
             refine L_nil ⟨rfl, ?_⟩
             exact AN_done (by kernel_rfl) ⟨rfl, ky, kt, kz, rfl, g3, (kq.le.trans (ku.le.trans g0.le)), rfl, (Nat.le_trans kr.size kv), (kw).ext g0, rfl, (Nat.le_trans kx.size g1), g2, (fun e => (fun k hk => g4 k hk) _ rfl e), ke, kf, kg, kh, ki⟩
           ·refine ln Try.underlying49 (rv w0) (h0.mono (j9.trans (jm.trans (ju.le.trans (kc.trans kq.le))))) ?_
            refine L_nil ⟨rfl, ?_⟩
            refine AN_two 2 5 (by kernel_rfl) rfl rfl rfl rfl ?_ ?_
            ·refine L_makeArr (x0 := (0 : Int)) Try.underlying40 tyz3 (rv (vi ((a0.length : Int)))) kk.1 kk.2.1 kk.2.2 (fun _ => rfl) (by decide) (fun ks kt ku kv kw => ?_)
             have kx := Tch.ext kr ku
             refine L_nil ⟨rfl, ?_⟩
             refine AN_two 5 6 (by kernel_rfl) rfl rfl rfl rfl ?_ ?_
             ·refine L_makeArr (x0 := (0 : Int)) Try.underlying40 tyz3 (rv (vi ((a0.length : Int)))) kl.1 kl.2.1 kl.2.2 (fun _ => rfl) (by decide) (fun ky kz g0 g1 g2 => ?_)
              have g3 := Tch.ext kx g0
              have g4 : ∀ k, (fun k => k = kt) k → ¬ (fun k => k = kz) k := fun k h1 h2 => by have g5 := (fun k (hk : k = kt) => lt_at hk (kw).lt) k h1; have g6 := g1; subst h2; omega
              refine L_nil ⟨rfl, ?_⟩
              refine AN_one 6 (by kernel_rfl) rfl rfl (asg (rv (Value.slice (some ⟨kt, 0, none⟩) ((a0.length : Int)).toNat ((a0.length : Int)).toNat)) ?_)
              refine L_nil ⟨rfl, ?_⟩
              refine AN_one 7 (by kernel_rfl) rfl rfl (asg (rv (Value.slice (some ⟨kz, 0, none⟩) ((a0.length : Int)).toNat ((a0.length : Int)).toNat)) ?_)
              refine L_nil ⟨rfl, ?_⟩
              exact AN_done (by kernel_rfl) ⟨rfl, ky, kt, kz, rfl, g3, (kq.le.trans (ku.le.trans g0.le)), rfl, (Nat.le_trans kr.size kv), (kw).ext g0, rfl, (Nat.le_trans kx.size g1), g2, (fun e => (fun k hk => g4 k hk) _ rfl e), ke, kf, kg, kh, ki⟩
             ·refine asg (rv (Value.slice (some ⟨kt, 0, none⟩) ((a0.length : Int)).toNat ((a0.length : Int)).toNat)) ?_
              refine L_nil ⟨rfl, ?_⟩
              refine AN_one 5 (by kernel_rfl) rfl rfl (L_makeArr (x0 := (0 : Int)) Try.underlying40 tyz3 (rv (vi ((a0.length : Int)))) kl.1 kl.2.1 kl.2.2 (fun _ => rfl) (by decide) (fun ky kz g0 g1 g2 => ?_))
              have g3 := Tch.ext kx g0
              have g4 : ∀ k, (fun k => k = kt) k → ¬ (fun k => k = kz) k := fun k h1 h2 => by have g5 := (fun k (hk : k = kt) => lt_at hk (kw).lt) k h1; have g6 := g1; subst h2; omega
              refine L_nil ⟨rfl, ?_⟩
              refine AN_one 7 (by kernel_rfl) rfl rfl (asg (rv (Value.slice (some ⟨kz, 0, none⟩) ((a0.length : Int)).toNat ((a0.length : Int)).toNat)) ?_)
              refine L_nil ⟨rfl, ?_⟩
              exact AN_done (by kernel_rfl) ⟨rfl, ky, kt, kz, rfl, g3, (kq.le.trans (ku.le.trans g0.le)), rfl, (Nat.le_trans kr.size kv), (kw).ext g0, rfl, (Nat.le_trans kx.size g1), g2, (fun e => (fun k hk => g4 k hk) _ rfl e), ke, kf, kg, kh, ki⟩
            ·refine L_makeArr (x0 := (0 : Int)) Try.underlying40 tyz3 (rv (vi ((a0.length : Int)))) kl.1 kl.2.1 kl.2.2 (fun _ => rfl) (by decide) (fun ks kt ku kv kw => ?_)
             have kx := Tch.ext kr ku
             refine L_nil ⟨rfl, ?_⟩
             refine AN_one 2 (by kernel_rfl) rfl rfl (L_makeArr (x0 := (0 : Int)) Try.underlying40 tyz3 (rv (vi ((a0.length : Int)))) kk.1 kk.2.1 kk.2.2 (fun _ => rfl) (by decide) (fun ky kz g0 g1 g2 => ?_))
             have g3 := Tch.ext kx g0
             have g4 : ∀ k, (fun k => k = kt) k → ¬ (fun k => k = kz) k := fun k h1 h2 => by have g5 := (fun k (hk : k = kt) => lt_at hk (kw).lt) k h1; have g6 := g1; subst h2; omega
             refine L_nil ⟨rfl, ?_⟩
             refine AN_one 6 (by kernel_rfl) rfl rfl (asg (rv (Value.slice (some ⟨kz, 0, none⟩) ((a0.length : Int)).toNat ((a0.length : Int)).toNat)) ?_)
             refine L_nil ⟨rfl, ?_⟩
             refine AN_one 7 (by kernel_rfl) rfl rfl (asg (rv (Value.slice (some ⟨kt, 0, none⟩) ((a0.length : Int)).toNat ((a0.length : Int)).toNat)) ?_)
             refine L_nil ⟨rfl, ?_⟩
             exact AN_done (by kernel_rfl) ⟨rfl, ky, kz, kt, rfl, g3, (kq.le.trans (ku.le.trans g0.le)), rfl, (Nat.le_trans kx.size g1), g2, rfl, (Nat.le_trans kr.size kv), (kw).ext g0, (fun e => (fun k hk hm => g4 k hm hk) _ rfl e), ke, kf, kg, kh, ki⟩
         ·refine mv ke ?_
          refine L_nil ⟨rfl, ?_⟩
          refine AN_two 1 4 (by kernel_rfl) rfl rfl rfl rfl ?_ ?_
          ·refine ln Try.underlying49 (rv w0) (h0.mono (j9.trans (jm.trans (ju.le.trans (kc.trans kq.le))))) ?_
           refine L_nil ⟨rfl, ?_⟩
           refine AN_two 2 4 (by kernel_rfl) rfl rfl rfl rfl ?_ ?_
           ·refine L_makeArr (x0 := (0 : Int)) Try.underlying40 tyz3 (rv (vi ((a0.length : Int)))) kk.1 kk.2.1 kk.2.2 (fun _ => rfl) (by decide) (fun ks kt ku kv kw => ?_)
            have kx := Tch.ext kr ku
            refine L_nil ⟨rfl, ?_⟩
            refine AN_two 4 6 (by kernel_rfl) rfl rfl rfl rfl ?_ ?_
            ·refine ln Try.underlying49 (rv w0) (h0.mono (j9.trans (jm.trans (ju.le.trans (kc.trans (kq.le.trans ku.le)))))) ?_
             refine L_nil ⟨rfl, ?_⟩
             refine AN_two 5 6 (by kernel_rfl) rfl rfl rfl rfl ?_ ?_
             ·refine L_makeArr (x0 := (0 : Int)) Try.underlying40 tyz3 (rv (vi ((a0.length : Int)))) kl.1 kl.2.1 kl.2.2 (fun _ => rfl) (by decide) (fun ky kz g0 g1 g2 => ?_)
              have g3 := Tch.ext kx g0
              have g4 : ∀ k, (fun k => k = kt) k → ¬ (fun k => k = kz) k := fun k h1 h2 => by have g5 := (fun k (hk : k = kt) => lt_at hk (kw).lt) k h1; have g6 := g1; subst h2; omega
              refine L_nil ⟨rfl, ?_⟩
              refine AN_one 6 (by kernel_rfl) rfl rfl (asg (rv (Value.slice (some ⟨kt, 0, none⟩) ((a0.length : Int)).toNat ((a0.length : Int)).toNat)) ?_)
              refine L_nil ⟨rfl, ?_⟩
              refine AN_one 7 (by kernel_rfl) rfl rfl (asg (rv (Value.slice (some ⟨kz, 0, none⟩) ((a0.length : Int)).toNat ((a0.length : Int)).toNat)) ?_)
              refine L_nil ⟨rfl, ?_⟩
              exact AN_done (by kernel_rfl) ⟨rfl, ky, kt, kz, rfl, g3, (kq.le.trans (ku.le.trans g0.le)), rfl, (Nat.le_trans kr.size kv), (kw).ext g0, rfl, (Nat.le_trans kx.size g1), g2, (fun e => (fun k hk => g4 k hk) _ rfl e), ke, kf, kg, kh, ki⟩
             ·refine asg (rv (Value.slice (some ⟨kt, 0, none⟩) ((a0.length : Int)).toNat ((a0.length : Int)).toNat)) ?_
              refine L_nil ⟨rfl, ?_⟩
              refine AN_one 5 (by kernel_rfl) rfl rfl (L_makeArr (x0 := (0 : Int)) Try.underlying40 tyz3 (rv (vi ((a0.length : Int)))) kl.1 kl.2.1 kl.2.2 (fun _ => rfl) (by decide) (fun ky kz g0 g1 g2 => ?_))
              have g3 := Tch.ext kx g0
              have g4 : ∀ k, (fun k => k = kt) k → ¬ (fun k => k = kz) k := fun k h1 h2 => by have g5 := (fun k (hk : k = kt) => lt_at hk (kw).lt) k h1; have g6 := g1; subst h2; omega
              refine L_nil ⟨rfl, ?_⟩
              refine AN_one 7 (by kernel_rfl) rfl rfl (asg (rv (Value.slice (some ⟨kz, 0, none⟩) ((a0.length : Int)).toNat ((a0.length : Int)).toNat)) ?_)
              refine L_nil ⟨rfl, ?_⟩
              exact AN_done (by kernel_rfl) ⟨rfl, ky, kt, kz, rfl, g3, (kq.le.trans (ku.le.trans g0.le)), rfl, (Nat.le_trans kr.size kv), (kw).ext g0, rfl, (Nat.le_trans kx.size g1), g2, (fun e => (fun k hk => g4 k hk) _ rfl e), ke, kf, kg, kh, ki⟩
            ·refine asg (rv (Value.slice (some ⟨kt, 0, none⟩) ((a0.length : Int)).toNat ((a0.length : Int)).toNat)) ?_
             refine L_nil ⟨rfl, ?_⟩
             refine AN_one 4 (by kernel_rfl) rfl rfl (ln Try.underlying49 (rv w0) (h0.mono (j9.trans (jm.trans (ju.le.trans (kc.trans (kq.le.trans ku.le)))))) ?_)
             refine L_nil ⟨rfl, ?_⟩
             refine AN_one 5 (by kernel_rfl) rfl rfl (L_makeArr (x0 := (0 : Int)) Try.underlying40 tyz3 (rv (vi ((a0.length : Int)))) kl.1 kl.2.1 kl.2.2 (fun _ => rfl) (by decide) (fun ky kz g0 g1 g2 => ?_))
             have g3 := Tch.ext kx g0
             have g4 : ∀ k, (fun k => k = kt) k → ¬ (fun k => k = kz) k := fun k h1 h2 => by have g5 := (fun k (hk : k = kt) => lt_at hk (kw).lt) k h1; have g6 := g1; subst h2; omega
             refine L_nil ⟨rfl, ?_⟩
             refine AN_one 7 (by kernel_rfl) rfl rfl (asg (rv (Value.slice (some ⟨kz, 0, none⟩) ((a0.length : Int)).toNat ((a0.length : Int)).toNat)) ?_)
             refine L_nil ⟨rfl, ?_⟩
             exact AN_done (by kernel_rfl) ⟨rfl, ky, kt, kz, rfl, g3, (kq.le.trans (ku.le.trans g0.le)), rfl, (Nat.le_trans kr.size kv), (kw).ext g0, rfl, (Nat.le_trans kx.size g1), g2, (fun e => (fun k hk => g4 k hk) _ rfl e), ke, kf, kg, kh, ki⟩
           ·refine ln Try.underlying49 (rv w0) (h0.mono (j9.trans (jm.trans (ju.le.trans (kc.trans kq.le))))) ?_
            refine L_nil ⟨rfl, ?_⟩
            refine AN_two 2 5 (by kernel_rfl) rfl rfl rfl rfl ?_ ?_
            ·refine L_makeArr (x0 := (0 : Int)) Try.underlying40 tyz3 (rv (vi ((a0.length : Int)))) kk.1 kk.2.1 kk.2.2 (fun _ => rfl) (by decide) (fun ks kt ku kv kw => ?_)
             have kx := Tch.ext kr ku
             refine L_nil ⟨rfl, ?_⟩
             refine AN_two 5 6 (by kernel_rfl) rfl rfl rfl rfl ?_ ?_
             ·refine L_makeArr (x0 := (0 : Int)) Try.underlying40 tyz3 (rv (vi ((a0.length : Int)))) kl.1 kl.2.1 kl.2.2 (fun _ => rfl) (by decide) (fun ky kz g0 g1 g2 => ?_)
              have g3 := Tch.ext kx g0
              have g4 : ∀ k, (fun k => k = kt) k → ¬ (fun k => k = kz) k := fun k h1 h2 => by have g5 := (fun k (hk : k = kt) => lt_at hk (kw).lt) k h1; have g6 := g1; subst h2; omega
              refine L_nil ⟨rfl, ?_⟩
              refine AN_one 6 (by kernel_rfl) rfl rfl (asg (rv (Value.slice (some ⟨kt, 0, none⟩) ((a0.length : Int)).toNat ((a0.length : Int)).toNat)) ?_)
              refine L_nil ⟨rfl, ?_⟩
              refine AN_one 7 (by kernel_rfl) rfl rfl (asg (rv (Value.slice (some ⟨kz, 0, none⟩) ((a0.length : Int)).toNat ((a0.length : Int)).toNat)) ?_)
              refine L_nil ⟨rfl, ?_⟩
              exact AN_done (by kernel_rfl) ⟨rfl, ky, kt, kz, rfl, g3, (kq.le.trans (ku.le.trans g0.le)), rfl, (Nat.le_trans kr.size kv), (kw).ext g0, rfl, (Nat.le_trans kx.size g1), g2, (fun e => (fun k hk => g4 k hk) _ rfl e), ke, kf, kg, kh, ki⟩
             ·refine asg (rv (Value.slice (some ⟨kt, 0, none⟩) ((a0.length : Int)).toNat ((a0.length : Int)).toNat)) ?_
              refine L_nil ⟨rfl, ?_⟩
              refine AN_one 5 (by kernel_rfl) rfl rfl (L_makeArr (x0 := (0 : Int)) Try.underlying40 tyz3 (rv (vi ((a0.length : Int)))) kl.1 kl.2.1 kl.2.2 (fun _ => rfl) (by decide) (fun ky kz g0 g1 g2 => ?_))
              have g3 := Tch.ext kx g0
              have g4 : ∀ k, (fun k => k = kt) k → ¬ (fun k => k = kz) k := fun k h1 h2 => by have g5 := (fun k (hk : k = kt) => lt_at hk (kw).lt) k h1; have g6 := g1; subst h2; omega
              refine L_nil ⟨rfl, ?_⟩
              refine AN_one 7 (by kernel_rfl) rfl rfl (asg (rv (Value.slice (some ⟨kz, 0, none⟩) ((a0.length : Int)).toNat ((a0.length : Int)).toNat)) ?_)
              refine L_nil ⟨rfl, ?_⟩
              exact AN_done (by kernel_rfl) ⟨rfl, ky, kt, kz, rfl, g3, (kq.le.trans (ku.le.trans g0.le)), rfl, (Nat.le_trans kr.size kv), (kw).ext g0, rfl, (Nat.le_trans kx.size g1), g2, (fun e => (fun k hk => g4 k hk) _ rfl e), ke, kf, kg, kh, ki⟩
            ·refine L_makeArr (x0 := (0 : Int)) Try.underlying40 tyz3 (rv (vi ((a0.length : Int)))) kl.1 kl.2.1 kl.2.2 (fun _ => rfl) (by decide) (fun ks kt ku kv kw => ?_)
             have kx := Tch.ext kr ku
             refine L_nil ⟨rfl, ?_⟩
             refine AN_one 2 (by kernel_rfl) rfl rfl (L_makeArr (x0 := (0 : Int)) Try.underlying40 tyz3 (rv (vi ((a0.length : Int)))) kk.1 kk.2.1 kk.2.2 (fun _ => rfl) (by decide) (fun ky kz g0 g1 g2 => ?_))
             have g3 := Tch.ext kx g0
             have g4 : ∀ k, (fun k => k = kt) k → ¬ (fun k => k = kz) k := fun k h1 h2 => by have g5 := (fun k (hk : k = kt) => lt_at hk (kw).lt) k h1; have g6 := g1; subst h2; omega
             refine L_nil ⟨rfl, ?_⟩
             refine AN_one 6 (by kernel_rfl) rfl rfl (asg (rv (Value.slice (some ⟨kz, 0, none⟩) ((a0.length : Int)).toNat ((a0.length : Int)).toNat)) ?_)
             refine L_nil ⟨rfl, ?_⟩
             refine AN_one 7 (by kernel_rfl) rfl rfl (asg (rv (Value.slice (some ⟨kt, 0, none⟩) ((a0.length : Int)).toNat ((a0.length : Int)).toNat)) ?_)
             refine L_nil ⟨rfl, ?_⟩
             exact AN_done (by kernel_rfl) ⟨rfl, ky, kz, kt, rfl, g3, (kq.le.trans (ku.le.trans g0.le)), rfl, (Nat.le_trans kx.size g1), g2, rfl, (Nat.le_trans kr.size kv), (kw).ext g0, (fun e => (fun k hk hm => g4 k hm hk) _ rfl e), ke, kf, kg, kh, ki⟩
          ·refine ln Try.underlying49 (rv w0) (h0.mono (j9.trans (jm.trans (ju.le.trans (kc.trans kq.le))))) ?_
           refine L_nil ⟨rfl, ?_⟩
           refine AN_two 1 5 (by kernel_rfl) rfl rfl rfl rfl ?_ ?_
           ·refine ln Try.underlying49 (rv w0) (h0.mono (j9.trans (jm.trans (ju.le.trans (kc.trans kq.le))))) ?_
            refine L_nil ⟨rfl, ?_⟩
            refine AN_two 2 5 (by kernel_rfl) rfl rfl rfl rfl ?_ ?_
            ·refine L_makeArr (x0 := (0 : Int)) Try.underlying40 tyz3 (rv (vi ((a0.length : Int)))) kk.1 kk.2.1 kk.2.2 (fun _ => rfl) (by decide) (fun ks kt ku kv kw => ?_)
             have kx := Tch.ext kr ku
             refine L_nil ⟨rfl, ?_⟩
             refine AN_two 5 6 (by kernel_rfl) rfl rfl rfl rfl ?_ ?_
             ·refine L_makeArr (x0 := (0 : Int)) Try.underlying40 tyz3 (rv (vi ((a0.length : Int)))) kl.1 kl.2.1 kl.2.2 (fun _ => rfl) (by decide) (fun ky kz g0 g1 g2 => ?_)
              have g3 := Tch.ext kx g0
              have g4 : ∀ k, (fun k => k = kt) k → ¬ (fun k => k = kz) k := fun k h1 h2 => by have g5 := (fun k (hk : k = kt) => lt_at hk (kw).lt) k h1; have g6 := g1; subst h2; omega
              refine L_nil ⟨rfl, ?_⟩
              refine AN_one 6 (by kernel_rfl) rfl rfl (asg (rv (Value.slice (some ⟨kt, 0, none⟩) ((a0.length : Int)).toNat ((a0.length : Int)).toNat)) ?_)
              refine L_nil ⟨rfl, ?_⟩
              refine AN_one 7 (by kernel_rfl) rfl rfl (asg (rv (Value.slice (some ⟨kz, 0, none⟩) ((a0.length : Int)).toNat ((a0.length : Int)).toNat)) ?_)
              refine L_nil ⟨rfl, ?_⟩
              exact AN_done (by kernel_rfl) ⟨rfl, ky, kt, kz, rfl, g3, (kq.le.trans (ku.le.trans g0.le)), rfl, (Nat.le_trans kr.size kv), (kw).ext g0, rfl, (Nat.le_trans kx.size g1), g2, (fun e => (fun k hk => g4 k hk) _ rfl e), ke, kf, kg, kh, ki⟩
             ·refine asg (rv (Value.slice (some ⟨kt, 0, none⟩) ((a0.length : Int)).toNat ((a0.length : Int)).toNat)) ?_
              refine L_nil ⟨rfl, ?_⟩
              refine AN_one 5 (by kernel_rfl) rfl rfl (L_makeArr (x0 := (0 : Int)) Try.underlying40 tyz3 (rv (vi ((a0.length : Int)))) kl.1 kl.2.1 kl.2.2 (fun _ => rfl) (by decide) (fun ky kz g0 g1 g2 => ?_))
              have g3 := Tch.ext kx g0
              have g4 : ∀ k, (fun k => k = kt) k → ¬ (fun k => k = kz) k := fun k h1 h2 => by have g5 := (fun k (hk : k = kt) => lt_at hk (kw).lt) k h1; have g6 := g1; subst h2; omega
              refine L_nil ⟨rfl, ?_⟩
              refine AN_one 7 (by kernel_rfl) rfl rfl (asg (rv (Value.slice (some ⟨kz, 0, none⟩) ((a0.length : Int)).toNat ((a0.length : Int)).toNat)) ?_)
              refine L_nil ⟨rfl, ?_⟩
              exact AN_done (by kernel_rfl) ⟨rfl, ky, kt, kz, rfl, g3, (kq.le.trans (ku.le.trans g0.le)), rfl, (Nat.le_trans kr.size kv), (kw).ext g0, rfl, (Nat.le_trans kx.size g1), g2, (fun e => (fun k hk => g4 k hk) _ rfl e), ke, kf, kg, kh, ki⟩
            ·refine L_makeArr (x0 := (0 : Int)) Try.underlying40 tyz3 (rv (vi ((a0.length : Int)))) kl.1 kl.2.1 kl.2.2 (fun _ => rfl) (by decide) (fun ks kt ku kv kw => ?_)
             have kx := Tch.ext kr ku
             refine L_nil ⟨rfl, ?_⟩
             refine AN_one 2 (by kernel_rfl) rfl rfl (L_makeArr (x0 := (0 : Int)) Try.underlying40 tyz3 (rv (vi ((a0.length : Int)))) kk.1 kk.2.1 kk.2.2 (fun _ => rfl) (by decide) (fun ky kz g0 g1 g2 => ?_))
             have g3 := Tch.ext kx g0
             have g4 : ∀ k, (fun k => k = kt) k → ¬ (fun k => k = kz) k := fun k h1 h2 => by have g5 := (fun k (hk : k = kt) => lt_at hk (kw).lt) k h1; have g6 := g1; subst h2; omega
             refine L_nil ⟨rfl, ?_⟩
             refine AN_one 6 (by kernel_rfl) rfl rfl (asg (rv (Value.slice (some ⟨kz, 0, none⟩) ((a0.length : Int)).toNat ((a0.length : Int)).toNat)) ?_)
             refine L_nil ⟨rfl, ?_⟩
             refine AN_one 7 (by kernel_rfl) rfl rfl (asg (rv (Value.slice (some ⟨kt, 0, none⟩) ((a0.length : Int)).toNat ((a0.length : Int)).toNat)) ?_)
             refine L_nil ⟨rfl, ?_⟩
             exact AN_done (by kernel_rfl) ⟨rfl, ky, kz, kt, rfl, g3, (kq.le.trans (ku.le.trans g0.le)), rfl, (Nat.le_trans kx.size g1), g2, rfl, (Nat.le_trans kr.size kv), (kw).ext g0, (fun e => (fun k hk hm => g4 k hm hk) _ rfl e), ke, kf, kg, kh, ki⟩
           ·refine L_makeArr (x0 := (0 : Int)) Try.underlying40 tyz3 (rv (vi ((a0.length : Int)))) kl.1 kl.2.1 kl.2.2 (fun _ => rfl) (by decide) (fun ks kt ku kv kw => ?_)
            have kx := Tch.ext kr ku
            refine L_nil ⟨rfl, ?_⟩
            refine AN_one 1 (by kernel_rfl) rfl rfl (ln Try.underlying49 (rv w0) (h0.mono (j9.trans (jm.trans (ju.le.trans (kc.trans (kq.le.trans ku.le)))))) ?_)
            refine L_nil ⟨rfl, ?_⟩
            refine AN_one 2 (by kernel_rfl) rfl rfl (L_makeArr (x0 := (0 : Int)) Try.underlying40 tyz3 (rv (vi ((a0.length : Int)))) kk.1 kk.2.1 kk.2.2 (fun _ => rfl) (by decide) (fun ky kz g0 g1 g2 => ?_))
            have g3 := Tch.ext kx g0
            have g4 : ∀ k, (fun k => k = kt) k → ¬ (fun k => k = kz) k := fun k h1 h2 => by have g5 := (fun k (hk : k = kt) => lt_at hk (kw).lt) k h1; have g6 := g1; subst h2; omega
            refine L_nil ⟨rfl, ?_⟩
            refine AN_one 6 (by kernel_rfl) rfl rfl (asg (rv (Value.slice (some ⟨kz, 0, none⟩) ((a0.length : Int)).toNat ((a0.length : Int)).toNat)) ?_)
            refine L_nil ⟨rfl, ?_⟩
            refine AN_one 7 (by kernel_rfl) rfl rfl (asg (rv (Value.slice (some ⟨kt, 0, none⟩) ((a0.length : Int)).toNat ((a0.length : Int)).toNat)) ?_)
            refine L_nil ⟨rfl, ?_⟩
            exact AN_done (by kernel_rfl) ⟨rfl, ky, kz, kt, rfl, g3, (kq.le.trans (ku.le.trans g0.le)), rfl, (Nat.le_trans kx.size g1), g2, rfl, (Nat.le_trans kr.size kv), (kw).ext g0, (fun e => (fun k hk hm => g4 k hm hk) _ rfl e), ke, kf, kg, kh, ki⟩
        ·refine mv ke ?_
         refine L_nil ⟨rfl, ?_⟩
         refine AN_two 0 4 (by kernel_rfl) rfl rfl rfl rfl ?_ ?_
         ·refine mv ke ?_
          refine L_nil ⟨rfl, ?_⟩
          refine AN_two 1 4 (by kernel_rfl) rfl rfl rfl rfl ?_ ?_
          ·refine ln Try.underlying49 (rv w0) (h0.mono (j9.trans (jm.trans (ju.le.trans (kc.trans kq.le))))) ?_
           refine L_nil ⟨rfl, ?_⟩
           refine AN_two 2 4 (by kernel_rfl) rfl rfl rfl rfl ?_ ?_
           ·refine L_makeArr (x0 := (0 : Int)) Try.underlying40 tyz3 (rv (vi ((a0.length : Int)))) kk.1 kk.2.1 kk.2.2 (fun _ => rfl) (by decide) (fun ks kt ku kv kw => ?_)
            have kx := Tch.ext kr ku
            refine L_nil ⟨rfl, ?_⟩
            refine AN_two 4 6 (by kernel_rfl) rfl rfl rfl rfl ?_ ?_
            ·refine ln Try.underlying49 (rv w0) (h0.mono (j9.trans (jm.trans (ju.le.trans (kc.trans (kq.le.trans ku.le)))))) ?_
             refine L_nil ⟨rfl, ?_⟩
             refine AN_two 5 6 (by kernel_rfl) rfl rfl rfl rfl ?_ ?_
             ·refine L_makeArr (x0 := (0 : Int)) Try.underlying40 tyz3 (rv (vi ((a0.length : Int)))) kl.1 kl.2.1 kl.2.2 (fun _ => rfl) (by decide) (fun ky kz g0 g1 g2 => ?_)
              have g3 := Tch.ext kx g0
              have g4 : ∀ k, (fun k => k = kt) k → ¬ (fun k => k = kz) k := fun k h1 h2 => by have g5 := (fun k (hk : k = kt) => lt_at hk (kw).lt) k h1; have g6 := g1; subst h2; omega
              refine L_nil ⟨rfl, ?_⟩
              refine AN_one 6 (by kernel_rfl) rfl rfl (asg (rv (Value.slice (some ⟨kt, 0, none⟩) ((a0.length : Int)).toNat ((a0.length : Int)).toNat)) ?_)
              refine L_nil ⟨rfl, ?_⟩
              refine AN_one 7 (by kernel_rfl) rfl rfl (asg (rv (Value.slice (some ⟨kz, 0, none⟩) ((a0.length : Int)).toNat ((a0.length : Int)).toNat)) ?_)
              refine L_nil ⟨rfl, ?_⟩
              exact AN_done (by kernel_rfl) ⟨rfl, ky, kt, kz, rfl, g3, (kq.le.trans (ku.le.trans g0.le)), rfl, (Nat.le_trans kr.size kv), (kw).ext g0, rfl, (Nat.le_trans kx.size g1), g2, (fun e => (fun k hk => g4 k hk) _ rfl e), ke, kf, kg, kh, ki⟩
             ·refine asg (rv (Value.slice (some ⟨kt, 0, none⟩) ((a0.length : Int)).toNat ((a0.length : Int)).toNat)) ?_
              refine L_nil ⟨rfl, ?_⟩
              refine AN_one 5 (by kernel_rfl) rfl rfl (L_makeArr (x0 := (0 : Int)) Try.underlying40 tyz3 (rv (vi ((a0.length : Int)))) kl.1 kl.2.1 kl.2.2 (fun _ => rfl) (by decide) (fun ky kz g0 g1 g2 => ?_))
              have g3 := Tch.ext kx g0
              have g4 : ∀ k, (fun k => k = kt) k → ¬ (fun k => k = kz) k := fun k h1 h2 => by have g5 := (fun k (hk : k = kt) => lt_at hk (kw).lt) k h1; have g6 := g1; subst h2; omega
              refine L_nil ⟨rfl, ?_⟩
              refine AN_one 7 (by kernel_rfl) rfl rfl (asg (rv (Value.slice (some ⟨kz, 0, none⟩) ((a0.length : Int)).toNat ((a0.length : Int)).toNat)) ?_)
              refine L_nil ⟨rfl, ?_⟩
              exact AN_done (by kernel_rfl) ⟨rfl, ky, kt, kz, rfl, g3, (kq.le.trans (ku.le.trans g0.le)), rfl, (Nat.le_trans kr.size kv), (kw).ext g0, rfl, (Nat.le_trans kx.size g1), g2, (fun e => (fun k hk => g4 k hk) _ rfl e), ke, kf, kg, kh, ki⟩
            ·refine asg (rv (Value.slice (some ⟨kt, 0, none⟩) ((a0.length : Int)).toNat ((a0.length : Int)).toNat)) ?_
             refine L_nil ⟨rfl, ?_⟩
             refine AN_one 4 (by kernel_rfl) rfl rfl (ln Try.underlying49 (rv w0) (h0.mono (j9.trans (jm.trans (ju.le.trans (kc.trans (kq.le.trans ku.le)))))) ?_)
             refine L_nil ⟨rfl, ?_⟩
             refine AN_one 5 (by kernel_rfl) rfl rfl (L_makeArr (x0 := (0 : Int)) Try.underlying40 tyz3 (rv (vi ((a0.length : Int)))) kl.1 kl.2.1 kl.2.2 (fun _ => rfl) (by decide) (fun ky kz g0 g1 g2 => ?_))
             have g3 := Tch.ext kx g0
             have g4 : ∀ k, (fun k => k = kt) k → ¬ (fun k => k = kz) k := fun k h1 h2 => by have g5 := (fun k (hk : k = kt) => lt_at hk (kw).lt) k h1; have g6 := g1; subst h2; omega
             refine L_nil ⟨rfl, ?_⟩
             refine AN_one 7 (by kernel_rfl) rfl rfl (asg (rv (Value.slice (some ⟨kz, 0, none⟩) ((a0.length : Int)).toNat ((a0.length : Int)).toNat)) ?_)
             refine L_nil ⟨rfl, ?_⟩
             exact AN_done (by kernel_rfl) ⟨rfl, ky, kt, kz, rfl, g3, (kq.le.trans (ku.le.trans g0.le)), rfl, (Nat.le_trans kr.size kv), (kw).ext g0, rfl, (Nat.le_trans kx.size g1), g2, (fun e => (fun k hk => g4 k hk) _ rfl e), ke, kf, kg, kh, ki⟩
           ·refine ln Try.underlying49 (rv w0) (h0.mono (j9.trans (jm.trans (ju.le.trans (kc.trans kq.le))))) ?_
            refine L_nil ⟨rfl, ?_⟩
            refine AN_two 2 5 (by kernel_rfl) rfl rfl rfl rfl ?_ ?_
            ·refine L_makeArr (x0 := (0 : Int)) Try.underlying40 tyz3 (rv (vi ((a0.length : Int)))) kk.1 kk.2.1 kk.2.2 (fun _ => rfl) (by decide) (fun ks kt ku kv kw => ?_)
             have kx := Tch.ext kr ku
             refine L_nil ⟨rfl, ?_⟩
             refine AN_two 5 6 (by kernel_rfl) rfl rfl rfl rfl ?_ ?_
             ·refine L_makeArr (x0 := (0 : Int)) Try.underlying40 tyz3 (rv (vi ((a0.length : Int)))) kl.1 kl.2.1 kl.2.2 (fun _ => rfl) (by decide) (fun ky kz g0 g1 g2 => ?_)
              have g3 := Tch.ext kx g0
              have g4 : ∀ k, (fun k => k = kt) k → ¬ (fun k => k = kz) k := fun k h1 h2 => by have g5 := (fun k (hk : k = kt) => lt_at hk (kw).lt) k h1; have g6 := g1; subst h2; omega
              refine L_nil ⟨rfl, ?_⟩
              refine AN_one 6 (by kernel_rfl) rfl rfl (asg (rv (Value.slice (some ⟨kt, 0, none⟩) ((a0.length : Int)).toNat ((a0.length : Int)).toNat)) ?_)
              refine L_nil ⟨rfl, ?_⟩
              refine AN_one 7 (by kernel_rfl) rfl rfl (asg (rv (Value.slice (some ⟨kz, 0, none⟩) ((a0.length : Int)).toNat ((a0.length : Int)).toNat)) ?_)
              refine L_nil ⟨rfl, ?_⟩
              exact AN_done (by kernel_rfl) ⟨rfl, ky, kt, kz, rfl, g3, (kq.le.trans (ku.le.trans g0.le)), rfl, (Nat.le_trans kr.size kv), (kw).ext g0, rfl, (Nat.le_trans kx.size g1), g2, (fun e => (fun k hk => g4 k hk) _ rfl e), ke, kf, kg, kh, ki⟩
             ·refine asg (rv (Value.slice (some ⟨kt, 0, none⟩) ((a0.length : Int)).toNat ((a0.length : Int)).toNat)) ?_
              refine L_nil ⟨rfl, ?_⟩
              refine AN_one 5 (by kernel_rfl) rfl rfl (L_makeArr (x0 := (0 : Int)) Try.underlying40 tyz3 (rv (vi ((a0.length : Int)))) kl.1 kl.2.1 kl.2.2 (fun _ => rfl) (by decide) (fun ky kz g0 g1 g2 => ?_))
              have g3 := Tch.ext kx g0
              have g4 : ∀ k, (fun k => k = kt) k → ¬ (fun k => k = kz) k := fun k h1 h2 => by have g5 := (fun k (hk : k = kt) => lt_at hk (kw).lt) k h1; have g6 := g1; subst h2; omega
              refine L_nil ⟨rfl, ?_⟩
              refine AN_one 7 (by kernel_rfl) rfl rfl (asg (rv (Value.slice (some ⟨kz, 0, none⟩) ((a0.length : Int)).toNat ((a0.length : Int)).toNat)) ?_)
              refine L_nil ⟨rfl, ?_⟩
              exact AN_done (by kernel_rfl) ⟨rfl, ky, kt, kz, rfl, g3, (kq.le.trans (ku.le.trans g0.le)), rfl, (Nat.le_trans kr.size kv), (kw).ext g0, rfl, (Nat.le_trans kx.size g1), g2, (fun e => (fun k hk => g4 k hk) _ rfl e), ke, kf, kg, kh, ki⟩
            ·refine L_makeArr (x0 := (0 : Int)) Try.underlying40 tyz3 (rv (vi ((a0.length : Int)))) kl.1 kl.2.1 kl.2.2 (fun _ => rfl) (by decide) (fun ks kt ku kv kw => ?_)
             have kx := Tch.ext kr ku
             refine L_nil ⟨rfl, ?_⟩
             refine AN_one 2 (by kernel_rfl) rfl rfl (L_makeArr (x0 := (0 : Int)) Try.underlying40 tyz3 (rv (vi ((a0.length : Int)))) kk.1 kk.2.1 kk.2.2 (fun _ => rfl) (by decide) (fun ky kz g0 g1 g2 => ?_))
             have g3 := Tch.ext kx g0
             have g4 : ∀ k, (fun k => k = kt) k → ¬ (fun k => k = kz) k := fun k h1 h2 => by have g5 := (fun k (hk : k = kt) => lt_at hk (kw).lt) k h1; have g6 := g1; subst h2; omega
             refine L_nil ⟨rfl, ?_⟩
             refine AN_one 6 (by kernel_rfl) rfl rfl (asg (rv (Value.slice (some ⟨kz, 0, none⟩) ((a0.length : Int)).toNat ((a0.length : Int)).toNat)) ?_)
             refine L_nil ⟨rfl, ?_⟩
             refine AN_one 7 (by kernel_rfl) rfl rfl (asg (rv (Value.slice (some ⟨kt, 0, none⟩) ((a0.length : Int)).toNat ((a0.length : Int)).toNat)) ?_)
             refine L_nil ⟨rfl, ?_⟩
             exact AN_done (by kernel_rfl) ⟨rfl, ky, kz, kt, rfl, g3, (kq.le.trans (ku.le.trans g0.le)), rfl, (Nat.le_trans kx.size g1), g2, rfl, (Nat.le_trans kr.size kv), (kw).ext g0, (fun e => (fun k hk hm => g4 k hm hk) _ rfl e), ke, kf, kg, kh, ki⟩
          ·refine ln Try.underlying49 (rv w0) (h0.mono (j9.trans (jm.trans (ju.le.trans (kc.trans kq.le))))) ?_
           refine L_nil ⟨rfl, ?_⟩
           refine AN_two 1 5 (by kernel_rfl) rfl rfl rfl rfl ?_ ?_
           ·refine ln Try.underlying49 (rv w0) (h0.mono (j9.trans (jm.trans (ju.le.trans (kc.trans kq.le))))) ?_
            refine L_nil ⟨rfl, ?_⟩
            refine AN_two 2 5 (by kernel_rfl) rfl rfl rfl rfl ?_ ?_
            ·refine L_makeArr (x0 := (0 : Int)) Try.underlying40 tyz3 (rv (vi ((a0.length : Int)))) kk.1 kk.2.1 kk.2.2 (fun _ => rfl) (by decide) (fun ks kt ku kv kw => ?_)
             have kx := Tch.ext kr ku
             refine L_nil ⟨rfl, ?_⟩
             refine AN_two 5 6 (by kernel_rfl) rfl rfl rfl rfl ?_ ?_
             ·refine L_makeArr (x0 := (0 : Int)) Try.underlying40 tyz3 (rv (vi ((a0.length : Int)))) kl.1 kl.2.1 kl.2.2 (fun _ => rfl) (by decide) (fun ky kz g0 g1 g2 => ?_)
              have g3 := Tch.ext kx g0
              have g4 : ∀ k, (fun k => k = kt) k → ¬ (fun k => k = kz) k := fun k h1 h2 => by have g5 := (fun k (hk : k = kt) => lt_at hk (kw).lt) k h1; have g6 := g1; subst h2; omega
              refine L_nil ⟨rfl, ?_⟩
              refine AN_one 6 (by kernel_rfl) rfl rfl (asg (rv (Value.slice (some ⟨kt, 0, none⟩) ((a0.length : Int)).toNat ((a0.length : Int)).toNat)) ?_)
              refine L_nil ⟨rfl, ?_⟩
              refine AN_one 7 (by kernel_rfl) rfl rfl (asg (rv (Value.slice (some ⟨kz, 0, none⟩) ((a0.length : Int)).toNat ((a0.length : Int)).toNat)) ?_)
              refine L_nil ⟨rfl, ?_⟩
              exact AN_done (by kernel_rfl) ⟨rfl, ky, kt, kz, rfl, g3, (kq.le.trans (ku.le.trans g0.le)), rfl, (Nat.le_trans kr.size kv), (kw).ext g0, rfl, (Nat.le_trans kx.size g1), g2, (fun e => (fun k hk => g4 k hk) _ rfl e), ke, kf, kg, kh, ki⟩
             ·refine asg (rv (Value.slice (some ⟨kt, 0, none⟩) ((a0.length : Int)).toNat ((a0.length : Int)).toNat)) ?_
              refine L_nil ⟨rfl, ?_⟩
              refine AN_one 5 (by kernel_rfl) rfl rfl (L_makeArr (x0 := (0 : Int)) Try.underlying40 tyz3 (rv (vi ((a0.length : Int)))) kl.1 kl.2.1 kl.2.2 (fun _ => rfl) (by decide) (fun ky kz g0 g1 g2 => ?_))
              have g3 := Tch.ext kx g0
              have g4 : ∀ k, (fun k => k = kt) k → ¬ (fun k => k = kz) k := fun k h1 h2 => by have g5 := (fun k (hk : k = kt) => lt_at hk (kw).lt) k h1; have g6 := g1; subst h2; omega
              refine L_nil ⟨rfl, ?_⟩
              refine AN_one 7 (by kernel_rfl) rfl rfl (asg (rv (Value.slice (some ⟨kz, 0, none⟩) ((a0.length : Int)).toNat ((a0.length : Int)).toNat)) ?_)
              refine L_nil ⟨rfl, ?_⟩
              exact AN_done (by kernel_rfl) ⟨rfl, ky, kt, kz, rfl, g3, (kq.le.trans (ku.le.trans g0.le)), rfl, (Nat.le_trans kr.size kv), (kw).ext g0, rfl, (Nat.le_trans kx.size g1), g2, (fun e => (fun k hk => g4 k hk) _ rfl e), ke, kf, kg, kh, ki⟩
            ·refine L_makeArr (x0 := (0 : Int)) Try.underlying40 tyz3 (rv (vi ((a0.length : Int)))) kl.1 kl.2.1 kl.2.2 (fun _ => rfl) (by decide) (fun ks kt ku kv kw => ?_)
             have kx := Tch.ext kr ku
             refine L_nil ⟨rfl, ?_⟩
             refine AN_one 2 (by kernel_rfl) rfl rfl (L_makeArr (x0 := (0 : Int)) Try.underlying40 tyz3 (rv (vi ((a0.length : Int)))) kk.1 kk.2.1 kk.2.2 (fun _ => rfl) (by decide) (fun ky kz g0 g1 g2 => ?_))
             have g3 := Tch.ext kx g0
             have g4 : ∀ k, (fun k => k = kt) k → ¬ (fun k => k = kz) k := fun k h1 h2 => by have g5 := (fun k (hk : k = kt) => lt_at hk (kw).lt) k h1; have g6 := g1; subst h2; omega
             refine L_nil ⟨rfl, ?_⟩
             refine AN_one 6 (by kernel_rfl) rfl rfl (asg (rv (Value.slice (some ⟨kz, 0, none⟩) ((a0.length : Int)).toNat ((a0.length : Int)).toNat)) ?_)
             refine L_nil ⟨rfl, ?_⟩
             refine AN_one 7 (by kernel_rfl) rfl rfl (asg (rv (Value.slice (some ⟨kt, 0, none⟩) ((a0.length : Int)).toNat ((a0.length : Int)).toNat)) ?_)
             refine L_nil ⟨rfl, ?_⟩
             exact AN_done (by kernel_rfl) ⟨rfl, ky, kz, kt, rfl, g3, (kq.le.trans (ku.le.trans g0.le)), rfl, (Nat.le_trans kx.size g1), g2, rfl, (Nat.le_trans kr.size kv), (kw).ext g0, (fun e => (fun k hk hm => g4 k hm hk) _ rfl e), ke, kf, kg, kh, ki⟩
           ·refine L_makeArr (x0 := (0 : Int)) Try.underlying40 tyz3 (rv (vi ((a0.length : Int)))) kl.1 kl.2.1 kl.2.2 (fun _ => rfl) (by decide) (fun ks kt ku kv kw => ?_)
            have kx := Tch.ext kr ku
            refine L_nil ⟨rfl, ?_⟩
            refine AN_one 1 (by kernel_rfl) rfl rfl (ln Try.underlying49 (rv w0) (h0.mono (j9.trans (jm.trans (ju.le.trans (kc.trans (kq.le.trans ku.le)))))) ?_)
            refine L_nil ⟨rfl, ?_⟩
            refine AN_one 2 (by kernel_rfl) rfl rfl (L_makeArr (x0 := (0 : Int)) Try.underlying40 tyz3 (rv (vi ((a0.length : Int)))) kk.1 kk.2.1 kk.2.2 (fun _ => rfl) (by decide) (fun ky kz g0 g1 g2 => ?_))
            have g3 := Tch.ext kx g0
            have g4 : ∀ k, (fun k => k = kt) k → ¬ (fun k => k = kz) k := fun k h1 h2 => by have g5 := (fun k (hk : k = kt) => lt_at hk (kw).lt) k h1; have g6 := g1; subst h2; omega
            refine L_nil ⟨rfl, ?_⟩
            refine AN_one 6 (by kernel_rfl) rfl rfl (asg (rv (Value.slice (some ⟨kz, 0, none⟩) ((a0.length : Int)).toNat ((a0.length : Int)).toNat)) ?_)
            refine L_nil ⟨rfl, ?_⟩
            refine AN_one 7 (by kernel_rfl) rfl rfl (asg (rv (Value.slice (some ⟨kt, 0, none⟩) ((a0.length : Int)).toNat ((a0.length : Int)).toNat)) ?_)
            refine L_nil ⟨rfl, ?_⟩
            exact AN_done (by kernel_rfl) ⟨rfl, ky, kz, kt, rfl, g3, (kq.le.trans (ku.le.trans g0.le)), rfl, (Nat.le_trans kx.size g1), g2, rfl, (Nat.le_trans kr.size kv), (kw).ext g0, (fun e => (fun k hk hm => g4 k hm hk) _ rfl e), ke, kf, kg, kh, ki⟩
         ·refine ln Try.underlying49 (rv w0) (h0.mono (j9.trans (jm.trans (ju.le.trans (kc.trans kq.le))))) ?_
          refine L_nil ⟨rfl, ?_⟩
          refine AN_two 0 5 (by kernel_rfl) rfl rfl rfl rfl ?_ ?_
          ·refine mv ke ?_
           refine L_nil ⟨rfl, ?_⟩
           refine AN_two 1 5 (by kernel_rfl) rfl rfl rfl rfl ?_ ?_
           ·refine ln Try.underlying49 (rv w0) (h0.mono (j9.trans (jm.trans (ju.le.trans (kc.trans kq.le))))) ?_
            refine L_nil ⟨rfl, ?_⟩
            refine AN_two 2 5 (by kernel_rfl) rfl rfl rfl rfl ?_ ?_
            ·refine L_makeArr (x0 := (0 : Int)) Try.underlying40 tyz3 (rv (vi ((a0.length : Int)))) kk.1 kk.2.1 kk.2.2 (fun _ => rfl) (by decide) (fun ks kt ku kv kw => ?_)
             have kx := Tch.ext kr ku
             refine L_nil ⟨rfl, ?_⟩
             refine AN_two 5 6 (by kernel_rfl) rfl rfl rfl rfl ?_ ?_
             ·refine L_makeArr (x0 := (0 : Int)) Try.underlying40 tyz3 (rv (vi ((a0.length : Int)))) kl.1 kl.2.1 kl.2.2 (fun _ => rfl) (by decide) (fun ky kz g0 g1 g2 => ?_)
              have g3 := Tch.ext kx g0
              have g4 : ∀ k, (fun k => k = kt) k → ¬ (fun k => k = kz) k := fun k h1 h2 => by have g5 := (fun k (hk : k = kt) => lt_at hk (kw).lt) k h1; have g6 := g1; subst h2; omega
              refine L_nil ⟨rfl, ?_⟩
              refine AN_one 6 (by kernel_rfl) rfl rfl (asg (rv (Value.slice (some ⟨kt, 0, none⟩) ((a0.length : Int)).toNat ((a0.length : Int)).toNat)) ?_)
              refine L_nil ⟨rfl, ?_⟩
              refine AN_one 7 (by kernel_rfl) rfl rfl (asg (rv (Value.slice (some ⟨kz, 0, none⟩) ((a0.length : Int)).toNat ((a0.length : Int)).toNat)) ?_)
              refine L_nil ⟨rfl, ?_⟩
              exact AN_done (by kernel_rfl) ⟨rfl, ky, kt, kz, rfl, g3, (kq.le.trans (ku.le.trans g0.le)), rfl, (Nat.le_trans kr.size kv), (kw).ext g0, rfl, (Nat.le_trans kx.size g1), g2, (fun e => (fun k hk => g4 k hk) _ rfl e), ke, kf, kg, kh, ki⟩
             ·refine asg (rv (Value.slice (some ⟨kt, 0, none⟩) ((a0.length : Int)).toNat ((a0.length : Int)).toNat)) ?_
              refine L_nil ⟨rfl, ?_⟩
              refine AN_one 5 (by kernel_rfl) rfl rfl (L_makeArr (x0 := (0 : Int)) Try.underlying40 tyz3 (rv (vi ((a0.length : Int)))) kl.1 kl.2.1 kl.2.2 (fun _ => rfl) (by decide) (fun ky kz g0 g1 g2 => ?_))
              have g3 := Tch.ext kx g0
              have g4 : ∀ k, (fun k => k = kt) k → ¬ (fun k => k = kz) k := fun k h1 h2 => by have g5 := (fun k (hk : k = kt) => lt_at hk (kw).lt) k h1; have g6 := g1; subst h2; omega
              refine L_nil ⟨rfl, ?_⟩
              refine AN_one 7 (by kernel_rfl) rfl rfl (asg (rv (Value.slice (some ⟨kz, 0, none⟩) ((a0.length : Int)).toNat ((a0.length : Int)).toNat)) ?_)
              refine L_nil ⟨rfl, ?_⟩
              exact AN_done (by kernel_rfl) ⟨rfl, ky, kt, kz, rfl, g3, (kq.le.trans (ku.le.trans g0.le)), rfl, (Nat.le_trans kr.size kv), (kw).ext g0, rfl, (Nat.le_trans kx.size g1), g2, (fun e => (fun k hk => g4 k hk) _ rfl e), ke, kf, kg, kh, ki⟩
            ·refine L_makeArr (x0 := (0 : Int)) Try.underlying40 tyz3 (rv (vi ((a0.length : Int)))) kl.1 kl.2.1 kl.2.2 (fun _ => rfl) (by decide) (fun ks kt ku kv kw => ?_)
             have kx := Tch.ext kr ku
             refine L_nil ⟨rfl, ?_⟩
             refine AN_one 2 (by kernel_rfl) rfl rfl (L_makeArr (x0 := (0 : Int)) Try.underlying40 tyz3 (rv (vi ((a0.length : Int)))) kk.1 kk.2.1 kk.2.2 (fun _ => rfl) (by decide) (fun ky kz g0 g1 g2 => ?_))
             have g3 := Tch.ext kx g0
             have g4 : ∀ k, (fun k => k = kt) k → ¬ (fun k => k = kz) k := fun k h1 h2 => by have g5 := (fun k (hk : k = kt) => lt_at hk (kw).lt) k h1; have g6 := g1; subst h2; omega
             refine L_nil ⟨rfl, ?_⟩
             refine AN_one 6 (by kernel_rfl) rfl rfl (asg (rv (Value.slice (some ⟨kz, 0, none⟩) ((a0.length : Int)).toNat ((a0.length : Int)).toNat)) ?_)
             refine L_nil ⟨rfl, ?_⟩
             refine AN_one 7 (by kernel_rfl) rfl rfl (asg (rv (Value.slice (some ⟨kt, 0, none⟩) ((a0.length : Int)).toNat ((a0.length : Int)).toNat)) ?_)
             refine L_nil ⟨rfl, ?_⟩
             exact AN_done (by kernel_rfl) ⟨rfl, ky, kz, kt, rfl, g3, (kq.le.trans (ku.le.trans g0.le)), rfl, (Nat.le_trans kx.size g1), g2, rfl, (Nat.le_trans kr.size kv), (kw).ext g0, (fun e => (fun k hk hm => g4 k hm hk) _ rfl e), ke, kf, kg, kh, ki⟩
           ·refine L_makeArr (x0 := (0 : Int)) Try.underlying40 tyz3 (rv (vi ((a0.length : Int)))) kl.1 kl.2.1 kl.2.2 (fun _ => rfl) (by decide) (fun ks kt ku kv kw => ?_)
            have kx := Tch.ext kr ku
            refine L_nil ⟨rfl, ?_⟩
            refine AN_one 1 (by kernel_rfl) rfl rfl (ln Try.underlying49 (rv w0) (h0.mono (j9.trans (jm.trans (ju.le.trans (kc.trans (kq.le.trans ku.le)))))) ?_)
            refine L_nil ⟨rfl, ?_⟩
            refine AN_one 2 (by kernel_rfl) rfl rfl (L_makeArr (x0 := (0 : Int)) Try.underlying40 tyz3 (rv (vi ((a0.length : Int)))) kk.1 kk.2.1 kk.2.2 (fun _ => rfl) (by decide) (fun ky kz g0 g1 g2 => ?_))
            have g3 := Tch.ext kx g0
            have g4 : ∀ k, (fun k => k = kt) k → ¬ (fun k => k = kz) k := fun k h1 h2 => by have g5 := (fun k (hk : k = kt) => lt_at hk (kw).lt) k h1; have g6 := g1; subst h2; omega
            refine L_nil ⟨rfl, ?_⟩
            refine AN_one 6 (by kernel_rfl) rfl rfl (asg (rv (Value.slice (some ⟨kz, 0, none⟩) ((a0.length : Int)).toNat ((a0.length : Int)).toNat)) ?_)
            refine L_nil ⟨rfl, ?_⟩
            refine AN_one 7 (by kernel_rfl) rfl rfl (asg (rv (Value.slice (some ⟨kt, 0, none⟩) ((a0.length : Int)).toNat ((a0.length : Int)).toNat)) ?_)
            refine L_nil ⟨rfl, ?_⟩
            exact AN_done (by kernel_rfl) ⟨rfl, ky, kz, kt, rfl, g3, (kq.le.trans (ku.le.trans g0.le)), rfl, (Nat.le_trans kx.size g1), g2, rfl, (Nat.le_trans kr.size kv), (kw).ext g0, (fun e => (fun k hk hm => g4 k hm hk) _ rfl e), ke, kf, kg, kh, ki⟩
          ·refine L_makeArr (x0 := (0 : Int)) Try.underlying40 tyz3 (rv (vi ((a0.length : Int)))) kl.1 kl.2.1 kl.2.2 (fun _ => rfl) (by decide) (fun ks kt ku kv kw => ?_)
           have kx := Tch.ext kr ku
           refine L_nil ⟨rfl, ?_⟩
           refine AN_one 0 (by kernel_rfl) rfl rfl (mv ke ?_)
           refine L_nil ⟨rfl, ?_⟩
           refine AN_one 1 (by kernel_rfl) rfl rfl (ln Try.underlying49 (rv w0) (h0.mono (j9.trans (jm.trans (ju.le.trans (kc.trans (kq.le.trans ku.le)))))) ?_)
           refine L_nil ⟨rfl, ?_⟩
           refine AN_one 2 (by kernel_rfl) rfl rfl (L_makeArr (x0 := (0 : Int)) Try.underlying40 tyz3 (rv (vi ((a0.length : Int)))) kk.1 kk.2.1 kk.2.2 (fun _ => rfl) (by decide) (fun ky kz g0 g1 g2 => ?_))
           have g3 := Tch.ext kx g0
           have g4 : ∀ k, (fun k => k = kt) k → ¬ (fun k => k = kz) k := fun k h1 h2 => by have g5 := (fun k (hk : k = kt) => lt_at hk (kw).lt) k h1; have g6 := g1; subst h2; omega
           refine L_nil ⟨rfl, ?_⟩
           refine AN_one 6 (by kernel_rfl) rfl rfl (asg (rv (Value.slice (some ⟨kz, 0, none⟩) ((a0.length : Int)).toNat ((a0.length : Int)).toNat)) ?_)
           refine L_nil ⟨rfl, ?_⟩
           refine AN_one 7 (by kernel_rfl) rfl rfl (asg (rv (Value.slice (some ⟨kt, 0, none⟩) ((a0.length : Int)).toNat ((a0.length : Int)).toNat)) ?_)
           refine L_nil ⟨rfl, ?_⟩
           exact AN_done (by kernel_rfl) ⟨rfl, ky, kz, kt, rfl, g3, (kq.le.trans (ku.le.trans g0.le)), rfl, (Nat.le_trans kx.size g1), g2, rfl, (Nat.le_trans kr.size kv), (kw).ext g0, (fun e => (fun k hk hm => g4 k hm hk) _ rfl e), ke, kf, kg, kh, ki⟩
       ·rintro ko kp ⟨kq, km, kn, rfl, kr, ks, kt, ku, kv, kw, kx, ky, kz, g0, g1, g2, g3, g4⟩
        have g5 : ∀ k, (fun k => k = km) k → ¬ (fun k => k = kn) k := fun k h1 h2 => kz (h1.symm.trans h2)
        refine then_n (W_seq (sr (mv g0 (ln Try.underlying49 (rv w0) (h0.mono (j9.trans (jm.trans (ju.le.trans (kc.trans ks))))) (mv (rv (vi 0)) (nn ?_))))))
        obtain ⟨g6, g7, g8⟩ := bind_some hr
        refine W_cut (fun f w => ∃ (s : St) (g9 : List Int) (ga : List Int), s.w = w ∧ Ext s0 s ∧ Le kq s ∧ Sum.inl (g9, ga) = g6 ∧ f 0 = w0 ∧ f 9 = jx ∧ f 10 = jy ∧ f 12 = Value.slice (some ⟨km, 0, none⟩) ((a0.length : Int)).toNat ((a0.length : Int)).toNat ∧ f 13 = Value.slice (some ⟨kn, 0, none⟩) ((a0.length : Int)).toNat ((a0.length : Int)).toNat ∧ Arr s km 3 ((a0.length : Int)).toNat g9 ∧ Arr s kn 3 ((a0.length : Int)).toNat ga) ?_ ?_
        ·refine W_block (W_loop (fun m f w => ∃ (s : St) (gb : Int) (gc : List Int) (gd : List Int), s.w = w ∧ Ext s0 s ∧ Le kq s ∧ law14_CheckConsistent_l2 N a0 a1 a2 jq m gb gc gd = some g6 ∧ f 79 = vi gb ∧ f 0 = w0 ∧ f 1 = w1 ∧ f 2 = w2 ∧ f 9 = jx ∧ f 10 = jy ∧ f 12 = Value.slice (some ⟨km, 0, none⟩) ((a0.length : Int)).toNat ((a0.length : Int)).toNat ∧ f 13 = Value.slice (some ⟨kn, 0, none⟩) ((a0.length : Int)).toNat ((a0.length : Int)).toNat ∧ f 78 = vi ((a0.length : Int)) ∧ Arr s km 3 ((a0.length : Int)).toNat gc ∧ Arr s kn 3 ((a0.length : Int)).toNat gd) N ⟨kq, 0, (List.replicate ((a0.length : Int)).toNat (0 : Int)), (List.replicate ((a0.length : Int)).toNat (0 : Int)), rfl, kr, (Le.refl _), g7, rfl, g0, g1, g2, g3, g4, kt, kw, rfl, kv, ky⟩ ?_)
         rintro gg gh gi ⟨gj, gb, gc, gd, rfl, gk, gl, hr, gm, gn, go, gp, gq, gr, gs, gu, gv, gw, gx⟩
         cases gg with
         | zero => exact absurd hr (by simp [law14_CheckConsistent_l2])
         | succ gg =>
          rw [law14_CheckConsistent_l2.eq_2] at hr
          refine sr (ls gm gv (nn (W_seq ?_)))
          refine W_cond _ (rv (vb (decide (gb < (a0.length : Int))))) (fun gy => ?_) (fun gy => ?_)
          ·have hr := ite_t gy hr
           refine W_skip (then_n (W_seq (W_block (sr (mv gm (asg (rv (vi gb)) (nn (W_seq ?_))))))))
           obtain ⟨gz, u0, u1⟩ := bind_some hr
           refine W_seq_cut (fun f w => ∃ (s : St) (u2 : Bool), s.w = w ∧ Ext s0 s ∧ Le gj s ∧ u2 = gz ∧ f 97 = vb u2 ∧ f 0 = w0 ∧ f 1 = w1 ∧ f 2 = w2 ∧ f 9 = jx ∧ f 10 = jy ∧ f 12 = Value.slice (some ⟨km, 0, none⟩) ((a0.length : Int)).toNat ((a0.length : Int)).toNat ∧ f 13 = Value.slice (some ⟨kn, 0, none⟩) ((a0.length : Int)).toNat ((a0.length : Int)).toNat ∧ f 14 = vi (gb) ∧ f 78 = vi ((a0.length : Int)) ∧ f 79 = vi (gb) ∧ Arr s km 3 ((a0.length : Int)).toNat gc ∧ Arr s kn 3 ((a0.length : Int)).toNat gd) ?_ ?_
           ·have hr := u0
            obtain ⟨u3, u4, hr⟩ := bind_some hr
            rcases tf (decide (u3 < 0)) with u5 | u5
            ·have hr := ite_t u5 hr
             refine W_draws mixed (by kernel_rfl) [PV.data (jq.1 : List Int), PV.eq (vi gb), PV.ptr (u3 : Int), PV.eq (vi u3), PV.eq (vb (decide (u3 < 0))), PV.eq (vb (decide (u3 < 0))), PV.eq (undef), PV.eq (undef), PV.eq (undef), PV.eq (undef), PV.eq (undef), PV.eq (undef), PV.eq (undef), PV.eq (undef), PV.eq (undef), PV.eq (vb true)] (Steps_cons ?_ (Steps_cons ?_ (Steps_cons ?_ (Steps_cons ?_ (Steps_cons ?_ (Steps_cons ?_ (Steps_cons ?_ (Steps_cons ?_ (Steps_cons ?_ (Steps_cons ?_ (Steps_cons ?_ (Steps_cons ?_ (Steps_cons ?_ (Steps_cons ?_ (Steps_cons ?_ (Steps_cons ?_ Steps_nil)))))))))))))))) ?_
             ·intro u6 u7 u9 ua ub Q uc; have ud : u6 9 = jx := (ub 9 (by kernel_rfl)).trans gq; exact mv ud (fin uc (k0.mono (kc.trans (ks.trans (gl.trans u9.le)))))
             ·intro u6 u7 u9 ua ub Q uc; have ud : u6 14 = vi (gb) := (ub 14 (by kernel_rfl)).trans rfl; exact mv ud (fin uc rfl)
             ·intro u6 u7 u9 ua ub Q uc; have ud : V _ (u6 82) (jq.1 : List Int) := ua 0 82 (by kernel_rfl) (by kernel_rfl); obtain ⟨ue, uf, ug⟩ : ∃ v, _ = v ∧ V _ v _ := ⟨_, rfl, ud⟩; have uh : u6 83 = vi (gb) := ua 1 83 (by kernel_rfl) (by kernel_rfl); exact ix Try.underlying40 ty3.inf uf ug uh u4 (fun ui uj => fin uc uj)
             ·intro u6 u7 u9 ua ub Q uc; have ud : Ptr _ (u6 84) (u3 : Int) := ua 2 84 (by kernel_rfl) (by kernel_rfl); obtain ⟨ue, uf, ug⟩ : ∃ v, _ = v ∧ Ptr _ v _ := ⟨_, rfl, ud⟩; exact li ty3 uf ug (fin uc rfl)
             ·intro u6 u7 u9 ua ub Q uc; have ud : u6 85 = vi (u3) := ua 3 85 (by kernel_rfl) (by kernel_rfl); exact ls ud (rv (vi 0)) (fin uc rfl)
             ·intro u6 u7 u9 ua ub Q uc; have ud : u6 86 = vb (decide (u3 < 0)) := ua 4 86 (by kernel_rfl) (by kernel_rfl); exact mv ud (fin uc rfl)
             ·intro u6 u7 u9 ua ub Q uc; have ud : u6 87 = vb (decide (u3 < 0)) := ua 5 87 (by kernel_rfl) (by kernel_rfl); exact gf 87 ud u5 (fin uc rfl)
             ·intro u6 u7 u9 ua ub Q uc; have ud : u6 87 = vb (decide (u3 < 0)) := ua 5 87 (by kernel_rfl) (by kernel_rfl); exact gf 87 ud u5 (fin uc rfl)
             ·intro u6 u7 u9 ua ub Q uc; have ud : u6 87 = vb (decide (u3 < 0)) := ua 5 87 (by kernel_rfl) (by kernel_rfl); exact gf 87 ud u5 (fin uc rfl)
             ·intro u6 u7 u9 ua ub Q uc; have ud : u6 87 = vb (decide (u3 < 0)) := ua 5 87 (by kernel_rfl) (by kernel_rfl); exact gf 87 ud u5 (fin uc rfl)
             ·intro u6 u7 u9 ua ub Q uc; have ud : u6 87 = vb (decide (u3 < 0)) := ua 5 87 (by kernel_rfl) (by kernel_rfl); exact gf 87 ud u5 (fin uc rfl)
             ·intro u6 u7 u9 ua ub Q uc; have ud : u6 87 = vb (decide (u3 < 0)) := ua 5 87 (by kernel_rfl) (by kernel_rfl); exact gf 87 ud u5 (fin uc rfl)
             ·intro u6 u7 u9 ua ub Q uc; have ud : u6 87 = vb (decide (u3 < 0)) := ua 5 87 (by kernel_rfl) (by kernel_rfl); exact gf 87 ud u5 (fin uc rfl)
             ·intro u6 u7 u9 ua ub Q uc; have ud : u6 87 = vb (decide (u3 < 0)) := ua 5 87 (by kernel_rfl) (by kernel_rfl); exact gf 87 ud u5 (fin uc rfl)
             ·intro u6 u7 u9 ua ub Q uc; have ud : u6 87 = vb (decide (u3 < 0)) := ua 5 87 (by kernel_rfl) (by kernel_rfl); exact gf 87 ud u5 (fin uc rfl)
             ·intro u6 u7 u9 ua ub Q uc; have ud : u6 87 = vb (decide (u3 < 0)) := ua 5 87 (by kernel_rfl) (by kernel_rfl); exact pt ud u5 (rv (vb true)) (fin uc rfl)
             ·intro u6 u7 u9 ua ub; have uc := Tch.ext gk u9; have ud : u6 0 = w0 := (ub 0 (by kernel_rfl)).trans gn; have ue : u6 1 = w1 := (ub 1 (by kernel_rfl)).trans go; have uf : u6 2 = w2 := (ub 2 (by kernel_rfl)).trans gp; have ug : u6 9 = jx := (ub 9 (by kernel_rfl)).trans gq; have uh : u6 10 = jy := (ub 10 (by kernel_rfl)).trans gr; have ui : u6 12 = Value.slice (some ⟨km, 0, none⟩) ((a0.length : Int)).toNat ((a0.length : Int)).toNat := (ub 12 (by kernel_rfl)).trans gs; have uj : u6 13 = Value.slice (some ⟨kn, 0, none⟩) ((a0.length : Int)).toNat ((a0.length : Int)).toNat := (ub 13 (by kernel_rfl)).trans gu; have uk : u6 14 = vi (gb) := (ub 14 (by kernel_rfl)).trans rfl; have ul : u6 78 = vi ((a0.length : Int)) := (ub 78 (by kernel_rfl)).trans gv; have um : u6 79 = vi (gb) := (ub 79 (by kernel_rfl)).trans gm; have un : u6 97 = vb (true) := ua 15 97 (by kernel_rfl); exact then_n ⟨u7, true, rfl, uc, u9.le, Option.some.inj hr, un, ud, ue, uf, ug, uh, ui, uj, uk, ul, um, (gw).ext u9, (gx).ext u9⟩
            ·have hr := ite_f u5 hr
             obtain ⟨u6, u7, hr⟩ := bind_some hr
             obtain ⟨u9, ua, hr⟩ := bind_some hr
             refine W_draws mixed (by kernel_rfl) [PV.data (jq.1 : List Int), PV.eq (vi gb), PV.ptr (u3 : Int), PV.eq (vi u3), PV.eq (vb (decide (u3 < 0))), PV.eq (vb (decide (u3 < 0))), PV.data (jq.1 : List Int), PV.eq (vi gb), PV.ptr (u6 : Int), PV.eq (vi u6), PV.data (a1 : List Int), PV.eq (vi gb), PV.ptr (u9 : Int), PV.eq (vi u9), PV.eq (vb (decide (u9 < u6))), PV.eq (vb (decide (u9 < u6)))] (Steps_cons ?_ (Steps_cons ?_ (Steps_cons ?_ (Steps_cons ?_ (Steps_cons ?_ (Steps_cons ?_ (Steps_cons ?_ (Steps_cons ?_ (Steps_cons ?_ (Steps_cons ?_ (Steps_cons ?_ (Steps_cons ?_ (Steps_cons ?_ (Steps_cons ?_ (Steps_cons ?_ (Steps_cons ?_ Steps_nil)))))))))))))))) ?_
             ·intro ub uc ud ue uf Q ug; have uh : ub 9 = jx := (uf 9 (by kernel_rfl)).trans gq; exact mv uh (fin ug (k0.mono (kc.trans (ks.trans (gl.trans ud.le)))))
             ·intro ub uc ud ue uf Q ug; have uh : ub 14 = vi (gb) := (uf 14 (by kernel_rfl)).trans rfl; exact mv uh (fin ug rfl)
             ·intro ub uc ud ue uf Q ug; have uh : V _ (ub 82) (jq.1 : List Int) := ue 0 82 (by kernel_rfl) (by kernel_rfl); obtain ⟨ui, uj, uk⟩ : ∃ v, _ = v ∧ V _ v _ := ⟨_, rfl, uh⟩; have ul : ub 83 = vi (gb) := ue 1 83 (by kernel_rfl) (by kernel_rfl); exact ix Try.underlying40 ty3.inf uj uk ul u4 (fun um un => fin ug un)
             ·intro ub uc ud ue uf Q ug; have uh : Ptr _ (ub 84) (u3 : Int) := ue 2 84 (by kernel_rfl) (by kernel_rfl); obtain ⟨ui, uj, uk⟩ : ∃ v, _ = v ∧ Ptr _ v _ := ⟨_, rfl, uh⟩; exact li ty3 uj uk (fin ug rfl)
             ·intro ub uc ud ue uf Q ug; have uh : ub 85 = vi (u3) := ue 3 85 (by kernel_rfl) (by kernel_rfl); exact ls uh (rv (vi 0)) (fin ug rfl)
             ·intro ub uc ud ue uf Q ug; have uh : ub 86 = vb (decide (u3 < 0)) := ue 4 86 (by kernel_rfl) (by kernel_rfl); exact mv uh (fin ug rfl)
             ·intro ub uc ud ue uf Q ug; have uh : ub 9 = jx := (uf 9 (by kernel_rfl)).trans gq; have ui : ub 87 = vb (decide (u3 < 0)) := ue 5 87 (by kernel_rfl) (by kernel_rfl); exact gt 87 ui u5 (mv uh (fin ug (k0.mono (kc.trans (ks.trans (gl.trans ud.le))))))
             ·intro ub uc ud ue uf Q ug; have uh : ub 14 = vi (gb) := (uf 14 (by kernel_rfl)).trans rfl; have ui : ub 87 = vb (decide (u3 < 0)) := ue 5 87 (by kernel_rfl) (by kernel_rfl); exact gt 87 ui u5 (mv uh (fin ug rfl))
             ·intro ub uc ud ue uf Q ug; have uh : ub 87 = vb (decide (u3 < 0)) := ue 5 87 (by kernel_rfl) (by kernel_rfl); have ui : V _ (ub 88) (jq.1 : List Int) := ue 6 88 (by kernel_rfl) (by kernel_rfl); obtain ⟨uj, uk, ul⟩ : ∃ v, _ = v ∧ V _ v _ := ⟨_, rfl, ui⟩; have um : ub 89 = vi (gb) := ue 7 89 (by kernel_rfl) (by kernel_rfl); exact gt 87 uh u5 (ix Try.underlying40 ty3.inf uk ul um u7 (fun un uo => fin ug uo))
             ·intro ub uc ud ue uf Q ug; have uh : ub 87 = vb (decide (u3 < 0)) := ue 5 87 (by kernel_rfl) (by kernel_rfl); have ui : Ptr _ (ub 90) (u6 : Int) := ue 8 90 (by kernel_rfl) (by kernel_rfl); obtain ⟨uj, uk, ul⟩ : ∃ v, _ = v ∧ Ptr _ v _ := ⟨_, rfl, ui⟩; exact gt 87 uh u5 (li ty3 uk ul (fin ug rfl))
             ·intro ub uc ud ue uf Q ug; have uh : ub 1 = w1 := (uf 1 (by kernel_rfl)).trans go; have ui : ub 87 = vb (decide (u3 < 0)) := ue 5 87 (by kernel_rfl) (by kernel_rfl); exact gt 87 ui u5 (mv uh (fin ug (h1.mono (j9.trans (jm.trans (ju.le.trans (kc.trans (ks.trans (gl.trans ud.le)))))))))
             ·intro ub uc ud ue uf Q ug; have uh : ub 14 = vi (gb) := (uf 14 (by kernel_rfl)).trans rfl; have ui : ub 87 = vb (decide (u3 < 0)) := ue 5 87 (by kernel_rfl) (by kernel_rfl); exact gt 87 ui u5 (mv uh (fin ug rfl))
             ·intro ub uc ud ue uf Q ug; have uh : ub 87 = vb (decide (u3 < 0)) := ue 5 87 (by kernel_rfl) (by kernel_rfl); have ui : V _ (ub 92) (a1 : List Int) := ue 10 92 (by kernel_rfl) (by kernel_rfl); obtain ⟨uj, uk, ul⟩ : ∃ v, _ = v ∧ V _ v _ := ⟨_, rfl, ui⟩; have um : ub 93 = vi (gb) := ue 11 93 (by kernel_rfl) (by kernel_rfl); exact gt 87 uh u5 (ix Try.underlying40 ty3.inf uk ul um ua (fun un uo => fin ug uo))
             ·intro ub uc ud ue uf Q ug; have uh : ub 87 = vb (decide (u3 < 0)) := ue 5 87 (by kernel_rfl) (by kernel_rfl); have ui : Ptr _ (ub 94) (u9 : Int) := ue 12 94 (by kernel_rfl) (by kernel_rfl); obtain ⟨uj, uk, ul⟩ : ∃ v, _ = v ∧ Ptr _ v _ := ⟨_, rfl, ui⟩; exact gt 87 uh u5 (li ty3 uk ul (fin ug rfl))
             ·intro ub uc ud ue uf Q ug; have uh : ub 87 = vb (decide (u3 < 0)) := ue 5 87 (by kernel_rfl) (by kernel_rfl); have ui : ub 91 = vi (u6) := ue 9 91 (by kernel_rfl) (by kernel_rfl); have uj : ub 95 = vi (u9) := ue 13 95 (by kernel_rfl) (by kernel_rfl); exact gt 87 uh u5 (L_gtr ui uj (by decide) (fin ug rfl))
             ·intro ub uc ud ue uf Q ug; have uh : ub 87 = vb (decide (u3 < 0)) := ue 5 87 (by kernel_rfl) (by kernel_rfl); have ui : ub 96 = vb (decide (u9 < u6)) := ue 14 96 (by kernel_rfl) (by kernel_rfl); exact pf uh u5 ui (fin ug rfl)
             ·intro ub uc ud ue uf; have ug := Tch.ext gk ud; have uh : ub 0 = w0 := (uf 0 (by kernel_rfl)).trans gn; have ui : ub 1 = w1 := (uf 1 (by kernel_rfl)).trans go; have uj : ub 2 = w2 := (uf 2 (by kernel_rfl)).trans gp; have uk : ub 9 = jx := (uf 9 (by kernel_rfl)).trans gq; have ul : ub 10 = jy := (uf 10 (by kernel_rfl)).trans gr; have um : ub 12 = Value.slice (some ⟨km, 0, none⟩) ((a0.length : Int)).toNat ((a0.length : Int)).toNat := (uf 12 (by kernel_rfl)).trans gs; have un : ub 13 = Value.slice (some ⟨kn, 0, none⟩) ((a0.length : Int)).toNat ((a0.length : Int)).toNat := (uf 13 (by kernel_rfl)).trans gu; have uo : ub 14 = vi (gb) := (uf 14 (by kernel_rfl)).trans rfl; have uq : ub 78 = vi ((a0.length : Int)) := (uf 78 (by kernel_rfl)).trans gv; have ur : ub 79 = vi (gb) := (uf 79 (by kernel_rfl)).trans gm; have us : ub 97 = vb (decide (u9 < u6)) := ue 15 97 (by kernel_rfl); exact then_n ⟨uc, (decide (u9 < u6)), rfl, ug, ud.le, Option.some.inj hr, us, uh, ui, uj, uk, ul, um, un, uo, uq, ur, (gw).ext ud, (gx).ext ud⟩
           ·rintro u3 u4 ⟨u5, u2, rfl, u6, u7, u0, u9, ua, ub, uc, ud, ue, uf, ug, uh, ui, uj, uk, ul⟩
            subst u0
            have hr := u1
            try dsimp only at hr
            refine W_cond _ u9 (fun um => ?_) (fun um => ?_)
            ·have hr := ite_t um hr; refine sr (asg (rv (vb false)) (nn (W_ret (then_r (block_r (then_r (then_r (block_r ?_)))))))); obtain rfl := Option.some.inj hr; have hr := g8; (try dsimp only at hr); refine then_r (then_r ?_); obtain rfl := Option.some.inj hr; exact done1 (Or.inl rfl) Try.results5 rfl ⟨_, _, rfl, rfl, u6, Vbool⟩
            ·have hr := ite_f um hr
             refine W_skip (then_n (sr (asg (rv (vi 0)) (nn (W_seq (sr (mv uc (ln Try.underlying22 (rv w2) (h2.mono (j9.trans (jm.trans (ju.le.trans (kc.trans (ks.trans (gl.trans u7))))))) (L_gtr (rv (vi ((a2.length : Int)))) (rv (vi 0)) (by decide) (nn ?_))))))))))
             refine W_cond _ (rv (vb (decide (0 < (a2.length : Int))))) (fun un => ?_) (fun un => ?_)
             ·have hr := ite_t un hr
              refine W_region (mv uc (mv uh (mv uc (ln Try.underlying22 (rv w2) (h2.mono (j9.trans (jm.trans (ju.le.trans (kc.trans (ks.trans (gl.trans u7))))))) ?_))))
              obtain ⟨uo, hr⟩ := chk_some hr
              refine L_rem (rv (vi gb)) (rv (vi ((a2.length : Int)))) uo (by decide) ?_
              obtain ⟨uq, ur, hr⟩ := bind_some hr
              refine ix Try.underlying22 ty5.inf (rv w2) (h2.mono (j9.trans (jm.trans (ju.le.trans (kc.trans (ks.trans (gl.trans u7))))))) (rv (vi (Int.tmod gb (a2.length : Int)))) ur (fun us ut => L_load_u8 ty5 (rv us) ut (by decide) ?_)
              obtain ⟨uu, hr⟩ := chk_some hr
              refine L_convert_i64 Try.underlying5 Try.underlying3 (rv (Value.int .u8 (uq).n)) uu (by decide) (asg (rv (vi (uq.n))) (nn ?_))
              obtain ⟨uv, uw, hr⟩ := bind_some hr
              obtain ⟨ux, hr⟩ := chk_some hr
              obtain ⟨uy, hr⟩ := chk_some hr
              obtain ⟨uz, t0, hr⟩ := bind_some hr
              obtain ⟨t1, hr⟩ := chk_some hr
              obtain ⟨t2, hr⟩ := chk_some hr
              obtain ⟨t3, t4, hr⟩ := bind_some hr
              obtain ⟨t5, t6, hr⟩ := bind_some hr
              refine W_drawO mixed 23 [PX.eq (Value.slice (some ⟨km, 0, none⟩) ((a0.length : Int)).toNat ((a0.length : Int)).toNat), PX.eq (vi gb), PX.eq (Value.slice (some ⟨kn, 0, none⟩) ((a0.length : Int)).toNat ((a0.length : Int)).toNat), PX.eq (vi gb), PX.data (a1 : List Int), PX.eq (vi gb), PX.ptr (uv : Int), PX.eq (vi uv), PX.eq (vi (uq.n)), PX.eq (vi (Int.tmod uq.n 3)), PX.eq (vi (uv - (Int.tmod uq.n 3))), PX.eq (vi (max 0 (uv - (Int.tmod uq.n 3)))), PX.eq (vi (uq.n)), PX.data (a1 : List Int), PX.eq (vi gb), PX.ptr (uz : Int), PX.eq (vi uz), PX.eq (vi (uz + 1)), PX.eq (vi (Int.tmod uq.n (uz + 1))), PX.eq (Value.pointer (some ⟨km, (gb).toNat * 1, none⟩)), PX.arr km 3 (((a0.length : Int)).toNat) (gc.set (gb).toNat (max 0 (uv - (Int.tmod uq.n 3))) : List Int), PX.eq (Value.pointer (some ⟨kn, (gb).toNat * 1, none⟩)), PX.arr kn 3 (((a0.length : Int)).toNat) (gd.set (gb).toNat (Int.tmod uq.n (uz + 1)) : List Int), PX.arr km 3 (((a0.length : Int)).toNat) (gc : List Int), PX.arr kn 3 (((a0.length : Int)).toNat) (gd : List Int)] [109, 110, 111, 112, 113, 114, 115, 116, 117, 118, 119, 120, 121, 122, 123, 124, 125, 126, 127, 128, 12, 129, 13, 12, 13] [[], [], [], [], [], [], [], [], [], [], [], [], [], [], [], [], [], [], [], [], [23], [], [24]] rfl (by kernel_rfl) (ent2 rfl ⟨uf, uk⟩ ⟨ug, ul⟩) (dis2 rfl (fun k h1 h2 => g5 k (own_slice (uf : _ = Value.slice (some ⟨km, 0, none⟩) (((a0.length : Int)).toNat) (((a0.length : Int)).toNat)) h1) (own_slice (ug : _ = Value.slice (some ⟨kn, 0, none⟩) (((a0.length : Int)).toNat) (((a0.length : Int)).toNat)) h2)) (fun k h1 h2 => (fun k hk hm => g5 k hm hk) k (own_slice (ug : _ = Value.slice (some ⟨kn, 0, none⟩) (((a0.length : Int)).toNat) (((a0.length : Int)).toNat)) h1) (own_slice (uf : _ = Value.slice (some ⟨km, 0, none⟩) (((a0.length : Int)).toNat) (((a0.length : Int)).toNat)) h2))) (StepsX_cons ?_ (StepsX_cons ?_ (StepsX_cons ?_ (StepsX_cons ?_ (StepsX_cons ?_ (StepsX_cons ?_ (StepsX_cons ?_ (StepsX_cons ?_ (StepsX_cons ?_ (StepsX_cons ?_ (StepsX_cons ?_ (StepsX_cons ?_ (StepsX_cons ?_ (StepsX_cons ?_ (StepsX_cons ?_ (StepsX_cons ?_ (StepsX_cons ?_ (StepsX_cons ?_ (StepsX_cons ?_ (StepsX_cons ?_ (StepsX_cons ?_ (StepsX_cons ?_ (StepsX_cons ?_ StepsX_nil))))))))))))))))))))))) ?_
              ·intro t7 t8 t9 ta tb tc Q td; obtain ⟨te, tg⟩ : t7 12 = Value.slice (some ⟨km, 0, none⟩) (((a0.length : Int)).toNat) (((a0.length : Int)).toNat) ∧ Arr t8 km 3 (((a0.length : Int)).toNat) (gc : List Int) := ta 23 (by kernel_rfl) (by show _ < 25; decide); exact mv te (L_nil (td _ _ No (Ext.refl t8) (fun _ h => h.elim) rfl (fun _ h => h.elim)))
              ·intro t7 t8 t9 ta tb tc Q td; have te : t7 14 = vi (gb) := (tb 14 (by kernel_rfl)).trans uh; exact mv te (L_nil (td _ _ No (Ext.refl t8) (fun _ h => h.elim) rfl (fun _ h => h.elim)))
              ·intro t7 t8 t9 ta tb tc Q td; obtain ⟨te, tg⟩ : t7 13 = Value.slice (some ⟨kn, 0, none⟩) (((a0.length : Int)).toNat) (((a0.length : Int)).toNat) ∧ Arr t8 kn 3 (((a0.length : Int)).toNat) (gd : List Int) := ta 24 (by kernel_rfl) (by show _ < 25; decide); exact mv te (L_nil (td _ _ No (Ext.refl t8) (fun _ h => h.elim) rfl (fun _ h => h.elim)))
              ·intro t7 t8 t9 ta tb tc Q td; have te : t7 14 = vi (gb) := (tb 14 (by kernel_rfl)).trans uh; exact mv te (L_nil (td _ _ No (Ext.refl t8) (fun _ h => h.elim) rfl (fun _ h => h.elim)))
              ·intro t7 t8 t9 ta tb tc Q td; have te : t7 1 = w1 := (tb 1 (by kernel_rfl)).trans ub; exact mv te (L_nil (td _ _ No (Ext.refl t8) (fun _ h => h.elim) (h1.mono (j9.trans (jm.trans (ju.le.trans (kc.trans (ks.trans (gl.trans (u7.trans t9.le)))))))) (fun _ h => h.elim)))
              ·intro t7 t8 t9 ta tb tc Q td; have te : t7 14 = vi (gb) := (tb 14 (by kernel_rfl)).trans uh; exact mv te (L_nil (td _ _ No (Ext.refl t8) (fun _ h => h.elim) rfl (fun _ h => h.elim)))
              ·intro t7 t8 t9 ta tb tc Q td; have te : V _ (t7 113) (a1 : List Int) := ta 4 (by kernel_rfl) (by show _ < 25; decide); obtain ⟨tg, th, ti⟩ : ∃ v, _ = v ∧ V _ v _ := ⟨_, rfl, te⟩; have tj : t7 114 = vi (gb) := ta 5 (by kernel_rfl) (by show _ < 25; decide); exact ix Try.underlying40 ty3.inf th ti tj uw (fun tk tl => L_nil (td _ _ No (Ext.refl t8) (fun _ h => h.elim) tl (fun _ h => h.elim)))
              ·intro t7 t8 t9 ta tb tc Q td; have te : Ptr _ (t7 115) (uv : Int) := ta 6 (by kernel_rfl) (by show _ < 25; decide); obtain ⟨tg, th, ti⟩ : ∃ v, _ = v ∧ Ptr _ v _ := ⟨_, rfl, te⟩; exact li ty3 th ti (L_nil (td _ _ No (Ext.refl t8) (fun _ h => h.elim) rfl (fun _ h => h.elim)))
              ·intro t7 t8 t9 ta tb tc Q td; have te : t7 15 = vi (uq.n) := (tb 15 (by kernel_rfl)).trans rfl; exact mv te (L_nil (td _ _ No (Ext.refl t8) (fun _ h => h.elim) rfl (fun _ h => h.elim)))
              ·intro t7 t8 t9 ta tb tc Q td; have te : t7 117 = vi (uq.n) := ta 8 (by kernel_rfl) (by show _ < 25; decide); exact L_rem te (rv (vi 3)) ux (by decide) (L_nil (td _ _ No (Ext.refl t8) (fun _ h => h.elim) rfl (fun _ h => h.elim)))
              ·intro t7 t8 t9 ta tb tc Q td; have te : t7 116 = vi (uv) := ta 7 (by kernel_rfl) (by show _ < 25; decide); have tg : t7 118 = vi (Int.tmod uq.n 3) := ta 9 (by kernel_rfl) (by show _ < 25; decide); exact L_sub te tg uy (by decide) (L_nil (td _ _ No (Ext.refl t8) (fun _ h => h.elim) rfl (fun _ h => h.elim)))
              ·intro t7 t8 t9 ta tb tc Q td; have te : t7 119 = vi (uv - (Int.tmod uq.n 3)) := ta 10 (by kernel_rfl) (by show _ < 25; decide); exact L_max (rv (vi 0)) te (by decide) (L_nil (td _ _ No (Ext.refl t8) (fun _ h => h.elim) rfl (fun _ h => h.elim)))
              ·intro t7 t8 t9 ta tb tc Q td; have te : t7 15 = vi (uq.n) := (tb 15 (by kernel_rfl)).trans rfl; exact mv te (L_nil (td _ _ No (Ext.refl t8) (fun _ h => h.elim) rfl (fun _ h => h.elim)))
              ·intro t7 t8 t9 ta tb tc Q td; have te : t7 1 = w1 := (tb 1 (by kernel_rfl)).trans ub; exact mv te (L_nil (td _ _ No (Ext.refl t8) (fun _ h => h.elim) (h1.mono (j9.trans (jm.trans (ju.le.trans (kc.trans (ks.trans (gl.trans (u7.trans t9.le)))))))) (fun _ h => h.elim)))
              ·intro t7 t8 t9 ta tb tc Q td; have te : t7 14 = vi (gb) := (tb 14 (by kernel_rfl)).trans uh; exact mv te (L_nil (td _ _ No (Ext.refl t8) (fun _ h => h.elim) rfl (fun _ h => h.elim)))
              ·intro t7 t8 t9 ta tb tc Q td; have te : V _ (t7 122) (a1 : List Int) := ta 13 (by kernel_rfl) (by show _ < 25; decide); obtain ⟨tg, th, ti⟩ : ∃ v, _ = v ∧ V _ v _ := ⟨_, rfl, te⟩; have tj : t7 123 = vi (gb) := ta 14 (by kernel_rfl) (by show _ < 25; decide); exact ix Try.underlying40 ty3.inf th ti tj t0 (fun tk tl => L_nil (td _ _ No (Ext.refl t8) (fun _ h => h.elim) tl (fun _ h => h.elim)))
              ·intro t7 t8 t9 ta tb tc Q td; have te : Ptr _ (t7 124) (uz : Int) := ta 15 (by kernel_rfl) (by show _ < 25; decide); obtain ⟨tg, th, ti⟩ : ∃ v, _ = v ∧ Ptr _ v _ := ⟨_, rfl, te⟩; exact li ty3 th ti (L_nil (td _ _ No (Ext.refl t8) (fun _ h => h.elim) rfl (fun _ h => h.elim)))
              ·intro t7 t8 t9 ta tb tc Q td; have te : t7 125 = vi (uz) := ta 16 (by kernel_rfl) (by show _ < 25; decide); exact ad te (rv (vi 1)) t1 (L_nil (td _ _ No (Ext.refl t8) (fun _ h => h.elim) rfl (fun _ h => h.elim)))
              ·intro t7 t8 t9 ta tb tc Q td; have te : t7 121 = vi (uq.n) := ta 12 (by kernel_rfl) (by show _ < 25; decide); have tg : t7 126 = vi (uz + 1) := ta 17 (by kernel_rfl) (by show _ < 25; decide); exact L_rem te tg t2 (by decide) (L_nil (td _ _ No (Ext.refl t8) (fun _ h => h.elim) rfl (fun _ h => h.elim)))
              ·intro t7 t8 t9 ta tb tc Q td; have te : t7 109 = Value.slice (some ⟨km, 0, none⟩) ((a0.length : Int)).toNat ((a0.length : Int)).toNat := ta 0 (by kernel_rfl) (by show _ < 25; decide); have tg : t7 110 = vi (gb) := ta 1 (by kernel_rfl) (by show _ < 25; decide); obtain ⟨th, ti⟩ : t7 12 = Value.slice (some ⟨km, 0, none⟩) (((a0.length : Int)).toNat) (((a0.length : Int)).toNat) ∧ Arr t8 km 3 (((a0.length : Int)).toNat) (gc : List Int) := ta 23 (by kernel_rfl) (by show _ < 25; decide); exact L_indexA (sz := 1) Try.underlying40 ty3.inf te tg (idx_some t4).1 (by have := (idx_some t4).2.1; have := (ti).1; omega) (by decide) (L_nil (td _ _ No (Ext.refl t8) (fun _ h => h.elim) rfl (fun _ h => h.elim)))
              ·intro t7 t8 t9 ta tb tc Q td; obtain ⟨te, tg⟩ : t7 12 = Value.slice (some ⟨km, 0, none⟩) (((a0.length : Int)).toNat) (((a0.length : Int)).toNat) ∧ Arr t8 km 3 (((a0.length : Int)).toNat) (gc : List Int) := ta 23 (by kernel_rfl) (by show _ < 25; decide); have th : t7 120 = vi (max 0 (uv - (Int.tmod uq.n 3))) := ta 11 (by kernel_rfl) (by show _ < 25; decide); have ti : t7 128 = Value.pointer (some ⟨km, (gb).toNat * 1, none⟩) := ta 19 (by kernel_rfl) (by show _ < 25; decide); exact L_storeA (xs := gc) ty3 ti th Vint (tg) t4 (fun tj tk tl => L_nil (td undef _ _ tk (fun k h => ⟨23, (List.mem_singleton.2 rfl : (23 : Nat) ∈ [23]), (by show own (t7 12) k; rw [te]; exact congrArg some h.symm)⟩) ⟨te, tl⟩ (fun k h => Or.inl ⟨23, (List.mem_singleton.2 rfl : (23 : Nat) ∈ [23]), h⟩)))
              ·intro t7 t8 t9 ta tb tc Q td; have te : t7 111 = Value.slice (some ⟨kn, 0, none⟩) ((a0.length : Int)).toNat ((a0.length : Int)).toNat := ta 2 (by kernel_rfl) (by show _ < 25; decide); have tg : t7 112 = vi (gb) := ta 3 (by kernel_rfl) (by show _ < 25; decide); obtain ⟨th, ti⟩ : t7 13 = Value.slice (some ⟨kn, 0, none⟩) (((a0.length : Int)).toNat) (((a0.length : Int)).toNat) ∧ Arr t8 kn 3 (((a0.length : Int)).toNat) (gd : List Int) := ta 24 (by kernel_rfl) (by show _ < 25; decide); exact L_indexA (sz := 1) Try.underlying40 ty3.inf te tg (idx_some t6).1 (by have := (idx_some t6).2.1; have := (ti).1; omega) (by decide) (L_nil (td _ _ No (Ext.refl t8) (fun _ h => h.elim) rfl (fun _ h => h.elim)))
              ·intro t7 t8 t9 ta tb tc Q td; obtain ⟨te, tg⟩ : t7 13 = Value.slice (some ⟨kn, 0, none⟩) (((a0.length : Int)).toNat) (((a0.length : Int)).toNat) ∧ Arr t8 kn 3 (((a0.length : Int)).toNat) (gd : List Int) := ta 24 (by kernel_rfl) (by show _ < 25; decide); have th : t7 127 = vi (Int.tmod uq.n (uz + 1)) := ta 18 (by kernel_rfl) (by show _ < 25; decide); have ti : t7 129 = Value.pointer (some ⟨kn, (gb).toNat * 1, none⟩) := ta 21 (by kernel_rfl) (by show _ < 25; decide); exact L_storeA (xs := gd) ty3 ti th Vint (tg) t6 (fun tj tk tl => L_nil (td undef _ _ tk (fun k h => ⟨24, (List.mem_singleton.2 rfl : (24 : Nat) ∈ [24]), (by show own (t7 13) k; rw [te]; exact congrArg some h.symm)⟩) ⟨te, tl⟩ (fun k h => Or.inl ⟨24, (List.mem_singleton.2 rfl : (24 : Nat) ∈ [24]), h⟩)))
              ·intro t7 t8 t9 ta tb tc td; have te := Tch.trans u6 t9 (fun k h => Or.inr ((ent_is2 (k := 23) rfl rfl h).elim (fun h2 => (by have tg := (own_slice (uf : _ = Value.slice (some ⟨km, 0, none⟩) (((a0.length : Int)).toNat) (((a0.length : Int)).toNat)) h2); rw [tg]; exact ku)) (fun h2 => (by have tg := (own_slice (ug : _ = Value.slice (some ⟨kn, 0, none⟩) (((a0.length : Int)).toNat) (((a0.length : Int)).toNat)) h2); rw [tg]; exact kx)))); obtain ⟨th, ti⟩ : t7 12 = Value.slice (some ⟨km, 0, none⟩) (((a0.length : Int)).toNat) (((a0.length : Int)).toNat) ∧ Arr t8 km 3 (((a0.length : Int)).toNat) (gc.set (gb).toNat (max 0 (uv - (Int.tmod uq.n 3))) : List Int) := ta 20 (by show _ < 25; decide) (by kernel_rfl); obtain ⟨tj, tk⟩ : t7 13 = Value.slice (some ⟨kn, 0, none⟩) (((a0.length : Int)).toNat) (((a0.length : Int)).toNat) ∧ Arr t8 kn 3 (((a0.length : Int)).toNat) (gd.set (gb).toNat (Int.tmod uq.n (uz + 1)) : List Int) := ta 22 (by show _ < 25; decide) (by kernel_rfl); have tl : t7 0 = w0 := (td 0 (by kernel_rfl)).trans ua; have tm : t7 1 = w1 := (td 1 (by kernel_rfl)).trans ub; have tn : t7 2 = w2 := (td 2 (by kernel_rfl)).trans uc; have tp : t7 9 = jx := (td 9 (by kernel_rfl)).trans ud; have tq : t7 10 = jy := (td 10 (by kernel_rfl)).trans ue; have tr : t7 78 = vi ((a0.length : Int)) := (td 78 (by kernel_rfl)).trans ui; have ts : t7 79 = vi (gb) := (td 79 (by kernel_rfl)).trans uj; refine block_n (then_n (W_region ?_)); obtain ⟨tt, hr⟩ := chk_some hr; exact ad ts (rv (vi 1)) tt (mv (rv (vi (gb + 1))) (nn ⟨gg, Nat.lt_succ_self _, ⟨t8, (gb + 1), (gc.set (gb).toNat (max 0 (uv - (Int.tmod uq.n 3)))), (gd.set (gb).toNat (Int.tmod uq.n (uz + 1))), rfl, te, (gl.trans (u7.trans t9.le)), hr, rfl, tl, tm, tn, tp, tq, th, tj, tr, ti, tk⟩⟩))
             ·have hr := ite_f un hr
              refine W_skip (then_n ?_)
              obtain ⟨uo, uq, hr⟩ := bind_some hr
              obtain ⟨ur, hr⟩ := chk_some hr
              obtain ⟨us, hr⟩ := chk_some hr
              obtain ⟨ut, uu, hr⟩ := bind_some hr
              obtain ⟨uv, hr⟩ := chk_some hr
              obtain ⟨uw, hr⟩ := chk_some hr
              obtain ⟨ux, uy, hr⟩ := bind_some hr
              obtain ⟨uz, t0, hr⟩ := bind_some hr
              refine W_drawO mixed 23 [PX.eq (Value.slice (some ⟨km, 0, none⟩) ((a0.length : Int)).toNat ((a0.length : Int)).toNat), PX.eq (vi gb), PX.eq (Value.slice (some ⟨kn, 0, none⟩) ((a0.length : Int)).toNat ((a0.length : Int)).toNat), PX.eq (vi gb), PX.data (a1 : List Int), PX.eq (vi gb), PX.ptr (uo : Int), PX.eq (vi uo), PX.eq (vi 0), PX.eq (vi (Int.tmod 0 3)), PX.eq (vi (uo - (Int.tmod 0 3))), PX.eq (vi (max 0 (uo - (Int.tmod 0 3)))), PX.eq (vi 0), PX.data (a1 : List Int), PX.eq (vi gb), PX.ptr (ut : Int), PX.eq (vi ut), PX.eq (vi (ut + 1)), PX.eq (vi (Int.tmod 0 (ut + 1))), PX.eq (Value.pointer (some ⟨km, (gb).toNat * 1, none⟩)), PX.arr km 3 (((a0.length : Int)).toNat) (gc.set (gb).toNat (max 0 (uo - (Int.tmod 0 3))) : List Int), PX.eq (Value.pointer (some ⟨kn, (gb).toNat * 1, none⟩)), PX.arr kn 3 (((a0.length : Int)).toNat) (gd.set (gb).toNat (Int.tmod 0 (ut + 1)) : List Int), PX.arr km 3 (((a0.length : Int)).toNat) (gc : List Int), PX.arr kn 3 (((a0.length : Int)).toNat) (gd : List Int)] [109, 110, 111, 112, 113, 114, 115, 116, 117, 118, 119, 120, 121, 122, 123, 124, 125, 126, 127, 128, 12, 129, 13, 12, 13] [[], [], [], [], [], [], [], [], [], [], [], [], [], [], [], [], [], [], [], [], [23], [], [24]] rfl (by kernel_rfl) (ent2 rfl ⟨uf, uk⟩ ⟨ug, ul⟩) (dis2 rfl (fun k h1 h2 => g5 k (own_slice (uf : _ = Value.slice (some ⟨km, 0, none⟩) (((a0.length : Int)).toNat) (((a0.length : Int)).toNat)) h1) (own_slice (ug : _ = Value.slice (some ⟨kn, 0, none⟩) (((a0.length : Int)).toNat) (((a0.length : Int)).toNat)) h2)) (fun k h1 h2 => (fun k hk hm => g5 k hm hk) k (own_slice (ug : _ = Value.slice (some ⟨kn, 0, none⟩) (((a0.length : Int)).toNat) (((a0.length : Int)).toNat)) h1) (own_slice (uf : _ = Value.slice (some ⟨km, 0, none⟩) (((a0.length : Int)).toNat) (((a0.length : Int)).toNat)) h2))) (StepsX_cons ?_ (StepsX_cons ?_ (StepsX_cons ?_ (StepsX_cons ?_ (StepsX_cons ?_ (StepsX_cons ?_ (StepsX_cons ?_ (StepsX_cons ?_ (StepsX_cons ?_ (StepsX_cons ?_ (StepsX_cons ?_ (StepsX_cons ?_ (StepsX_cons ?_ (StepsX_cons ?_ (StepsX_cons ?_ (StepsX_cons ?_ (StepsX_cons ?_ (StepsX_cons ?_ (StepsX_cons ?_ (StepsX_cons ?_ (StepsX_cons ?_ (StepsX_cons ?_ (StepsX_cons ?_ StepsX_nil))))))))))))))))))))))) ?_
              ·intro t1 t2 t3 t4 t5 t6 Q t7; obtain ⟨t8, t9⟩ : t1 12 = Value.slice (some ⟨km, 0, none⟩) (((a0.length : Int)).toNat) (((a0.length : Int)).toNat) ∧ Arr t2 km 3 (((a0.length : Int)).toNat) (gc : List Int) := t4 23 (by kernel_rfl) (by show _ < 25; decide); exact mv t8 (L_nil (t7 _ _ No (Ext.refl t2) (fun _ h => h.elim) rfl (fun _ h => h.elim)))
              ·intro t1 t2 t3 t4 t5 t6 Q t7; have t8 : t1 14 = vi (gb) := (t5 14 (by kernel_rfl)).trans uh; exact mv t8 (L_nil (t7 _ _ No (Ext.refl t2) (fun _ h => h.elim) rfl (fun _ h => h.elim)))
              ·intro t1 t2 t3 t4 t5 t6 Q t7; obtain ⟨t8, t9⟩ : t1 13 = Value.slice (some ⟨kn, 0, none⟩) (((a0.length : Int)).toNat) (((a0.length : Int)).toNat) ∧ Arr t2 kn 3 (((a0.length : Int)).toNat) (gd : List Int) := t4 24 (by kernel_rfl) (by show _ < 25; decide); exact mv t8 (L_nil (t7 _ _ No (Ext.refl t2) (fun _ h => h.elim) rfl (fun _ h => h.elim)))
              ·intro t1 t2 t3 t4 t5 t6 Q t7; have t8 : t1 14 = vi (gb) := (t5 14 (by kernel_rfl)).trans uh; exact mv t8 (L_nil (t7 _ _ No (Ext.refl t2) (fun _ h => h.elim) rfl (fun _ h => h.elim)))
              ·intro t1 t2 t3 t4 t5 t6 Q t7; have t8 : t1 1 = w1 := (t5 1 (by kernel_rfl)).trans ub; exact mv t8 (L_nil (t7 _ _ No (Ext.refl t2) (fun _ h => h.elim) (h1.mono (j9.trans (jm.trans (ju.le.trans (kc.trans (ks.trans (gl.trans (u7.trans t3.le)))))))) (fun _ h => h.elim)))
              ·intro t1 t2 t3 t4 t5 t6 Q t7; have t8 : t1 14 = vi (gb) := (t5 14 (by kernel_rfl)).trans uh; exact mv t8 (L_nil (t7 _ _ No (Ext.refl t2) (fun _ h => h.elim) rfl (fun _ h => h.elim)))
              ·intro t1 t2 t3 t4 t5 t6 Q t7; have t8 : V _ (t1 113) (a1 : List Int) := t4 4 (by kernel_rfl) (by show _ < 25; decide); obtain ⟨t9, ta, tb⟩ : ∃ v, _ = v ∧ V _ v _ := ⟨_, rfl, t8⟩; have tc : t1 114 = vi (gb) := t4 5 (by kernel_rfl) (by show _ < 25; decide); exact ix Try.underlying40 ty3.inf ta tb tc uq (fun td te => L_nil (t7 _ _ No (Ext.refl t2) (fun _ h => h.elim) te (fun _ h => h.elim)))
              ·intro t1 t2 t3 t4 t5 t6 Q t7; have t8 : Ptr _ (t1 115) (uo : Int) := t4 6 (by kernel_rfl) (by show _ < 25; decide); obtain ⟨t9, ta, tb⟩ : ∃ v, _ = v ∧ Ptr _ v _ := ⟨_, rfl, t8⟩; exact li ty3 ta tb (L_nil (t7 _ _ No (Ext.refl t2) (fun _ h => h.elim) rfl (fun _ h => h.elim)))
              ·intro t1 t2 t3 t4 t5 t6 Q t7; have t8 : t1 15 = vi (0) := (t5 15 (by kernel_rfl)).trans rfl; exact mv t8 (L_nil (t7 _ _ No (Ext.refl t2) (fun _ h => h.elim) rfl (fun _ h => h.elim)))
              ·intro t1 t2 t3 t4 t5 t6 Q t7; have t8 : t1 117 = vi (0) := t4 8 (by kernel_rfl) (by show _ < 25; decide); exact L_rem t8 (rv (vi 3)) ur (by decide) (L_nil (t7 _ _ No (Ext.refl t2) (fun _ h => h.elim) rfl (fun _ h => h.elim)))
              ·intro t1 t2 t3 t4 t5 t6 Q t7; have t8 : t1 116 = vi (uo) := t4 7 (by kernel_rfl) (by show _ < 25; decide); have t9 : t1 118 = vi (Int.tmod 0 3) := t4 9 (by kernel_rfl) (by show _ < 25; decide); exact L_sub t8 t9 us (by decide) (L_nil (t7 _ _ No (Ext.refl t2) (fun _ h => h.elim) rfl (fun _ h => h.elim)))
              ·intro t1 t2 t3 t4 t5 t6 Q t7; have t8 : t1 119 = vi (uo - (Int.tmod 0 3)) := t4 10 (by kernel_rfl) (by show _ < 25; decide); exact L_max (rv (vi 0)) t8 (by decide) (L_nil (t7 _ _ No (Ext.refl t2) (fun _ h => h.elim) rfl (fun _ h => h.elim)))
              ·intro t1 t2 t3 t4 t5 t6 Q t7; have t8 : t1 15 = vi (0) := (t5 15 (by kernel_rfl)).trans rfl; exact mv t8 (L_nil (t7 _ _ No (Ext.refl t2) (fun _ h => h.elim) rfl (fun _ h => h.elim)))
              ·intro t1 t2 t3 t4 t5 t6 Q t7; have t8 : t1 1 = w1 := (t5 1 (by kernel_rfl)).trans ub; exact mv t8 (L_nil (t7 _ _ No (Ext.refl t2) (fun _ h => h.elim) (h1.mono (j9.trans (jm.trans (ju.le.trans (kc.trans (ks.trans (gl.trans (u7.trans t3.le)))))))) (fun _ h => h.elim)))
              ·intro t1 t2 t3 t4 t5 t6 Q t7; have t8 : t1 14 = vi (gb) := (t5 14 (by kernel_rfl)).trans uh; exact mv t8 (L_nil (t7 _ _ No (Ext.refl t2) (fun _ h => h.elim) rfl (fun _ h => h.elim)))
              ·intro t1 t2 t3 t4 t5 t6 Q t7; have t8 : V _ (t1 122) (a1 : List Int) := t4 13 (by kernel_rfl) (by show _ < 25; decide); obtain ⟨t9, ta, tb⟩ : ∃ v, _ = v ∧ V _ v _ := ⟨_, rfl, t8⟩; have tc : t1 123 = vi (gb) := t4 14 (by kernel_rfl) (by show _ < 25; decide); exact ix Try.underlying40 ty3.inf ta tb tc uu (fun td te => L_nil (t7 _ _ No (Ext.refl t2) (fun _ h => h.elim) te (fun _ h => h.elim)))
              ·intro t1 t2 t3 t4 t5 t6 Q t7; have t8 : Ptr _ (t1 124) (ut : Int) := t4 15 (by kernel_rfl) (by show _ < 25; decide); obtain ⟨t9, ta, tb⟩ : ∃ v, _ = v ∧ Ptr _ v _ := ⟨_, rfl, t8⟩; exact li ty3 ta tb (L_nil (t7 _ _ No (Ext.refl t2) (fun _ h => h.elim) rfl (fun _ h => h.elim)))
              ·intro t1 t2 t3 t4 t5 t6 Q t7; have t8 : t1 125 = vi (ut) := t4 16 (by kernel_rfl) (by show _ < 25; decide); exact ad t8 (rv (vi 1)) uv (L_nil (t7 _ _ No (Ext.refl t2) (fun _ h => h.elim) rfl (fun _ h => h.elim)))
              ·intro t1 t2 t3 t4 t5 t6 Q t7; have t8 : t1 121 = vi (0) := t4 12 (by kernel_rfl) (by show _ < 25; decide); have t9 : t1 126 = vi (ut + 1) := t4 17 (by kernel_rfl) (by show _ < 25; decide); exact L_rem t8 t9 uw (by decide) (L_nil (t7 _ _ No (Ext.refl t2) (fun _ h => h.elim) rfl (fun _ h => h.elim)))
              ·intro t1 t2 t3 t4 t5 t6 Q t7; have t8 : t1 109 = Value.slice (some ⟨km, 0, none⟩) ((a0.length : Int)).toNat ((a0.length : Int)).toNat := t4 0 (by kernel_rfl) (by show _ < 25; decide); have t9 : t1 110 = vi (gb) := t4 1 (by kernel_rfl) (by show _ < 25; decide); obtain ⟨ta, tb⟩ : t1 12 = Value.slice (some ⟨km, 0, none⟩) (((a0.length : Int)).toNat) (((a0.length : Int)).toNat) ∧ Arr t2 km 3 (((a0.length : Int)).toNat) (gc : List Int) := t4 23 (by kernel_rfl) (by show _ < 25; decide); exact L_indexA (sz := 1) Try.underlying40 ty3.inf t8 t9 (idx_some uy).1 (by have := (idx_some uy).2.1; have := (tb).1; omega) (by decide) (L_nil (t7 _ _ No (Ext.refl t2) (fun _ h => h.elim) rfl (fun _ h => h.elim)))
              ·intro t1 t2 t3 t4 t5 t6 Q t7; obtain ⟨t8, t9⟩ : t1 12 = Value.slice (some ⟨km, 0, none⟩) (((a0.length : Int)).toNat) (((a0.length : Int)).toNat) ∧ Arr t2 km 3 (((a0.length : Int)).toNat) (gc : List Int) := t4 23 (by kernel_rfl) (by show _ < 25; decide); have ta : t1 120 = vi (max 0 (uo - (Int.tmod 0 3))) := t4 11 (by kernel_rfl) (by show _ < 25; decide); have tb : t1 128 = Value.pointer (some ⟨km, (gb).toNat * 1, none⟩) := t4 19 (by kernel_rfl) (by show _ < 25; decide); exact L_storeA (xs := gc) ty3 tb ta Vint (t9) uy (fun tc td te => L_nil (t7 undef _ _ td (fun k h => ⟨23, (List.mem_singleton.2 rfl : (23 : Nat) ∈ [23]), (by show own (t1 12) k; rw [t8]; exact congrArg some h.symm)⟩) ⟨t8, te⟩ (fun k h => Or.inl ⟨23, (List.mem_singleton.2 rfl : (23 : Nat) ∈ [23]), h⟩)))
              ·intro t1 t2 t3 t4 t5 t6 Q t7; have t8 : t1 111 = Value.slice (some ⟨kn, 0, none⟩) ((a0.length : Int)).toNat ((a0.length : Int)).toNat := t4 2 (by kernel_rfl) (by show _ < 25; decide); have t9 : t1 112 = vi (gb) := t4 3 (by kernel_rfl) (by show _ < 25; decide); obtain ⟨ta, tb⟩ : t1 13 = Value.slice (some ⟨kn, 0, none⟩) (((a0.length : Int)).toNat) (((a0.length : Int)).toNat) ∧ Arr t2 kn 3 (((a0.length : Int)).toNat) (gd : List Int) := t4 24 (by kernel_rfl) (by show _ < 25; decide); exact L_indexA (sz := 1) Try.underlying40 ty3.inf t8 t9 (idx_some t0).1 (by have := (idx_some t0).2.1; have := (tb).1; omega) (by decide) (L_nil (t7 _ _ No (Ext.refl t2) (fun _ h => h.elim) rfl (fun _ h => h.elim)))
              ·intro t1 t2 t3 t4 t5 t6 Q t7; obtain ⟨t8, t9⟩ : t1 13 = Value.slice (some ⟨kn, 0, none⟩) (((a0.length : Int)).toNat) (((a0.length : Int)).toNat) ∧ Arr t2 kn 3 (((a0.length : Int)).toNat) (gd : List Int) := t4 24 (by kernel_rfl) (by show _ < 25; decide); have ta : t1 127 = vi (Int.tmod 0 (ut + 1)) := t4 18 (by kernel_rfl) (by show _ < 25; decide); have tb : t1 129 = Value.pointer (some ⟨kn, (gb).toNat * 1, none⟩) := t4 21 (by kernel_rfl) (by show _ < 25; decide); exact L_storeA (xs := gd) ty3 tb ta Vint (t9) t0 (fun tc td te => L_nil (t7 undef _ _ td (fun k h => ⟨24, (List.mem_singleton.2 rfl : (24 : Nat) ∈ [24]), (by show own (t1 13) k; rw [t8]; exact congrArg some h.symm)⟩) ⟨t8, te⟩ (fun k h => Or.inl ⟨24, (List.mem_singleton.2 rfl : (24 : Nat) ∈ [24]), h⟩)))
              ·intro t1 t2 t3 t4 t5 t6 t7; have t8 := Tch.trans u6 t3 (fun k h => Or.inr ((ent_is2 (k := 23) rfl rfl h).elim (fun h2 => (by have t9 := (own_slice (uf : _ = Value.slice (some ⟨km, 0, none⟩) (((a0.length : Int)).toNat) (((a0.length : Int)).toNat)) h2); rw [t9]; exact ku)) (fun h2 => (by have t9 := (own_slice (ug : _ = Value.slice (some ⟨kn, 0, none⟩) (((a0.length : Int)).toNat) (((a0.length : Int)).toNat)) h2); rw [t9]; exact kx)))); obtain ⟨ta, tb⟩ : t1 12 = Value.slice (some ⟨km, 0, none⟩) (((a0.length : Int)).toNat) (((a0.length : Int)).toNat) ∧ Arr t2 km 3 (((a0.length : Int)).toNat) (gc.set (gb).toNat (max 0 (uo - (Int.tmod 0 3))) : List Int) := t4 20 (by show _ < 25; decide) (by kernel_rfl); obtain ⟨tc, td⟩ : t1 13 = Value.slice (some ⟨kn, 0, none⟩) (((a0.length : Int)).toNat) (((a0.length : Int)).toNat) ∧ Arr t2 kn 3 (((a0.length : Int)).toNat) (gd.set (gb).toNat (Int.tmod 0 (ut + 1)) : List Int) := t4 22 (by show _ < 25; decide) (by kernel_rfl); have te : t1 0 = w0 := (t7 0 (by kernel_rfl)).trans ua; have tg : t1 1 = w1 := (t7 1 (by kernel_rfl)).trans ub; have th : t1 2 = w2 := (t7 2 (by kernel_rfl)).trans uc; have ti : t1 9 = jx := (t7 9 (by kernel_rfl)).trans ud; have tj : t1 10 = jy := (t7 10 (by kernel_rfl)).trans ue; have tk : t1 78 = vi ((a0.length : Int)) := (t7 78 (by kernel_rfl)).trans ui; have tl : t1 79 = vi (gb) := (t7 79 (by kernel_rfl)).trans uj; refine block_n (then_n (W_region ?_)); obtain ⟨tm, hr⟩ := chk_some hr; exact ad tl (rv (vi 1)) tm (mv (rv (vi (gb + 1))) (nn ⟨gg, Nat.lt_succ_self _, ⟨t2, (gb + 1), (gc.set (gb).toNat (max 0 (uo - (Int.tmod 0 3)))), (gd.set (gb).toNat (Int.tmod 0 (ut + 1))), rfl, t8, (gl.trans (u7.trans t3.le)), hr, rfl, te, tg, th, ti, tj, ta, tc, tk, tb, td⟩⟩))
          ·have hr := ite_f gy hr; refine W_exit (then_x (then_x (block_here ?_))); exact then_n ⟨gj, gc, gd, rfl, gk, gl, Option.some.inj hr, gn, gq, gr, gs, gu, gw, gx⟩
        ·rintro gb gc ⟨gd, g9, ga, rfl, gg, gh, g7, gi, gj, gk, gl, gm, gn, go⟩
         subst g7
         have hr := g8
         try dsimp only at hr
         refine then_n (W_seq ?_)
         obtain ⟨gp, gq, gr, gs⟩ := (gn).freeze
         rw [← gq]
         have gu := Tch.trans gg gr (fun k hk => Or.inr (by subst hk; exact ku))
         obtain ⟨gv, gw, gx, gy⟩ := ((go).tch gr ((fun k hk hm => g5 k hm hk) kn rfl)).freeze
         rw [← gw]
         have gz := Tch.trans gu gx (fun k hk => Or.inr (by subst hk; exact kx))
         refine W_region (mv gi (mv gl ?_))
         obtain ⟨u0, u1, hr⟩ := bind_some hr
         refine L_calls cal19 (args2 (rv w0) (rv (Value.slice (some ⟨km, 0, none⟩) ((a0.length : Int)).toNat ((a0.length : Int)).toNat))) (check_Line_ok N _ _ _ (h0.mono (j9.trans (jm.trans (ju.le.trans (kc.trans (ks.trans (gh.trans (gr.le.trans gx.le)))))))) _ _ (gs.mono gx.le) u0 u1) (by decide) (fun u2 u3 u4 u5 => ?_)
         have u6 := Tch.ext gz u4
         obtain ⟨u7, u9, ua, rfl, ub, uc, ud⟩ := u5
         obtain rfl := ud.int
         refine mv (rv (Value.tuple #[u7, u9, vi (u0.2.2)])) (xt (rv (Value.tuple #[u7, u9, vi (u0.2.2)])) (k := 0) rfl (xt (rv (Value.tuple #[u7, u9, vi (u0.2.2)])) (k := 1) rfl (xt (rv (Value.tuple #[u7, u9, vi (u0.2.2)])) (k := 2) rfl (asg (rv u7) (asg (rv u9) (asg (rv (vi (u0.2.2))) (nn (W_seq ?_))))))))
         obtain ⟨ue, uf, ug⟩ := bind_some hr
         refine W_seq_cut (fun f w => ∃ (s : St) (uh : Bool), s.w = w ∧ Ext s0 s ∧ Le u3 s ∧ uh = ue ∧ f 146 = vb uh ∧ f 0 = w0 ∧ f 9 = jx ∧ f 10 = jy ∧ f 13 = Value.slice (some ⟨kn, 0, none⟩) ((a0.length : Int)).toNat ((a0.length : Int)).toNat ∧ f 16 = u7) ?_ ?_
         ·have hr := uf
          refine W_region (mv (rv (vi (u0.2.2))) (ne (rv (vi (u0.2.2))) (rv (vi 0)) (mv (rv (vb (!decide (u0.2.2 = 0)))) ?_)))
          rcases tf (!decide (u0.2.2 = 0)) with ui | ui
          ·have hr := ite_t ui hr; exact gf 140 (rv (vb (!decide (u0.2.2 = 0)))) ui (gf 140 (rv (vb (!decide (u0.2.2 = 0)))) ui (gf 140 (rv (vb (!decide (u0.2.2 = 0)))) ui (gf 140 (rv (vb (!decide (u0.2.2 = 0)))) ui (gf 140 (rv (vb (!decide (u0.2.2 = 0)))) ui (pt (rv (vb (!decide (u0.2.2 = 0)))) ui (rv (vb true)) (nn ⟨u3, true, rfl, u6, (Le.refl _), Option.some.inj hr, rfl, gi, gj, gk, gm, rfl⟩))))))
          ·have hr := ite_f ui hr; exact gt 140 (rv (vb (!decide (u0.2.2 = 0)))) ui (mv (rv u7) (gt 140 (rv (vb (!decide (u0.2.2 = 0)))) ui (ln Try.underlying40 (rv u7) ub (gt 140 (rv (vb (!decide (u0.2.2 = 0)))) ui (mv gi (gt 140 (rv (vb (!decide (u0.2.2 = 0)))) ui (ln Try.underlying49 (rv w0) (h0.mono (j9.trans (jm.trans (ju.le.trans (kc.trans (ks.trans (gh.trans (gr.le.trans (gx.le.trans u4.le))))))))) (gt 140 (rv (vb (!decide (u0.2.2 = 0)))) ui (ne (rv (vi ((u0.1.length : Int)))) (rv (vi ((a0.length : Int)))) (pf (rv (vb (!decide (u0.2.2 = 0)))) ui (rv (vb (!decide ((u0.1.length : Int) = (a0.length : Int))))) (nn ⟨u3, (!decide ((u0.1.length : Int) = (a0.length : Int))), rfl, u6, (Le.refl _), Option.some.inj hr, rfl, gi, gj, gk, gm, rfl⟩)))))))))))
         ·rintro ui uj ⟨uk, uh, rfl, ul, um, uf, un, uo, uq, ur, us, ut⟩
          subst uf
          have hr := ug
          try dsimp only at hr
          refine W_cond _ un (fun uu => ?_) (fun uu => ?_)
          ·have hr := ite_t uu hr; refine sr (asg (rv (vb false)) (nn (W_ret (then_r ?_)))); obtain rfl := Option.some.inj hr; exact done1 (Or.inl rfl) Try.results5 rfl ⟨_, _, rfl, rfl, ul, Vbool⟩
          ·have hr := ite_f uu hr
           refine W_skip (then_n (W_seq (sr (mv uo (ln Try.underlying49 (rv w0) (h0.mono (j9.trans (jm.trans (ju.le.trans (kc.trans (ks.trans (gh.trans (gr.le.trans (gx.le.trans (u4.le.trans um)))))))))) (mv (rv (vi 0)) (nn ?_)))))))
           obtain ⟨uv, uw, ux⟩ := bind_some hr
           refine W_cut (fun f w => ∃ (s : St), s.w = w ∧ Ext s0 s ∧ Le uk s ∧ Sum.inl () = uv ∧ f 0 = w0 ∧ f 9 = jx ∧ f 10 = jy) ?_ ?_
           ·refine W_block (W_loop (fun m f w => ∃ (s : St) (uy : Int), s.w = w ∧ Ext s0 s ∧ Le uk s ∧ law14_CheckConsistent_l3 N a0 jq ga u0 m uy = some uv ∧ f 149 = vi uy ∧ f 0 = w0 ∧ f 9 = jx ∧ f 10 = jy ∧ f 13 = Value.slice (some ⟨kn, 0, none⟩) ((a0.length : Int)).toNat ((a0.length : Int)).toNat ∧ f 16 = u7 ∧ f 148 = vi ((a0.length : Int))) N ⟨uk, 0, rfl, ul, (Le.refl _), uw, rfl, uo, uq, ur, us, ut, rfl⟩ ?_)
            rintro uz t0 t1 ⟨t2, uy, rfl, t3, t4, hr, t5, t6, t7, t8, t9, ta, tb⟩
            cases uz with
            | zero => exact absurd hr (by simp [law14_CheckConsistent_l3])
            | succ uz =>
             rw [law14_CheckConsistent_l3.eq_2] at hr
             refine sr (ls t5 tb (nn (W_seq ?_)))
             refine W_cond _ (rv (vb (decide (uy < (a0.length : Int))))) (fun tc => ?_) (fun tc => ?_)
             ·have hr := ite_t tc hr
              refine W_skip (then_n (W_seq (W_block (sr (mv t5 (asg (rv (vi uy)) (nn ?_)))))))
              obtain ⟨td, te, tg⟩ := bind_some hr
              refine W_seq_cut (fun f w => ∃ (s : St) (th : Bool), s.w = w ∧ Ext s0 s ∧ Le t2 s ∧ th = td ∧ f 176 = vb th ∧ f 0 = w0 ∧ f 9 = jx ∧ f 10 = jy ∧ f 13 = Value.slice (some ⟨kn, 0, none⟩) ((a0.length : Int)).toNat ((a0.length : Int)).toNat ∧ f 16 = u7 ∧ f 148 = vi ((a0.length : Int)) ∧ f 149 = vi (uy)) ?_ ?_
              ·have hr := te
               obtain ⟨ti, tj, hr⟩ := bind_some hr
               obtain ⟨tk, tl, hr⟩ := bind_some hr
               rcases tf (decide (tk < ti)) with tm | tm
               ·have hr := ite_t tm hr
                refine W_draws mixed (by kernel_rfl) [PV.data (u0.1 : List Int), PV.eq (vi uy), PV.ptr (ti : Int), PV.eq (vi ti), PV.data (jq.1 : List Int), PV.eq (vi uy), PV.ptr (tk : Int), PV.eq (vi tk), PV.eq (vb (decide (tk < ti))), PV.eq (vb (decide (tk < ti))), PV.eq (undef), PV.eq (undef), PV.eq (undef), PV.eq (undef), PV.eq (undef), PV.eq (undef), PV.eq (undef), PV.eq (undef), PV.eq (undef), PV.eq (undef), PV.eq (undef), PV.eq (undef), PV.eq (undef), PV.eq (undef), PV.eq (vb true)] (Steps_cons ?_ (Steps_cons ?_ (Steps_cons ?_ (Steps_cons ?_ (Steps_cons ?_ (Steps_cons ?_ (Steps_cons ?_ (Steps_cons ?_ (Steps_cons ?_ (Steps_cons ?_ (Steps_cons ?_ (Steps_cons ?_ (Steps_cons ?_ (Steps_cons ?_ (Steps_cons ?_ (Steps_cons ?_ (Steps_cons ?_ (Steps_cons ?_ (Steps_cons ?_ (Steps_cons ?_ (Steps_cons ?_ (Steps_cons ?_ (Steps_cons ?_ (Steps_cons ?_ (Steps_cons ?_ Steps_nil))))))))))))))))))))))))) ?_
                ·intro tn tp tq tr ts Q tt; have tu : tn 16 = u7 := (ts 16 (by kernel_rfl)).trans ta; exact mv tu (fin tt (ub.mono (um.trans (t4.trans tq.le))))
                ·intro tn tp tq tr ts Q tt; have tu : tn 18 = vi (uy) := (ts 18 (by kernel_rfl)).trans rfl; exact mv tu (fin tt rfl)
                ·intro tn tp tq tr ts Q tt; have tu : V _ (tn 152) (u0.1 : List Int) := tr 0 152 (by kernel_rfl) (by kernel_rfl); obtain ⟨tv, tw, tx⟩ : ∃ v, _ = v ∧ V _ v _ := ⟨_, rfl, tu⟩; have ty : tn 153 = vi (uy) := tr 1 153 (by kernel_rfl) (by kernel_rfl); exact ix Try.underlying40 ty3.inf tw tx ty tj (fun tz c0 => fin tt c0)
                ·intro tn tp tq tr ts Q tt; have tu : Ptr _ (tn 154) (ti : Int) := tr 2 154 (by kernel_rfl) (by kernel_rfl); obtain ⟨tv, tw, tx⟩ : ∃ v, _ = v ∧ Ptr _ v _ := ⟨_, rfl, tu⟩; exact li ty3 tw tx (fin tt rfl)
                ·intro tn tp tq tr ts Q tt; have tu : tn 9 = jx := (ts 9 (by kernel_rfl)).trans t7; exact mv tu (fin tt (k0.mono (kc.trans (ks.trans (gh.trans (gr.le.trans (gx.le.trans (u4.le.trans (um.trans (t4.trans tq.le))))))))))
                ·intro tn tp tq tr ts Q tt; have tu : tn 18 = vi (uy) := (ts 18 (by kernel_rfl)).trans rfl; exact mv tu (fin tt rfl)
                ·intro tn tp tq tr ts Q tt; have tu : V _ (tn 156) (jq.1 : List Int) := tr 4 156 (by kernel_rfl) (by kernel_rfl); obtain ⟨tv, tw, tx⟩ : ∃ v, _ = v ∧ V _ v _ := ⟨_, rfl, tu⟩; have ty : tn 157 = vi (uy) := tr 5 157 (by kernel_rfl) (by kernel_rfl); exact ix Try.underlying40 ty3.inf tw tx ty tl (fun tz c0 => fin tt c0)
                ·intro tn tp tq tr ts Q tt; have tu : Ptr _ (tn 158) (tk : Int) := tr 6 158 (by kernel_rfl) (by kernel_rfl); obtain ⟨tv, tw, tx⟩ : ∃ v, _ = v ∧ Ptr _ v _ := ⟨_, rfl, tu⟩; exact li ty3 tw tx (fin tt rfl)
                ·intro tn tp tq tr ts Q tt; have tu : tn 155 = vi (ti) := tr 3 155 (by kernel_rfl) (by kernel_rfl); have tv : tn 159 = vi (tk) := tr 7 159 (by kernel_rfl) (by kernel_rfl); exact L_gtr tu tv (by decide) (fin tt rfl)
                ·intro tn tp tq tr ts Q tt; have tu : tn 160 = vb (decide (tk < ti)) := tr 8 160 (by kernel_rfl) (by kernel_rfl); exact mv tu (fin tt rfl)
                ·intro tn tp tq tr ts Q tt; have tu : tn 161 = vb (decide (tk < ti)) := tr 9 161 (by kernel_rfl) (by kernel_rfl); exact gf 161 tu tm (fin tt rfl)
                ·intro tn tp tq tr ts Q tt; have tu : tn 161 = vb (decide (tk < ti)) := tr 9 161 (by kernel_rfl) (by kernel_rfl); exact gf 161 tu tm (fin tt rfl)
                ·intro tn tp tq tr ts Q tt; have tu : tn 161 = vb (decide (tk < ti)) := tr 9 161 (by kernel_rfl) (by kernel_rfl); exact gf 161 tu tm (fin tt rfl)
                ·intro tn tp tq tr ts Q tt; have tu : tn 161 = vb (decide (tk < ti)) := tr 9 161 (by kernel_rfl) (by kernel_rfl); exact gf 161 tu tm (fin tt rfl)
                ·intro tn tp tq tr ts Q tt; have tu : tn 165 = undef := tr 13 165 (by kernel_rfl) (by kernel_rfl); exact L_gu (e := 165) (by rfl) tu (by decide) (fin tt rfl)
                ·intro tn tp tq tr ts Q tt; have tu : tn 165 = undef := tr 13 165 (by kernel_rfl) (by kernel_rfl); exact L_gu (e := 165) (by rfl) tu (by decide) (fin tt rfl)
                ·intro tn tp tq tr ts Q tt; have tu : tn 165 = undef := tr 13 165 (by kernel_rfl) (by kernel_rfl); exact L_gu (e := 165) (by rfl) tu (by decide) (fin tt rfl)
                ·intro tn tp tq tr ts Q tt; have tu : tn 165 = undef := tr 13 165 (by kernel_rfl) (by kernel_rfl); exact L_gu (e := 165) (by rfl) tu (by decide) (fin tt rfl)
                ·intro tn tp tq tr ts Q tt; have tu : tn 165 = undef := tr 13 165 (by kernel_rfl) (by kernel_rfl); exact L_gu (e := 165) (by rfl) tu (by decide) (fin tt rfl)
                ·intro tn tp tq tr ts Q tt; have tu : tn 165 = undef := tr 13 165 (by kernel_rfl) (by kernel_rfl); exact L_gu (e := 165) (by rfl) tu (by decide) (fin tt rfl)
                ·intro tn tp tq tr ts Q tt; have tu : tn 165 = undef := tr 13 165 (by kernel_rfl) (by kernel_rfl); exact L_gu (e := 165) (by rfl) tu (by decide) (fin tt rfl)
                ·intro tn tp tq tr ts Q tt; have tu : tn 165 = undef := tr 13 165 (by kernel_rfl) (by kernel_rfl); exact L_gu (e := 165) (by rfl) tu (by decide) (fin tt rfl)
                ·intro tn tp tq tr ts Q tt; have tu : tn 165 = undef := tr 13 165 (by kernel_rfl) (by kernel_rfl); exact L_gu (e := 165) (by rfl) tu (by decide) (fin tt rfl)
                ·intro tn tp tq tr ts Q tt; have tu : tn 161 = vb (decide (tk < ti)) := tr 9 161 (by kernel_rfl) (by kernel_rfl); exact gf 161 tu tm (fin tt rfl)
                ·intro tn tp tq tr ts Q tt; have tu : tn 161 = vb (decide (tk < ti)) := tr 9 161 (by kernel_rfl) (by kernel_rfl); exact pt tu tm (rv (vb true)) (fin tt rfl)
                ·intro tn tp tq tr ts; have tt := Tch.ext t3 tq; have tu : tn 0 = w0 := (ts 0 (by kernel_rfl)).trans t6; have tv : tn 9 = jx := (ts 9 (by kernel_rfl)).trans t7; have tw : tn 10 = jy := (ts 10 (by kernel_rfl)).trans t8; have tx : tn 13 = Value.slice (some ⟨kn, 0, none⟩) ((a0.length : Int)).toNat ((a0.length : Int)).toNat := (ts 13 (by kernel_rfl)).trans t9; have ty : tn 16 = u7 := (ts 16 (by kernel_rfl)).trans ta; have tz : tn 148 = vi ((a0.length : Int)) := (ts 148 (by kernel_rfl)).trans tb; have c0 : tn 149 = vi (uy) := (ts 149 (by kernel_rfl)).trans t5; have c1 : tn 176 = vb (true) := tr 24 176 (by kernel_rfl); exact then_n ⟨tp, true, rfl, tt, tq.le, Option.some.inj hr, c1, tu, tv, tw, tx, ty, tz, c0⟩
               ·have hr := ite_f tm hr
                obtain ⟨tn, tp, hr⟩ := bind_some hr
                rcases tf (tn) with tq | tq
                ·have hr := ite_t tq hr
                 obtain ⟨tr, ts, hr⟩ := bind_some hr
                 obtain ⟨tt, tu, hr⟩ := bind_some hr
                 refine W_draws mixed (by kernel_rfl) [PV.data (u0.1 : List Int), PV.eq (vi uy), PV.ptr (ti : Int), PV.eq (vi ti), PV.data (jq.1 : List Int), PV.eq (vi uy), PV.ptr (tk : Int), PV.eq (vi tk), PV.eq (vb (decide (tk < ti))), PV.eq (vb (decide (tk < ti))), PV.data (a0 : List (List Item)), PV.data (ga : List Int), PV.eq (vb tn), PV.eq (vb tn), PV.data (ga : List Int), PV.eq (vi uy), PV.ptr (tr : Int), PV.eq (vi tr), PV.data (jq.1 : List Int), PV.eq (vi uy), PV.ptr (tt : Int), PV.eq (vi tt), PV.eq (vb (decide (tt < tr))), PV.eq (vb (decide (tt < tr))), PV.eq (vb (decide (tt < tr)))] (Steps_cons ?_ (Steps_cons ?_ (Steps_cons ?_ (Steps_cons ?_ (Steps_cons ?_ (Steps_cons ?_ (Steps_cons ?_ (Steps_cons ?_ (Steps_cons ?_ (Steps_cons ?_ (Steps_cons ?_ (Steps_cons ?_ (Steps_cons ?_ (Steps_cons ?_ (Steps_cons ?_ (Steps_cons ?_ (Steps_cons ?_ (Steps_cons ?_ (Steps_cons ?_ (Steps_cons ?_ (Steps_cons ?_ (Steps_cons ?_ (Steps_cons ?_ (Steps_cons ?_ (Steps_cons ?_ Steps_nil))))))))))))))))))))))))) ?_
                 ·intro tv tw tx ty tz Q c0; have c1 : tv 16 = u7 := (tz 16 (by kernel_rfl)).trans ta; exact mv c1 (fin c0 (ub.mono (um.trans (t4.trans tx.le))))
                 ·intro tv tw tx ty tz Q c0; have c1 : tv 18 = vi (uy) := (tz 18 (by kernel_rfl)).trans rfl; exact mv c1 (fin c0 rfl)
                 ·intro tv tw tx ty tz Q c0; have c1 : V _ (tv 152) (u0.1 : List Int) := ty 0 152 (by kernel_rfl) (by kernel_rfl); obtain ⟨c2, c3, c4⟩ : ∃ v, _ = v ∧ V _ v _ := ⟨_, rfl, c1⟩; have c5 : tv 153 = vi (uy) := ty 1 153 (by kernel_rfl) (by kernel_rfl); exact ix Try.underlying40 ty3.inf c3 c4 c5 tj (fun c6 c7 => fin c0 c7)
                 ·intro tv tw tx ty tz Q c0; have c1 : Ptr _ (tv 154) (ti : Int) := ty 2 154 (by kernel_rfl) (by kernel_rfl); obtain ⟨c2, c3, c4⟩ : ∃ v, _ = v ∧ Ptr _ v _ := ⟨_, rfl, c1⟩; exact li ty3 c3 c4 (fin c0 rfl)
                 ·intro tv tw tx ty tz Q c0; have c1 : tv 9 = jx := (tz 9 (by kernel_rfl)).trans t7; exact mv c1 (fin c0 (k0.mono (kc.trans (ks.trans (gh.trans (gr.le.trans (gx.le.trans (u4.le.trans (um.trans (t4.trans tx.le))))))))))
                 ·intro tv tw tx ty tz Q c0; have c1 : tv 18 = vi (uy) := (tz 18 (by kernel_rfl)).trans rfl; exact mv c1 (fin c0 rfl)
                 ·intro tv tw tx ty tz Q c0; have c1 : V _ (tv 156) (jq.1 : List Int) := ty 4 156 (by kernel_rfl) (by kernel_rfl); obtain ⟨c2, c3, c4⟩ : ∃ v, _ = v ∧ V _ v _ := ⟨_, rfl, c1⟩; have c5 : tv 157 = vi (uy) := ty 5 157 (by kernel_rfl) (by kernel_rfl); exact ix Try.underlying40 ty3.inf c3 c4 c5 tl (fun c6 c7 => fin c0 c7)
                 ·intro tv tw tx ty tz Q c0; have c1 : Ptr _ (tv 158) (tk : Int) := ty 6 158 (by kernel_rfl) (by kernel_rfl); obtain ⟨c2, c3, c4⟩ : ∃ v, _ = v ∧ Ptr _ v _ := ⟨_, rfl, c1⟩; exact li ty3 c3 c4 (fin c0 rfl)
                 ·intro tv tw tx ty tz Q c0; have c1 : tv 155 = vi (ti) := ty 3 155 (by kernel_rfl) (by kernel_rfl); have c2 : tv 159 = vi (tk) := ty 7 159 (by kernel_rfl) (by kernel_rfl); exact L_gtr c1 c2 (by decide) (fin c0 rfl)
                 ·intro tv tw tx ty tz Q c0; have c1 : tv 160 = vb (decide (tk < ti)) := ty 8 160 (by kernel_rfl) (by kernel_rfl); exact mv c1 (fin c0 rfl)
                 ·intro tv tw tx ty tz Q c0; have c1 : tv 0 = w0 := (tz 0 (by kernel_rfl)).trans t6; have c2 : tv 161 = vb (decide (tk < ti)) := ty 9 161 (by kernel_rfl) (by kernel_rfl); exact gt 161 c2 tm (mv c1 (fin c0 (h0.mono (j9.trans (jm.trans (ju.le.trans (kc.trans (ks.trans (gh.trans (gr.le.trans (gx.le.trans (u4.le.trans (um.trans (t4.trans tx.le))))))))))))))
                 ·intro tv tw tx ty tz Q c0; have c1 : tv 13 = Value.slice (some ⟨kn, 0, none⟩) ((a0.length : Int)).toNat ((a0.length : Int)).toNat := (tz 13 (by kernel_rfl)).trans t9; have c2 : tv 161 = vb (decide (tk < ti)) := ty 9 161 (by kernel_rfl) (by kernel_rfl); exact gt 161 c2 tm (mv c1 (fin c0 (gy.mono (u4.le.trans (um.trans (t4.trans tx.le))))))
                 ·intro tv tw tx ty tz Q c0; have c1 : tv 161 = vb (decide (tk < ti)) := ty 9 161 (by kernel_rfl) (by kernel_rfl); have c2 : V _ (tv 162) (a0 : List (List Item)) := ty 10 162 (by kernel_rfl) (by kernel_rfl); obtain ⟨c3, c4, c5⟩ : ∃ v, _ = v ∧ V _ v _ := ⟨_, rfl, c2⟩; have c6 : V _ (tv 163) (ga : List Int) := ty 11 163 (by kernel_rfl) (by kernel_rfl); obtain ⟨c7, c8, c9⟩ : ∃ v, _ = v ∧ V _ v _ := ⟨_, rfl, c6⟩; refine gt 161 c1 tm (L_calls cal20 (args2 c4 c8) (law14_consistent_ok N _ _ _ c5 _ _ c9 tn tp) (by decide) (fun ca cb cc cd => ?_)); have ce := Tch.ext (Ext.refl tw) cc; obtain rfl := cd.bool; exact L_nil (c0 _ _ ce rfl)
                 ·intro tv tw tx ty tz Q c0; have c1 : tv 161 = vb (decide (tk < ti)) := ty 9 161 (by kernel_rfl) (by kernel_rfl); have c2 : tv 164 = vb (tn) := ty 12 164 (by kernel_rfl) (by kernel_rfl); exact gt 161 c1 tm (mv c2 (fin c0 rfl))
                 ·intro tv tw tx ty tz Q c0; have c1 : tv 13 = Value.slice (some ⟨kn, 0, none⟩) ((a0.length : Int)).toNat ((a0.length : Int)).toNat := (tz 13 (by kernel_rfl)).trans t9; have c2 : tv 165 = vb (tn) := ty 13 165 (by kernel_rfl) (by kernel_rfl); exact gt 165 c2 tq (mv c1 (fin c0 (gy.mono (u4.le.trans (um.trans (t4.trans tx.le))))))
                 ·intro tv tw tx ty tz Q c0; have c1 : tv 18 = vi (uy) := (tz 18 (by kernel_rfl)).trans rfl; have c2 : tv 165 = vb (tn) := ty 13 165 (by kernel_rfl) (by kernel_rfl); exact gt 165 c2 tq (mv c1 (fin c0 rfl))
                 ·intro tv tw tx ty tz Q c0; have c1 : tv 165 = vb (tn) := ty 13 165 (by kernel_rfl) (by kernel_rfl); have c2 : V _ (tv 166) (ga : List Int) := ty 14 166 (by kernel_rfl) (by kernel_rfl); obtain ⟨c3, c4, c5⟩ : ∃ v, _ = v ∧ V _ v _ := ⟨_, rfl, c2⟩; have c6 : tv 167 = vi (uy) := ty 15 167 (by kernel_rfl) (by kernel_rfl); exact gt 165 c1 tq (ix Try.underlying40 ty3.inf c4 c5 c6 ts (fun c7 c8 => fin c0 c8))
                 ·intro tv tw tx ty tz Q c0; have c1 : tv 165 = vb (tn) := ty 13 165 (by kernel_rfl) (by kernel_rfl); have c2 : Ptr _ (tv 168) (tr : Int) := ty 16 168 (by kernel_rfl) (by kernel_rfl); obtain ⟨c3, c4, c5⟩ : ∃ v, _ = v ∧ Ptr _ v _ := ⟨_, rfl, c2⟩; exact gt 165 c1 tq (li ty3 c4 c5 (fin c0 rfl))
                 ·intro tv tw tx ty tz Q c0; have c1 : tv 9 = jx := (tz 9 (by kernel_rfl)).trans t7; have c2 : tv 165 = vb (tn) := ty 13 165 (by kernel_rfl) (by kernel_rfl); exact gt 165 c2 tq (mv c1 (fin c0 (k0.mono (kc.trans (ks.trans (gh.trans (gr.le.trans (gx.le.trans (u4.le.trans (um.trans (t4.trans tx.le)))))))))))
                 ·intro tv tw tx ty tz Q c0; have c1 : tv 18 = vi (uy) := (tz 18 (by kernel_rfl)).trans rfl; have c2 : tv 165 = vb (tn) := ty 13 165 (by kernel_rfl) (by kernel_rfl); exact gt 165 c2 tq (mv c1 (fin c0 rfl))
                 ·intro tv tw tx ty tz Q c0; have c1 : tv 165 = vb (tn) := ty 13 165 (by kernel_rfl) (by kernel_rfl); have c2 : V _ (tv 170) (jq.1 : List Int) := ty 18 170 (by kernel_rfl) (by kernel_rfl); obtain ⟨c3, c4, c5⟩ : ∃ v, _ = v ∧ V _ v _ := ⟨_, rfl, c2⟩; have c6 : tv 171 = vi (uy) := ty 19 171 (by kernel_rfl) (by kernel_rfl); exact gt 165 c1 tq (ix Try.underlying40 ty3.inf c4 c5 c6 tu (fun c7 c8 => fin c0 c8))
                 ·intro tv tw tx ty tz Q c0; have c1 : tv 165 = vb (tn) := ty 13 165 (by kernel_rfl) (by kernel_rfl); have c2 : Ptr _ (tv 172) (tt : Int) := ty 20 172 (by kernel_rfl) (by kernel_rfl); obtain ⟨c3, c4, c5⟩ : ∃ v, _ = v ∧ Ptr _ v _ := ⟨_, rfl, c2⟩; exact gt 165 c1 tq (li ty3 c4 c5 (fin c0 rfl))
                 ·intro tv tw tx ty tz Q c0; have c1 : tv 165 = vb (tn) := ty 13 165 (by kernel_rfl) (by kernel_rfl); have c2 : tv 169 = vi (tr) := ty 17 169 (by kernel_rfl) (by kernel_rfl); have c3 : tv 173 = vi (tt) := ty 21 173 (by kernel_rfl) (by kernel_rfl); exact gt 165 c1 tq (L_gtr c2 c3 (by decide) (fin c0 rfl))
                 ·intro tv tw tx ty tz Q c0; have c1 : tv 161 = vb (decide (tk < ti)) := ty 9 161 (by kernel_rfl) (by kernel_rfl); have c2 : tv 165 = vb (tn) := ty 13 165 (by kernel_rfl) (by kernel_rfl); have c3 : tv 174 = vb (decide (tt < tr)) := ty 22 174 (by kernel_rfl) (by kernel_rfl); exact gt 161 c1 tm (pt c2 tq c3 (fin c0 rfl))
                 ·intro tv tw tx ty tz Q c0; have c1 : tv 161 = vb (decide (tk < ti)) := ty 9 161 (by kernel_rfl) (by kernel_rfl); have c2 : tv 175 = vb (decide (tt < tr)) := ty 23 175 (by kernel_rfl) (by kernel_rfl); exact pf c1 tm c2 (fin c0 rfl)
                 ·intro tv tw tx ty tz; have c0 := Tch.ext t3 tx; have c1 : tv 0 = w0 := (tz 0 (by kernel_rfl)).trans t6; have c2 : tv 9 = jx := (tz 9 (by kernel_rfl)).trans t7; have c3 : tv 10 = jy := (tz 10 (by kernel_rfl)).trans t8; have c4 : tv 13 = Value.slice (some ⟨kn, 0, none⟩) ((a0.length : Int)).toNat ((a0.length : Int)).toNat := (tz 13 (by kernel_rfl)).trans t9; have c5 : tv 16 = u7 := (tz 16 (by kernel_rfl)).trans ta; have c6 : tv 148 = vi ((a0.length : Int)) := (tz 148 (by kernel_rfl)).trans tb; have c7 : tv 149 = vi (uy) := (tz 149 (by kernel_rfl)).trans t5; have c8 : tv 176 = vb (decide (tt < tr)) := ty 24 176 (by kernel_rfl); exact then_n ⟨tw, (decide (tt < tr)), rfl, c0, tx.le, Option.some.inj hr, c8, c1, c2, c3, c4, c5, c6, c7⟩
                ·have hr := ite_f tq hr
                 refine W_draws mixed (by kernel_rfl) [PV.data (u0.1 : List Int), PV.eq (vi uy), PV.ptr (ti : Int), PV.eq (vi ti), PV.data (jq.1 : List Int), PV.eq (vi uy), PV.ptr (tk : Int), PV.eq (vi tk), PV.eq (vb (decide (tk < ti))), PV.eq (vb (decide (tk < ti))), PV.data (a0 : List (List Item)), PV.data (ga : List Int), PV.eq (vb tn), PV.eq (vb tn), PV.eq (undef), PV.eq (undef), PV.eq (undef), PV.eq (undef), PV.eq (undef), PV.eq (undef), PV.eq (undef), PV.eq (undef), PV.eq (undef), PV.eq (vb false), PV.eq (vb false)] (Steps_cons ?_ (Steps_cons ?_ (Steps_cons ?_ (Steps_cons ?_ (Steps_cons ?_ (Steps_cons ?_ (Steps_cons ?_ (Steps_cons ?_ (Steps_cons ?_ (Steps_cons ?_ (Steps_cons ?_ (Steps_cons ?_ (Steps_cons ?_ (Steps_cons ?_ (Steps_cons ?_ (Steps_cons ?_ (Steps_cons ?_ (Steps_cons ?_ (Steps_cons ?_ (Steps_cons ?_ (Steps_cons ?_ (Steps_cons ?_ (Steps_cons ?_ (Steps_cons ?_ (Steps_cons ?_ Steps_nil))))))))))))))))))))))))) ?_
                 ·intro tr ts tt tu tv Q tw; have tx : tr 16 = u7 := (tv 16 (by kernel_rfl)).trans ta; exact mv tx (fin tw (ub.mono (um.trans (t4.trans tt.le))))
                 ·intro tr ts tt tu tv Q tw; have tx : tr 18 = vi (uy) := (tv 18 (by kernel_rfl)).trans rfl; exact mv tx (fin tw rfl)
                 ·intro tr ts tt tu tv Q tw; have tx : V _ (tr 152) (u0.1 : List Int) := tu 0 152 (by kernel_rfl) (by kernel_rfl); obtain ⟨ty, tz, c0⟩ : ∃ v, _ = v ∧ V _ v _ := ⟨_, rfl, tx⟩; have c1 : tr 153 = vi (uy) := tu 1 153 (by kernel_rfl) (by kernel_rfl); exact ix Try.underlying40 ty3.inf tz c0 c1 tj (fun c2 c3 => fin tw c3)
                 ·intro tr ts tt tu tv Q tw; have tx : Ptr _ (tr 154) (ti : Int) := tu 2 154 (by kernel_rfl) (by kernel_rfl); obtain ⟨ty, tz, c0⟩ : ∃ v, _ = v ∧ Ptr _ v _ := ⟨_, rfl, tx⟩; exact li ty3 tz c0 (fin tw rfl)
                 ·intro tr ts tt tu tv Q tw; have tx : tr 9 = jx := (tv 9 (by kernel_rfl)).trans t7; exact mv tx (fin tw (k0.mono (kc.trans (ks.trans (gh.trans (gr.le.trans (gx.le.trans (u4.le.trans (um.trans (t4.trans tt.le))))))))))
                 ·intro tr ts tt tu tv Q tw; have tx : tr 18 = vi (uy) := (tv 18 (by kernel_rfl)).trans rfl; exact mv tx (fin tw rfl)
                 ·intro tr ts tt tu tv Q tw; have tx : V _ (tr 156) (jq.1 : List Int) := tu 4 156 (by kernel_rfl) (by kernel_rfl); obtain ⟨ty, tz, c0⟩ : ∃ v, _ = v ∧ V _ v _ := ⟨_, rfl, tx⟩; have c1 : tr 157 = vi (uy) := tu 5 157 (by kernel_rfl) (by kernel_rfl); exact ix Try.underlying40 ty3.inf tz c0 c1 tl (fun c2 c3 => fin tw c3)
                 ·intro tr ts tt tu tv Q tw; have tx : Ptr _ (tr 158) (tk : Int) := tu 6 158 (by kernel_rfl) (by kernel_rfl); obtain ⟨ty, tz, c0⟩ : ∃ v, _ = v ∧ Ptr _ v _ := ⟨_, rfl, tx⟩; exact li ty3 tz c0 (fin tw rfl)
                 ·intro tr ts tt tu tv Q tw; have tx : tr 155 = vi (ti) := tu 3 155 (by kernel_rfl) (by kernel_rfl); have ty : tr 159 = vi (tk) := tu 7 159 (by kernel_rfl) (by kernel_rfl); exact L_gtr tx ty (by decide) (fin tw rfl)
                 ·intro tr ts tt tu tv Q tw; have tx : tr 160 = vb (decide (tk < ti)) := tu 8 160 (by kernel_rfl) (by kernel_rfl); exact mv tx (fin tw rfl)
                 ·intro tr ts tt tu tv Q tw; have tx : tr 0 = w0 := (tv 0 (by kernel_rfl)).trans t6; have ty : tr 161 = vb (decide (tk < ti)) := tu 9 161 (by kernel_rfl) (by kernel_rfl); exact gt 161 ty tm (mv tx (fin tw (h0.mono (j9.trans (jm.trans (ju.le.trans (kc.trans (ks.trans (gh.trans (gr.le.trans (gx.le.trans (u4.le.trans (um.trans (t4.trans tt.le))))))))))))))
                 ·intro tr ts tt tu tv Q tw; have tx : tr 13 = Value.slice (some ⟨kn, 0, none⟩) ((a0.length : Int)).toNat ((a0.length : Int)).toNat := (tv 13 (by kernel_rfl)).trans t9; have ty : tr 161 = vb (decide (tk < ti)) := tu 9 161 (by kernel_rfl) (by kernel_rfl); exact gt 161 ty tm (mv tx (fin tw (gy.mono (u4.le.trans (um.trans (t4.trans tt.le))))))
                 ·intro tr ts tt tu tv Q tw; have tx : tr 161 = vb (decide (tk < ti)) := tu 9 161 (by kernel_rfl) (by kernel_rfl); have ty : V _ (tr 162) (a0 : List (List Item)) := tu 10 162 (by kernel_rfl) (by kernel_rfl); obtain ⟨tz, c0, c1⟩ : ∃ v, _ = v ∧ V _ v _ := ⟨_, rfl, ty⟩; have c2 : V _ (tr 163) (ga : List Int) := tu 11 163 (by kernel_rfl) (by kernel_rfl); obtain ⟨c3, c4, c5⟩ : ∃ v, _ = v ∧ V _ v _ := ⟨_, rfl, c2⟩; refine gt 161 tx tm (L_calls cal20 (args2 c0 c4) (law14_consistent_ok N _ _ _ c1 _ _ c5 tn tp) (by decide) (fun c6 c7 c8 c9 => ?_)); have ca := Tch.ext (Ext.refl ts) c8; obtain rfl := c9.bool; exact L_nil (tw _ _ ca rfl)
                 ·intro tr ts tt tu tv Q tw; have tx : tr 161 = vb (decide (tk < ti)) := tu 9 161 (by kernel_rfl) (by kernel_rfl); have ty : tr 164 = vb (tn) := tu 12 164 (by kernel_rfl) (by kernel_rfl); exact gt 161 tx tm (mv ty (fin tw rfl))
                 ·intro tr ts tt tu tv Q tw; have tx : tr 165 = vb (tn) := tu 13 165 (by kernel_rfl) (by kernel_rfl); exact gf 165 tx tq (fin tw rfl)
                 ·intro tr ts tt tu tv Q tw; have tx : tr 165 = vb (tn) := tu 13 165 (by kernel_rfl) (by kernel_rfl); exact gf 165 tx tq (fin tw rfl)
                 ·intro tr ts tt tu tv Q tw; have tx : tr 165 = vb (tn) := tu 13 165 (by kernel_rfl) (by kernel_rfl); exact gf 165 tx tq (fin tw rfl)
                 ·intro tr ts tt tu tv Q tw; have tx : tr 165 = vb (tn) := tu 13 165 (by kernel_rfl) (by kernel_rfl); exact gf 165 tx tq (fin tw rfl)
                 ·intro tr ts tt tu tv Q tw; have tx : tr 165 = vb (tn) := tu 13 165 (by kernel_rfl) (by kernel_rfl); exact gf 165 tx tq (fin tw rfl)
                 ·intro tr ts tt tu tv Q tw; have tx : tr 165 = vb (tn) := tu 13 165 (by kernel_rfl) (by kernel_rfl); exact gf 165 tx tq (fin tw rfl)
                 ·intro tr ts tt tu tv Q tw; have tx : tr 165 = vb (tn) := tu 13 165 (by kernel_rfl) (by kernel_rfl); exact gf 165 tx tq (fin tw rfl)
                 ·intro tr ts tt tu tv Q tw; have tx : tr 165 = vb (tn) := tu 13 165 (by kernel_rfl) (by kernel_rfl); exact gf 165 tx tq (fin tw rfl)
                 ·intro tr ts tt tu tv Q tw; have tx : tr 165 = vb (tn) := tu 13 165 (by kernel_rfl) (by kernel_rfl); exact gf 165 tx tq (fin tw rfl)
                 ·intro tr ts tt tu tv Q tw; have tx : tr 161 = vb (decide (tk < ti)) := tu 9 161 (by kernel_rfl) (by kernel_rfl); have ty : tr 165 = vb (tn) := tu 13 165 (by kernel_rfl) (by kernel_rfl); exact gt 161 tx tm (pf ty tq (rv (vb false)) (fin tw rfl))
                 ·intro tr ts tt tu tv Q tw; have tx : tr 161 = vb (decide (tk < ti)) := tu 9 161 (by kernel_rfl) (by kernel_rfl); have ty : tr 175 = vb (false) := tu 23 175 (by kernel_rfl) (by kernel_rfl); exact pf tx tm ty (fin tw rfl)
                 ·intro tr ts tt tu tv; have tw := Tch.ext t3 tt; have tx : tr 0 = w0 := (tv 0 (by kernel_rfl)).trans t6; have ty : tr 9 = jx := (tv 9 (by kernel_rfl)).trans t7; have tz : tr 10 = jy := (tv 10 (by kernel_rfl)).trans t8; have c0 : tr 13 = Value.slice (some ⟨kn, 0, none⟩) ((a0.length : Int)).toNat ((a0.length : Int)).toNat := (tv 13 (by kernel_rfl)).trans t9; have c1 : tr 16 = u7 := (tv 16 (by kernel_rfl)).trans ta; have c2 : tr 148 = vi ((a0.length : Int)) := (tv 148 (by kernel_rfl)).trans tb; have c3 : tr 149 = vi (uy) := (tv 149 (by kernel_rfl)).trans t5; have c4 : tr 176 = vb (false) := tu 24 176 (by kernel_rfl); exact then_n ⟨ts, false, rfl, tw, tt.le, Option.some.inj hr, c4, tx, ty, tz, c0, c1, c2, c3⟩
              ·rintro ti tj ⟨tk, th, rfl, tl, tm, te, tn, tp, tq, tr, ts, tt, tu, tv⟩
               subst te
               have hr := tg
               try dsimp only at hr
               refine W_cond _ tn (fun tw => ?_) (fun tw => ?_)
               ·have hr := ite_t tw hr; refine sr (asg (rv (vb false)) (nn (W_ret (block_r (then_r (then_r (block_r ?_))))))); obtain rfl := Option.some.inj hr; have hr := ux; (try dsimp only at hr); refine then_r (then_r ?_); obtain rfl := Option.some.inj hr; exact done1 (Or.inl rfl) Try.results5 rfl ⟨_, _, rfl, rfl, tl, Vbool⟩
               ·have hr := ite_f tw hr; refine W_skip (block_n (then_n (W_region ?_))); obtain ⟨tx, hr⟩ := chk_some hr; exact ad tv (rv (vi 1)) tx (mv (rv (vi (uy + 1))) (nn ⟨uz, Nat.lt_succ_self _, ⟨tk, (uy + 1), rfl, tl, (t4.trans tm), hr, rfl, tp, tq, tr, ts, tt, tu⟩⟩))
             ·have hr := ite_f tc hr; refine W_exit (then_x (then_x (block_here ?_))); exact then_n ⟨t2, rfl, t3, t4, Option.some.inj hr, t6, t7, t8⟩
           ·rintro uy uz ⟨t0, rfl, t1, t2, uw, t3, t4, t5⟩
            subst uw
            have hr := ux
            try dsimp only at hr
            refine then_n (sr (asg (rv (vi 0)) (nn (W_seq (sr (mv t3 (ln Try.underlying49 (rv w0) (h0.mono (j9.trans (jm.trans (ju.le.trans (kc.trans (ks.trans (gh.trans (gr.le.trans (gx.le.trans (u4.le.trans (um.trans t2))))))))))) (mv (rv (vi 0)) (nn ?_)))))))))
            obtain ⟨t6, t7, t8⟩ := bind_some hr
            refine W_cut (fun f w => ∃ (s : St) (t9 : Int), s.w = w ∧ Ext s0 s ∧ Le t0 s ∧ Sum.inl t9 = t6 ∧ f 19 = vi t9 ∧ f 10 = jy) ?_ ?_
            ·refine W_block (W_loop (fun m f w => ∃ (s : St) (ta : Int) (tb : Int), s.w = w ∧ Ext s0 s ∧ Le t0 s ∧ law14_CheckConsistent_l4 N a0 jq m ta tb = some t6 ∧ f 19 = vi ta ∧ f 180 = vi tb ∧ f 0 = w0 ∧ f 9 = jx ∧ f 10 = jy ∧ f 178 = w0 ∧ f 179 = vi ((a0.length : Int))) N ⟨t0, 0, 0, rfl, t1, (Le.refl _), t7, rfl, rfl, t3, t4, t5, rfl, rfl⟩ ?_)
             rintro tc td te ⟨tg, ta, tb, rfl, th, ti, hr, tj, tk, tl, tm, tn, tp, tq⟩
             cases tc with
             | zero => exact absurd hr (by simp [law14_CheckConsistent_l4])
             | succ tc =>
              rw [law14_CheckConsistent_l4.eq_2] at hr
              refine sr (ls tk tq (nn (W_seq ?_)))
              refine W_cond _ (rv (vb (decide (tb < (a0.length : Int))))) (fun tr => ?_) (fun tr => ?_)
              ·have hr := ite_t tr hr
               refine W_skip (then_n (W_seq (W_block (sr (mv tk ?_)))))
               obtain ⟨ts, tt, hr⟩ := bind_some hr
               refine ix Try.underlying49 ty50.inf tp (h0.mono (j9.trans (jm.trans (ju.le.trans (kc.trans (ks.trans (gh.trans (gr.le.trans (gx.le.trans (u4.le.trans (um.trans (t2.trans ti)))))))))))) tk tt (fun tu tv => ld ty50 (rv tu) tv (fun tw tx => asg (rv (vi tb)) (asg (rv tw) (nn (sr (mv (rv tw) (ln Try.underlying50 (rv tw) tx (mv (rv (vi 0)) (nn ?_)))))))))
               obtain ⟨ty, tz, c0⟩ := bind_some hr
               refine W_cut (fun f w => ∃ (s : St) (c1 : Int), s.w = w ∧ Ext s0 s ∧ Le tg s ∧ Sum.inl c1 = ty ∧ f 19 = vi c1 ∧ f 0 = w0 ∧ f 9 = jx ∧ f 10 = jy ∧ f 178 = w0 ∧ f 179 = vi ((a0.length : Int)) ∧ f 180 = vi (tb)) ?_ ?_
               ·refine W_block (W_loop (fun m f w => ∃ (s : St) (c2 : Int) (c3 : Int), s.w = w ∧ Ext s0 s ∧ Le tg s ∧ law14_CheckConsistent_l5 N a0 jq tb ts m c2 c3 = some ty ∧ f 19 = vi c2 ∧ f 187 = vi c3 ∧ f 0 = w0 ∧ f 9 = jx ∧ f 10 = jy ∧ f 20 = vi (tb) ∧ f 21 = tw ∧ f 178 = w0 ∧ f 179 = vi ((a0.length : Int)) ∧ f 180 = vi (tb) ∧ f 185 = tw ∧ f 186 = vi ((ts.length : Int))) N ⟨tg, ta, 0, rfl, th, (Le.refl _), tz, tj, rfl, tl, tm, tn, rfl, rfl, tp, tq, tk, rfl, rfl⟩ ?_)
                rintro c4 c5 c6 ⟨c7, c2, c3, rfl, c8, c9, hr, ca, cb, cc, cd, ce, cf, cg, ch, ci, cj, ck, cl⟩
                cases c4 with
                | zero => exact absurd hr (by simp [law14_CheckConsistent_l5])
                | succ c4 =>
                 rw [law14_CheckConsistent_l5.eq_2] at hr
                 refine sr (ls cb cl (nn (W_seq ?_)))
                 refine W_cond _ (rv (vb (decide (c3 < (ts.length : Int))))) (fun cm => ?_) (fun cm => ?_)
                 ·have hr := ite_t cm hr
                  refine W_skip (then_n (W_seq (W_block (sr (mv cb ?_)))))
                  obtain ⟨cn, co, hr⟩ := bind_some hr
                  refine ix Try.underlying50 ty55.inf ck (tx.mono c9) cb co (fun cp cq => ld ty55 (rv cp) cq (fun cr cs => L_alloc (α := Item) (x := ⟨0, 0⟩) zero55 Item.zero_rel (by decide) (fun ct cu cv cw cx => ?_)))
                  have cy := Tch.ext c8 cv
                  refine asg (rv (vi c3)) (L_store_ro ty55 (rv (Value.pointer (some ⟨cu, 0, none⟩))) (rv cr) (cs.mono cv.le) (cx) (fun cz d0 d1 => ?_))
                  have d2 := Tch.trans cy d0 (fun k hk => Or.inr (by subst hk; exact (Nat.le_trans c8.size cw)))
                  refine nn (W_seq ?_)
                  obtain ⟨d3, d4, d5⟩ := bind_some hr
                  refine W_seq_cut (fun f w => ∃ (s : St) (d6 : Bool), s.w = w ∧ Ext s0 s ∧ Le cz s ∧ d6 = d3 ∧ f 204 = vb d6 ∧ f 0 = w0 ∧ f 9 = jx ∧ f 10 = jy ∧ f 19 = vi (c2) ∧ f 20 = vi (tb) ∧ f 21 = tw ∧ f 23 = Value.pointer (some ⟨cu, 0, none⟩) ∧ f 178 = w0 ∧ f 179 = vi ((a0.length : Int)) ∧ f 180 = vi (tb) ∧ f 185 = tw ∧ f 186 = vi ((ts.length : Int)) ∧ f 187 = vi (c3)) ?_ ?_
                  ·have hr := d4
                   refine W_region (fa fld55_0 Item.of_Kind (rv (Value.pointer (some ⟨cu, 0, none⟩))) d1 (fun d7 d8 => li ty3 (rv d7) d8 (ne (rv (vi (cn.Kind))) (rv (vi 2)) (mv (rv (vb (!decide (cn.Kind = 2)))) ?_))))
                   rcases tf (!decide (cn.Kind = 2)) with d9 | d9
                   ·have hr := ite_t d9 hr; exact gf 195 (rv (vb (!decide (cn.Kind = 2)))) d9 (gf 195 (rv (vb (!decide (cn.Kind = 2)))) d9 (gf 195 (rv (vb (!decide (cn.Kind = 2)))) d9 (gf 195 (rv (vb (!decide (cn.Kind = 2)))) d9 (gf 195 (rv (vb (!decide (cn.Kind = 2)))) d9 (gf 195 (rv (vb (!decide (cn.Kind = 2)))) d9 (gf 195 (rv (vb (!decide (cn.Kind = 2)))) d9 (gf 195 (rv (vb (!decide (cn.Kind = 2)))) d9 (pt (rv (vb (!decide (cn.Kind = 2)))) d9 (rv (vb true)) (nn ⟨cz, true, rfl, d2, (Le.refl _), Option.some.inj hr, rfl, cc, cd, ce, ca, cf, cg, rfl, ch, ci, cj, ck, cl, cb⟩)))))))))
                   ·have hr := ite_f d9 hr; refine gt 195 (rv (vb (!decide (cn.Kind = 2)))) d9 (mv cg (gt 195 (rv (vb (!decide (cn.Kind = 2)))) d9 (mv (rv (vi c3)) (gt 195 (rv (vb (!decide (cn.Kind = 2)))) d9 (mv cd (gt 195 (rv (vb (!decide (cn.Kind = 2)))) d9 (mv cf (gt 195 (rv (vb (!decide (cn.Kind = 2)))) d9 ?_)))))))); obtain ⟨da, db, hr⟩ := bind_some hr; refine ix Try.underlying40 ty3.inf (rv jx) (k0.mono (kc.trans (ks.trans (gh.trans (gr.le.trans (gx.le.trans (u4.le.trans (um.trans (t2.trans (ti.trans (c9.trans (cv.le.trans d0.le)))))))))))) (rv (vi tb)) db (fun dc dd => gt 195 (rv (vb (!decide (cn.Kind = 2)))) d9 (li ty3 (rv dc) dd (gt 195 (rv (vb (!decide (cn.Kind = 2)))) d9 ?_))); obtain ⟨de, df, hr⟩ := bind_some hr; refine L_calls cal21 (args3 (rv tw) (rv (vi c3)) (rv (vi da))) (law14_past_ok N _ _ _ (tx.mono (c9.trans (cv.le.trans d0.le))) c3 da de df) (by decide) (fun dg dh di dj => ?_); have dk := Tch.ext d2 di; obtain rfl := dj.bool; exact gt 195 (rv (vb (!decide (cn.Kind = 2)))) d9 (L_not (rv (vb de)) (by decide) (pf (rv (vb (!decide (cn.Kind = 2)))) d9 (rv (vb (!de))) (nn ⟨dh, (!de), rfl, dk, di.le, Option.some.inj hr, rfl, cc, cd, ce, ca, cf, cg, rfl, ch, ci, cj, ck, cl, cb⟩)))
                  ·rintro d7 d8 ⟨d9, d6, rfl, da, db, d4, dc, dd, de, df, dg, dh, di, dj, dk, dl, dm, dn, dp, dq⟩
                   subst d4
                   have hr := d5
                   try dsimp only at hr
                   refine W_cond _ dc (fun dr => ?_) (fun dr => ?_)
                   ·have hr := ite_t dr hr; refine W_exit (then_x (block_here (then_n (W_region ?_)))); obtain ⟨ds, hr⟩ := chk_some hr; exact ad dq (rv (vi 1)) ds (mv (rv (vi (c3 + 1))) (nn ⟨c4, Nat.lt_succ_self _, ⟨d9, c2, (c3 + 1), rfl, da, (c9.trans (cv.le.trans (d0.le.trans db))), hr, dg, rfl, dd, de, df, dh, di, dk, dl, dm, dn, dp⟩⟩))
                   ·have hr := ite_f dr hr
                    refine W_skip (then_n (W_seq (sr (mv dd (fa fld55_1 Item.of_No dj (d1.mono db) (fun ds dt => li ty3 (rv ds) dt ?_))))))
                    obtain ⟨du, dv, hr⟩ := bind_some hr
                    refine L_calls cal22 (args3 (rv w0) (rv (vi 3)) (rv (vi (cn.No)))) (law14_at_ok N _ _ _ (h0.mono (j9.trans (jm.trans (ju.le.trans (kc.trans (ks.trans (gh.trans (gr.le.trans (gx.le.trans (u4.le.trans (um.trans (t2.trans (ti.trans (c9.trans (cv.le.trans (d0.le.trans db)))))))))))))))) 3 cn.No du dv) (by decide) (fun dw dx dy dz => ?_)
                    have p0 := Tch.ext da dy
                    obtain ⟨p1, p2, p3, rfl, p4, p5, p6⟩ := dz
                    obtain rfl := p4.int
                    obtain rfl := p5.int
                    obtain rfl := p6.bool
                    refine mv (rv (Value.tuple #[vi (du.1), vi (du.2.1), vb (du.2.2)])) (xt (rv (Value.tuple #[vi (du.1), vi (du.2.1), vb (du.2.2)])) (k := 0) rfl (xt (rv (Value.tuple #[vi (du.1), vi (du.2.1), vb (du.2.2)])) (k := 1) rfl (xt (rv (Value.tuple #[vi (du.1), vi (du.2.1), vb (du.2.2)])) (k := 2) rfl (asg (rv (vi (du.1))) (asg (rv (vi (du.2.1))) (asg (rv (vb (du.2.2))) (nn ?_)))))))
                    obtain ⟨p7, p8, p9⟩ := bind_some hr
                    refine W_seq_cut (fun f w => ∃ (s : St) (pa : Bool), s.w = w ∧ Ext s0 s ∧ Le dx s ∧ pa = p7 ∧ f 225 = vb pa ∧ f 0 = w0 ∧ f 9 = jx ∧ f 10 = jy ∧ f 19 = vi (c2) ∧ f 20 = vi (tb) ∧ f 21 = tw ∧ f 23 = Value.pointer (some ⟨cu, 0, none⟩) ∧ f 178 = w0 ∧ f 179 = vi ((a0.length : Int)) ∧ f 180 = vi (tb) ∧ f 185 = tw ∧ f 186 = vi ((ts.length : Int)) ∧ f 187 = vi (c3)) ?_ ?_
                    ·have hr := p8
                     rcases tf (du.2.2) with pb | pb
                     ·have hr := ite_t pb hr
                      obtain ⟨pc, pd, hr⟩ := bind_some hr
                      obtain ⟨pe, pg, hr⟩ := bind_some hr
                      obtain ⟨ph, pi, hr⟩ := bind_some hr
                      refine W_draws mixed (by kernel_rfl) [PV.eq (vb (du.2.2)), PV.eq (vb (du.2.2)), PV.data (a0 : List (List Item)), PV.eq (vi (du.1)), PV.ptr (pc : List Item), PV.data (pc : List Item), PV.eq (vi (du.2.1)), PV.data (jq.1 : List Int), PV.eq (vi (du.1)), PV.ptr (pe : Int), PV.eq (vi pe), PV.eq (vb ph), PV.eq (vb ph)] (Steps_cons ?_ (Steps_cons ?_ (Steps_cons ?_ (Steps_cons ?_ (Steps_cons ?_ (Steps_cons ?_ (Steps_cons ?_ (Steps_cons ?_ (Steps_cons ?_ (Steps_cons ?_ (Steps_cons ?_ (Steps_cons ?_ (Steps_cons ?_ Steps_nil))))))))))))) ?_
                      ·intro pj pk pl pm pn Q po; have pp : pj 26 = vb (du.2.2) := (pn 26 (by kernel_rfl)).trans rfl; exact mv pp (fin po rfl)
                      ·intro pj pk pl pm pn Q po; have pp : pj 213 = vb (du.2.2) := pm 0 213 (by kernel_rfl) (by kernel_rfl); exact mv pp (fin po rfl)
                      ·intro pj pk pl pm pn Q po; have pp : pj 0 = w0 := (pn 0 (by kernel_rfl)).trans dd; have pq : pj 214 = vb (du.2.2) := pm 1 214 (by kernel_rfl) (by kernel_rfl); exact gt 214 pq pb (mv pp (fin po (h0.mono (j9.trans (jm.trans (ju.le.trans (kc.trans (ks.trans (gh.trans (gr.le.trans (gx.le.trans (u4.le.trans (um.trans (t2.trans (ti.trans (c9.trans (cv.le.trans (d0.le.trans (db.trans (dy.le.trans pl.le))))))))))))))))))))
                      ·intro pj pk pl pm pn Q po; have pp : pj 24 = vi (du.1) := (pn 24 (by kernel_rfl)).trans rfl; have pq : pj 214 = vb (du.2.2) := pm 1 214 (by kernel_rfl) (by kernel_rfl); exact gt 214 pq pb (mv pp (fin po rfl))
                      ·intro pj pk pl pm pn Q po; have pp : pj 214 = vb (du.2.2) := pm 1 214 (by kernel_rfl) (by kernel_rfl); have pq : V _ (pj 215) (a0 : List (List Item)) := pm 2 215 (by kernel_rfl) (by kernel_rfl); obtain ⟨pr, ps, pu⟩ : ∃ v, _ = v ∧ V _ v _ := ⟨_, rfl, pq⟩; have pv : pj 216 = vi (du.1) := pm 3 216 (by kernel_rfl) (by kernel_rfl); exact gt 214 pp pb (ix Try.underlying49 ty50.inf ps pu pv pd (fun pw py => fin po py))
                      ·intro pj pk pl pm pn Q po; have pp : pj 214 = vb (du.2.2) := pm 1 214 (by kernel_rfl) (by kernel_rfl); have pq : Ptr _ (pj 217) (pc : List Item) := pm 4 217 (by kernel_rfl) (by kernel_rfl); obtain ⟨pr, ps, pu⟩ : ∃ v, _ = v ∧ Ptr _ v _ := ⟨_, rfl, pq⟩; exact gt 214 pp pb (ld ty50 ps pu (fun pv pw => fin po pw))
                      ·intro pj pk pl pm pn Q po; have pp : pj 25 = vi (du.2.1) := (pn 25 (by kernel_rfl)).trans rfl; have pq : pj 214 = vb (du.2.2) := pm 1 214 (by kernel_rfl) (by kernel_rfl); exact gt 214 pq pb (mv pp (fin po rfl))
                      ·intro pj pk pl pm pn Q po; have pp : pj 9 = jx := (pn 9 (by kernel_rfl)).trans de; have pq : pj 214 = vb (du.2.2) := pm 1 214 (by kernel_rfl) (by kernel_rfl); exact gt 214 pq pb (mv pp (fin po (k0.mono (kc.trans (ks.trans (gh.trans (gr.le.trans (gx.le.trans (u4.le.trans (um.trans (t2.trans (ti.trans (c9.trans (cv.le.trans (d0.le.trans (db.trans (dy.le.trans pl.le)))))))))))))))))
                      ·intro pj pk pl pm pn Q po; have pp : pj 24 = vi (du.1) := (pn 24 (by kernel_rfl)).trans rfl; have pq : pj 214 = vb (du.2.2) := pm 1 214 (by kernel_rfl) (by kernel_rfl); exact gt 214 pq pb (mv pp (fin po rfl))
                      ·intro pj pk pl pm pn Q po; have pp : pj 214 = vb (du.2.2) := pm 1 214 (by kernel_rfl) (by kernel_rfl); have pq : V _ (pj 220) (jq.1 : List Int) := pm 7 220 (by kernel_rfl) (by kernel_rfl); obtain ⟨pr, ps, pu⟩ : ∃ v, _ = v ∧ V _ v _ := ⟨_, rfl, pq⟩; have pv : pj 221 = vi (du.1) := pm 8 221 (by kernel_rfl) (by kernel_rfl); exact gt 214 pp pb (ix Try.underlying40 ty3.inf ps pu pv pg (fun pw py => fin po py))
                      ·intro pj pk pl pm pn Q po; have pp : pj 214 = vb (du.2.2) := pm 1 214 (by kernel_rfl) (by kernel_rfl); have pq : Ptr _ (pj 222) (pe : Int) := pm 9 222 (by kernel_rfl) (by kernel_rfl); obtain ⟨pr, ps, pu⟩ : ∃ v, _ = v ∧ Ptr _ v _ := ⟨_, rfl, pq⟩; exact gt 214 pp pb (li ty3 ps pu (fin po rfl))
                      ·intro pj pk pl pm pn Q po; have pp : pj 214 = vb (du.2.2) := pm 1 214 (by kernel_rfl) (by kernel_rfl); have pq : V _ (pj 218) (pc : List Item) := pm 5 218 (by kernel_rfl) (by kernel_rfl); obtain ⟨pr, ps, pu⟩ : ∃ v, _ = v ∧ V _ v _ := ⟨_, rfl, pq⟩; have pv : pj 219 = vi (du.2.1) := pm 6 219 (by kernel_rfl) (by kernel_rfl); have pw : pj 223 = vi (pe) := pm 10 223 (by kernel_rfl) (by kernel_rfl); refine gt 214 pp pb (L_calls cal21 (args3 ps pv pw) (law14_past_ok N _ _ _ pu du.2.1 pe ph pi) (by decide) (fun py pz q0 q1 => ?_)); have q2 := Tch.ext (Ext.refl pk) q0; obtain rfl := q1.bool; exact L_nil (po _ _ q2 rfl)
                      ·intro pj pk pl pm pn Q po; have pp : pj 214 = vb (du.2.2) := pm 1 214 (by kernel_rfl) (by kernel_rfl); have pq : pj 224 = vb (ph) := pm 11 224 (by kernel_rfl) (by kernel_rfl); exact pt pp pb pq (fin po rfl)
                      ·intro pj pk pl pm pn; have po := Tch.ext p0 pl; have pp : pj 0 = w0 := (pn 0 (by kernel_rfl)).trans dd; have pq : pj 9 = jx := (pn 9 (by kernel_rfl)).trans de; have pr : pj 10 = jy := (pn 10 (by kernel_rfl)).trans df; have ps : pj 19 = vi (c2) := (pn 19 (by kernel_rfl)).trans dg; have pu : pj 20 = vi (tb) := (pn 20 (by kernel_rfl)).trans dh; have pv : pj 21 = tw := (pn 21 (by kernel_rfl)).trans di; have pw : pj 23 = Value.pointer (some ⟨cu, 0, none⟩) := (pn 23 (by kernel_rfl)).trans dj; have py : pj 178 = w0 := (pn 178 (by kernel_rfl)).trans dk; have pz : pj 179 = vi ((a0.length : Int)) := (pn 179 (by kernel_rfl)).trans dl; have q0 : pj 180 = vi (tb) := (pn 180 (by kernel_rfl)).trans dm; have q1 : pj 185 = tw := (pn 185 (by kernel_rfl)).trans dn; have q2 : pj 186 = vi ((ts.length : Int)) := (pn 186 (by kernel_rfl)).trans dp; have q3 : pj 187 = vi (c3) := (pn 187 (by kernel_rfl)).trans dq; have q4 : pj 225 = vb (ph) := pm 12 225 (by kernel_rfl); exact then_n ⟨pk, ph, rfl, po, pl.le, Option.some.inj hr, q4, pp, pq, pr, ps, pu, pv, pw, py, pz, q0, q1, q2, q3⟩
                     ·have hr := ite_f pb hr
                      refine W_draws mixed (by kernel_rfl) [PV.eq (vb (du.2.2)), PV.eq (vb (du.2.2)), PV.eq (undef), PV.eq (undef), PV.eq (undef), PV.eq (undef), PV.eq (undef), PV.eq (undef), PV.eq (undef), PV.eq (undef), PV.eq (undef), PV.eq (undef), PV.eq (vb false)] (Steps_cons ?_ (Steps_cons ?_ (Steps_cons ?_ (Steps_cons ?_ (Steps_cons ?_ (Steps_cons ?_ (Steps_cons ?_ (Steps_cons ?_ (Steps_cons ?_ (Steps_cons ?_ (Steps_cons ?_ (Steps_cons ?_ (Steps_cons ?_ Steps_nil))))))))))))) ?_
                      ·intro pc pd pe pg ph Q pi; have pj : pc 26 = vb (du.2.2) := (ph 26 (by kernel_rfl)).trans rfl; exact mv pj (fin pi rfl)
                      ·intro pc pd pe pg ph Q pi; have pj : pc 213 = vb (du.2.2) := pg 0 213 (by kernel_rfl) (by kernel_rfl); exact mv pj (fin pi rfl)
                      ·intro pc pd pe pg ph Q pi; have pj : pc 214 = vb (du.2.2) := pg 1 214 (by kernel_rfl) (by kernel_rfl); exact gf 214 pj pb (fin pi rfl)
                      ·intro pc pd pe pg ph Q pi; have pj : pc 214 = vb (du.2.2) := pg 1 214 (by kernel_rfl) (by kernel_rfl); exact gf 214 pj pb (fin pi rfl)
                      ·intro pc pd pe pg ph Q pi; have pj : pc 214 = vb (du.2.2) := pg 1 214 (by kernel_rfl) (by kernel_rfl); exact gf 214 pj pb (fin pi rfl)
                      ·intro pc pd pe pg ph Q pi; have pj : pc 214 = vb (du.2.2) := pg 1 214 (by kernel_rfl) (by kernel_rfl); exact gf 214 pj pb (fin pi rfl)
                      ·intro pc pd pe pg ph Q pi; have pj : pc 214 = vb (du.2.2) := pg 1 214 (by kernel_rfl) (by kernel_rfl); exact gf 214 pj pb (fin pi rfl)
                      ·intro pc pd pe pg ph Q pi; have pj : pc 214 = vb (du.2.2) := pg 1 214 (by kernel_rfl) (by kernel_rfl); exact gf 214 pj pb (fin pi rfl)
                      ·intro pc pd pe pg ph Q pi; have pj : pc 214 = vb (du.2.2) := pg 1 214 (by kernel_rfl) (by kernel_rfl); exact gf 214 pj pb (fin pi rfl)
                      ·intro pc pd pe pg ph Q pi; have pj : pc 214 = vb (du.2.2) := pg 1 214 (by kernel_rfl) (by kernel_rfl); exact gf 214 pj pb (fin pi rfl)
                      ·intro pc pd pe pg ph Q pi; have pj : pc 214 = vb (du.2.2) := pg 1 214 (by kernel_rfl) (by kernel_rfl); exact gf 214 pj pb (fin pi rfl)
                      ·intro pc pd pe pg ph Q pi; have pj : pc 214 = vb (du.2.2) := pg 1 214 (by kernel_rfl) (by kernel_rfl); exact gf 214 pj pb (fin pi rfl)
                      ·intro pc pd pe pg ph Q pi; have pj : pc 214 = vb (du.2.2) := pg 1 214 (by kernel_rfl) (by kernel_rfl); exact pf pj pb (rv (vb false)) (fin pi rfl)
                      ·intro pc pd pe pg ph; have pi := Tch.ext p0 pe; have pj : pc 0 = w0 := (ph 0 (by kernel_rfl)).trans dd; have pk : pc 9 = jx := (ph 9 (by kernel_rfl)).trans de; have pl : pc 10 = jy := (ph 10 (by kernel_rfl)).trans df; have pm : pc 19 = vi (c2) := (ph 19 (by kernel_rfl)).trans dg; have pn : pc 20 = vi (tb) := (ph 20 (by kernel_rfl)).trans dh; have po : pc 21 = tw := (ph 21 (by kernel_rfl)).trans di; have pp : pc 23 = Value.pointer (some ⟨cu, 0, none⟩) := (ph 23 (by kernel_rfl)).trans dj; have pq : pc 178 = w0 := (ph 178 (by kernel_rfl)).trans dk; have pr : pc 179 = vi ((a0.length : Int)) := (ph 179 (by kernel_rfl)).trans dl; have ps : pc 180 = vi (tb) := (ph 180 (by kernel_rfl)).trans dm; have pu : pc 185 = tw := (ph 185 (by kernel_rfl)).trans dn; have pv : pc 186 = vi ((ts.length : Int)) := (ph 186 (by kernel_rfl)).trans dp; have pw : pc 187 = vi (c3) := (ph 187 (by kernel_rfl)).trans dq; have py : pc 225 = vb (false) := pg 12 225 (by kernel_rfl); exact then_n ⟨pd, false, rfl, pi, pe.le, Option.some.inj hr, py, pj, pk, pl, pm, pn, po, pp, pq, pr, ps, pu, pv, pw⟩
                    ·rintro pb pc ⟨pd, pa, rfl, pe, pg, p8, ph, pi, pj, pk, pl, pm, pn, po, pp, pq, pr, ps, pu, pv⟩
                     subst p8
                     have hr := p9
                     try dsimp only at hr
                     refine W_cond _ ph (fun pw => ?_) (fun pw => ?_)
                     ·have hr := ite_t pw hr; refine W_exit (then_x (block_here (then_n (W_region ?_)))); obtain ⟨py, hr⟩ := chk_some hr; exact ad pv (rv (vi 1)) py (mv (rv (vi (c3 + 1))) (nn ⟨c4, Nat.lt_succ_self _, ⟨pd, c2, (c3 + 1), rfl, pe, (c9.trans (cv.le.trans (d0.le.trans (db.trans (dy.le.trans pg))))), hr, pl, rfl, pi, pj, pk, pm, pn, pp, pq, pr, ps, pu⟩⟩))
                     ·have hr := ite_f pw hr
                      refine W_skip (then_n (W_seq ?_))
                      obtain ⟨py, pz, q0⟩ := bind_some hr
                      refine W_seq_cut (fun f w => ∃ (s : St) (q1 : Bool), s.w = w ∧ Ext s0 s ∧ Le pd s ∧ q1 = py ∧ f 236 = vb q1 ∧ f 0 = w0 ∧ f 9 = jx ∧ f 10 = jy ∧ f 19 = vi (c2) ∧ f 20 = vi (tb) ∧ f 21 = tw ∧ f 178 = w0 ∧ f 179 = vi ((a0.length : Int)) ∧ f 180 = vi (tb) ∧ f 185 = tw ∧ f 186 = vi ((ts.length : Int)) ∧ f 187 = vi (c3)) ?_ ?_
                      ·have hr := pz
                       refine W_region (mv pl (mv pk (ln Try.underlying40 (rv jy) (k1.mono (kc.trans (ks.trans (gh.trans (gr.le.trans (gx.le.trans (u4.le.trans (um.trans (t2.trans (ti.trans (c9.trans (cv.le.trans (d0.le.trans (db.trans (dy.le.trans pg))))))))))))))) (L_geq (rv (vi c2)) (rv (vi ((jq.2.1.length : Int)))) (by decide) (mv (rv (vb (decide ((jq.2.1.length : Int) ≤ c2)))) ?_)))))
                       rcases tf (decide ((jq.2.1.length : Int) ≤ c2)) with q2 | q2
                       ·have hr := ite_t q2 hr; exact gf 230 (rv (vb (decide ((jq.2.1.length : Int) ≤ c2)))) q2 (gf 230 (rv (vb (decide ((jq.2.1.length : Int) ≤ c2)))) q2 (gf 230 (rv (vb (decide ((jq.2.1.length : Int) ≤ c2)))) q2 (gf 230 (rv (vb (decide ((jq.2.1.length : Int) ≤ c2)))) q2 (gf 230 (rv (vb (decide ((jq.2.1.length : Int) ≤ c2)))) q2 (pt (rv (vb (decide ((jq.2.1.length : Int) ≤ c2)))) q2 (rv (vb true)) (nn ⟨pd, true, rfl, pe, (Le.refl _), Option.some.inj hr, rfl, pi, pj, pk, pl, pm, pn, pp, pq, pr, ps, pu, pv⟩))))))
                       ·have hr := ite_f q2 hr; refine gt 230 (rv (vb (decide ((jq.2.1.length : Int) ≤ c2)))) q2 (mv pk (gt 230 (rv (vb (decide ((jq.2.1.length : Int) ≤ c2)))) q2 (fa fld55_1 Item.of_No po (d1.mono (db.trans (dy.le.trans pg))) (fun q3 q4 => gt 230 (rv (vb (decide ((jq.2.1.length : Int) ≤ c2)))) q2 (li ty3 (rv q3) q4 (gt 230 (rv (vb (decide ((jq.2.1.length : Int) ≤ c2)))) q2 ?_)))))); obtain ⟨q5, q6, hr⟩ := bind_some hr; refine L_calls cal23 (args2 (rv jy) (rv (vi (cn.No)))) (law14_among_ok N _ _ _ (k1.mono (kc.trans (ks.trans (gh.trans (gr.le.trans (gx.le.trans (u4.le.trans (um.trans (t2.trans (ti.trans (c9.trans (cv.le.trans (d0.le.trans (db.trans (dy.le.trans pg))))))))))))))) cn.No q5 q6) (by decide) (fun q7 q8 q9 qa => ?_); have qb := Tch.ext pe q9; obtain rfl := qa.bool; exact gt 230 (rv (vb (decide ((jq.2.1.length : Int) ≤ c2)))) q2 (L_not (rv (vb q5)) (by decide) (pf (rv (vb (decide ((jq.2.1.length : Int) ≤ c2)))) q2 (rv (vb (!q5))) (nn ⟨q8, (!q5), rfl, qb, q9.le, Option.some.inj hr, rfl, pi, pj, pk, pl, pm, pn, pp, pq, pr, ps, pu, pv⟩)))
                      ·rintro q2 q3 ⟨q4, q1, rfl, q5, q6, pz, q7, q8, q9, qa, qb, qc, qd, qe, qf, qg, qh, qi, qj⟩
                       subst pz
                       have hr := q0
                       try dsimp only at hr
                       refine W_cond _ q7 (fun qk => ?_) (fun qk => ?_)
                       ·have hr := ite_t qk hr; refine sr (asg (rv (vb false)) (nn (W_ret (then_r (block_r (then_r (then_r (block_r ?_)))))))); obtain rfl := Option.some.inj hr; have hr := c0; (try dsimp only at hr); refine then_r (block_r (then_r (then_r (block_r ?_)))); obtain rfl := Option.some.inj hr; have hr := t8; (try dsimp only at hr); refine then_r (then_r ?_); obtain rfl := Option.some.inj hr; exact done1 (Or.inl rfl) Try.results5 rfl ⟨_, _, rfl, rfl, q5, Vbool⟩
                       ·have hr := ite_f qk hr; refine W_skip (then_n (W_region (mv qb ?_))); obtain ⟨ql, hr⟩ := chk_some hr; refine ad (rv (vi c2)) (rv (vi 1)) ql (asg (rv (vi (c2 + 1))) (L_nil (block_n (then_n (W_region ?_))))); obtain ⟨qm, hr⟩ := chk_some hr; exact ad qj (rv (vi 1)) qm (mv (rv (vi (c3 + 1))) (nn ⟨c4, Nat.lt_succ_self _, ⟨q4, (c2 + 1), (c3 + 1), rfl, q5, (c9.trans (cv.le.trans (d0.le.trans (db.trans (dy.le.trans (pg.trans q6)))))), hr, rfl, rfl, q8, q9, qa, qc, qd, qe, qf, qg, qh, qi⟩⟩))
                 ·have hr := ite_f cm hr; refine W_exit (then_x (then_x (block_here ?_))); exact then_n ⟨c7, c2, rfl, c8, c9, Option.some.inj hr, ca, cc, cd, ce, ch, ci, cj⟩
               ·rintro c2 c3 ⟨c4, c1, rfl, c5, c6, tz, c7, c8, c9, ca, cb, cc, cd⟩; subst tz; have hr := c0; (try dsimp only at hr); refine block_n (then_n (W_region ?_)); obtain ⟨ce, hr⟩ := chk_some hr; exact ad cd (rv (vi 1)) ce (mv (rv (vi (tb + 1))) (nn ⟨tc, Nat.lt_succ_self _, ⟨c4, c1, (tb + 1), rfl, c5, (ti.trans c6), hr, c7, rfl, c8, c9, ca, cb, cc⟩⟩))
              ·have hr := ite_f tr hr; refine W_exit (then_x (then_x (block_here ?_))); exact then_n ⟨tg, ta, rfl, th, ti, Option.some.inj hr, tj, tn⟩
            ·rintro ta tb ⟨tc, t9, rfl, td, te, t7, tg, th⟩
             subst t7
             have hr := t8
             try dsimp only at hr
             refine then_n (W_seq (sr (asg (rv (vi 1)) (nn ?_))))
             obtain ⟨ti, tj, tk⟩ := bind_some hr
             refine W_cut (fun f w => ∃ (s : St), s.w = w ∧ Ext s0 s ∧ Le tc s ∧ Sum.inl () = ti ∧ f 10 = jy ∧ f 19 = vi (t9)) ?_ ?_
             ·refine W_block (W_loop (fun m f w => ∃ (s : St) (tl : Int), s.w = w ∧ Ext s0 s ∧ Le tc s ∧ law14_CheckConsistent_l6 N jq m tl = some ti ∧ f 27 = vi tl ∧ f 10 = jy ∧ f 19 = vi (t9)) N ⟨tc, 1, rfl, td, (Le.refl _), tj, rfl, th, tg⟩ ?_)
              rintro tm tn tp ⟨tq, tl, rfl, tr, ts, hr, tt, tu, tv⟩
              cases tm with
              | zero => exact absurd hr (by simp [law14_CheckConsistent_l6])
              | succ tm =>
               rw [law14_CheckConsistent_l6.eq_2] at hr
               refine W_seq (sr (mv tt (mv tu (ln Try.underlying40 (rv jy) (k1.mono (kc.trans (ks.trans (gh.trans (gr.le.trans (gx.le.trans (u4.le.trans (um.trans (t2.trans (te.trans ts)))))))))) (ls (rv (vi tl)) (rv (vi ((jq.2.1.length : Int)))) (nn ?_))))))
               refine W_cond _ (rv (vb (decide (tl < (jq.2.1.length : Int))))) (fun tw => ?_) (fun tw => ?_)
               ·have hr := ite_t tw hr
                refine W_skip (then_n (W_seq (W_block (W_seq ?_))))
                obtain ⟨tx, hr⟩ := chk_some hr
                obtain ⟨ty, tz, hr⟩ := bind_some hr
                obtain ⟨c0, c1, hr⟩ := bind_some hr
                refine W_draws mixed (by kernel_rfl) [PV.data (jq.2.1 : List Int), PV.eq (vi tl), PV.eq (vi (tl - 1)), PV.ptr (ty : Int), PV.eq (vi ty), PV.data (jq.2.1 : List Int), PV.eq (vi tl), PV.ptr (c0 : Int), PV.eq (vi c0), PV.eq (vb (decide (c0 ≤ ty)))] (Steps_cons ?_ (Steps_cons ?_ (Steps_cons ?_ (Steps_cons ?_ (Steps_cons ?_ (Steps_cons ?_ (Steps_cons ?_ (Steps_cons ?_ (Steps_cons ?_ (Steps_cons ?_ Steps_nil)))))))))) ?_
                ·intro c2 c3 c4 c5 c6 Q c7; have c8 : c2 10 = jy := (c6 10 (by kernel_rfl)).trans tu; exact mv c8 (fin c7 (k1.mono (kc.trans (ks.trans (gh.trans (gr.le.trans (gx.le.trans (u4.le.trans (um.trans (t2.trans (te.trans (ts.trans c4.le))))))))))))
                ·intro c2 c3 c4 c5 c6 Q c7; have c8 : c2 27 = vi (tl) := (c6 27 (by kernel_rfl)).trans tt; exact mv c8 (fin c7 rfl)
                ·intro c2 c3 c4 c5 c6 Q c7; have c8 : c2 248 = vi (tl) := c5 1 248 (by kernel_rfl) (by kernel_rfl); exact L_sub c8 (rv (vi 1)) tx (by decide) (fin c7 rfl)
                ·intro c2 c3 c4 c5 c6 Q c7; have c8 : V _ (c2 247) (jq.2.1 : List Int) := c5 0 247 (by kernel_rfl) (by kernel_rfl); obtain ⟨c9, ca, cb⟩ : ∃ v, _ = v ∧ V _ v _ := ⟨_, rfl, c8⟩; have cc : c2 249 = vi (tl - 1) := c5 2 249 (by kernel_rfl) (by kernel_rfl); exact ix Try.underlying40 ty3.inf ca cb cc tz (fun cd ce => fin c7 ce)
                ·intro c2 c3 c4 c5 c6 Q c7; have c8 : Ptr _ (c2 250) (ty : Int) := c5 3 250 (by kernel_rfl) (by kernel_rfl); obtain ⟨c9, ca, cb⟩ : ∃ v, _ = v ∧ Ptr _ v _ := ⟨_, rfl, c8⟩; exact li ty3 ca cb (fin c7 rfl)
                ·intro c2 c3 c4 c5 c6 Q c7; have c8 : c2 10 = jy := (c6 10 (by kernel_rfl)).trans tu; exact mv c8 (fin c7 (k1.mono (kc.trans (ks.trans (gh.trans (gr.le.trans (gx.le.trans (u4.le.trans (um.trans (t2.trans (te.trans (ts.trans c4.le))))))))))))
                ·intro c2 c3 c4 c5 c6 Q c7; have c8 : c2 27 = vi (tl) := (c6 27 (by kernel_rfl)).trans tt; exact mv c8 (fin c7 rfl)
                ·intro c2 c3 c4 c5 c6 Q c7; have c8 : V _ (c2 252) (jq.2.1 : List Int) := c5 5 252 (by kernel_rfl) (by kernel_rfl); obtain ⟨c9, ca, cb⟩ : ∃ v, _ = v ∧ V _ v _ := ⟨_, rfl, c8⟩; have cc : c2 253 = vi (tl) := c5 6 253 (by kernel_rfl) (by kernel_rfl); exact ix Try.underlying40 ty3.inf ca cb cc c1 (fun cd ce => fin c7 ce)
                ·intro c2 c3 c4 c5 c6 Q c7; have c8 : Ptr _ (c2 254) (c0 : Int) := c5 7 254 (by kernel_rfl) (by kernel_rfl); obtain ⟨c9, ca, cb⟩ : ∃ v, _ = v ∧ Ptr _ v _ := ⟨_, rfl, c8⟩; exact li ty3 ca cb (fin c7 rfl)
                ·intro c2 c3 c4 c5 c6 Q c7; have c8 : c2 251 = vi (ty) := c5 4 251 (by kernel_rfl) (by kernel_rfl); have c9 : c2 255 = vi (c0) := c5 8 255 (by kernel_rfl) (by kernel_rfl); exact L_geq c8 c9 (by decide) (fin c7 rfl)
                ·intro c2 c3 c4 c5 c6
                 have c7 := Tch.ext tr c4
                 have c8 : c2 10 = jy := (c6 10 (by kernel_rfl)).trans tu
                 have c9 : c2 19 = vi (t9) := (c6 19 (by kernel_rfl)).trans tv
                 have ca : c2 27 = vi (tl) := (c6 27 (by kernel_rfl)).trans tt
                 have cb : c2 256 = vb (decide (c0 ≤ ty)) := c5 9 256 (by kernel_rfl)
                 refine then_n ?_
                 refine W_cond _ cb (fun cc => ?_) (fun cc => ?_)
                 ·have hr := ite_t cc hr; refine sr (asg (rv (vb false)) (nn (W_ret (block_r (then_r (then_r (block_r ?_))))))); obtain rfl := Option.some.inj hr; have hr := tk; (try dsimp only at hr); refine then_r (then_r ?_); obtain rfl := Option.some.inj hr; exact done1 (Or.inl rfl) Try.results5 rfl ⟨_, _, rfl, rfl, c7, Vbool⟩
                 ·have hr := ite_f cc hr; refine W_skip (block_n (then_n (W_region (mv ca ?_)))); obtain ⟨cd, hr⟩ := chk_some hr; exact ad (rv (vi tl)) (rv (vi 1)) cd (asg (rv (vi (tl + 1))) (nn ⟨tm, Nat.lt_succ_self _, ⟨c3, (tl + 1), rfl, c7, (ts.trans c4.le), hr, rfl, c8, c9⟩⟩))
               ·have hr := ite_f tw hr; refine W_exit (then_x (then_x (block_here ?_))); exact then_n ⟨tq, rfl, tr, ts, Option.some.inj hr, tu, tv⟩
             ·rintro tl tm ⟨tn, rfl, tp, tq, tj, tr, ts⟩
              subst tj
              have hr := tk
              try dsimp only at hr
              refine then_n (sr (mv ts (mv tr (ln Try.underlying40 (rv jy) (k1.mono (kc.trans (ks.trans (gh.trans (gr.le.trans (gx.le.trans (u4.le.trans (um.trans (t2.trans (te.trans tq)))))))))) (el (rv (vi t9)) (rv (vi ((jq.2.1.length : Int)))) (mv (rv (vb (decide (t9 = (jq.2.1.length : Int))))) ?_))))))
              rcases tf (decide (t9 = (jq.2.1.length : Int))) with tt | tt
              ·have hr := ite_t tt hr; refine gt 261 (rv (vb (decide (t9 = (jq.2.1.length : Int))))) tt ?_; obtain ⟨tu, tv, hr⟩ := bind_some hr; refine L_calls cal9 (args0) (law14_works_ok N _  tu tv) (by decide) (fun tw tx ty tz => ?_); have c0 := Tch.ext tp ty; obtain rfl := tz.bool; refine pt (rv (vb (decide (t9 = (jq.2.1.length : Int))))) tt (rv (vb tu)) (asg (rv (vb tu)) (nn (W_ret ?_))); obtain rfl := Option.some.inj hr; exact done1 (Or.inl rfl) Try.results5 rfl ⟨_, _, rfl, rfl, c0, Vbool⟩
              ·have hr := ite_f tt hr; refine gf 261 (rv (vb (decide (t9 = (jq.2.1.length : Int))))) tt (pf (rv (vb (decide (t9 = (jq.2.1.length : Int))))) tt (rv (vb false)) (asg (rv (vb false)) (nn (W_ret ?_)))); obtain rfl := Option.some.inj hr; exact done1 (Or.inl rfl) Try.results5 rfl ⟨_, _, rfl, rfl, tp, Vbool⟩

end Go.Arm
