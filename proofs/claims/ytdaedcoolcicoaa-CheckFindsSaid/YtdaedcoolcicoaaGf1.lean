/- Plain laws. -/
import Derived.Test.YtdaedcoolcicoaaCoreU
import Derived.KernelRfl
namespace Go.Gf
open Go

def expL : List Nat := [1, 2, 4, 8, 16, 32, 64, 128, 29, 58, 116, 232, 205, 135, 19, 38, 76, 152, 45, 90, 180, 117, 234, 201, 143, 3, 6, 12, 24, 48, 96, 192, 157, 39, 78, 156, 37, 74, 148, 53, 106, 212, 181, 119, 238, 193, 159, 35, 70, 140, 5, 10, 20, 40, 80, 160, 93, 186, 105, 210, 185, 111, 222, 161, 95, 190, 97, 194, 153, 47, 94, 188, 101, 202, 137, 15, 30, 60, 120, 240, 253, 231, 211, 187, 107, 214, 177, 127, 254, 225, 223, 163, 91, 182, 113, 226, 217, 175, 67, 134, 17, 34, 68, 136, 13, 26, 52, 104, 208, 189, 103, 206, 129, 31, 62, 124, 248, 237, 199, 147, 59, 118, 236, 197, 151, 51, 102, 204, 133, 23, 46, 92, 184, 109, 218, 169, 79, 158, 33, 66, 132, 21, 42, 84, 168, 77, 154, 41, 82, 164, 85, 170, 73, 146, 57, 114, 228, 213, 183, 115, 230, 209, 191, 99, 198, 145, 63, 126, 252, 229, 215, 179, 123, 246, 241, 255, 227, 219, 171, 75, 150, 49, 98, 196, 149, 55, 110, 220, 165, 87, 174, 65, 130, 25, 50, 100, 200, 141, 7, 14, 28, 56, 112, 224, 221, 167, 83, 166, 81, 162, 89, 178, 121, 242, 249, 239, 195, 155, 43, 86, 172, 69, 138, 9, 18, 36, 72, 144, 61, 122, 244, 245, 247, 243, 251, 235, 203, 139, 11, 22, 44, 88, 176, 125, 250, 233, 207, 131, 27, 54, 108, 216, 173, 71, 142]
def logL : List Nat := [0, 0, 1, 25, 2, 50, 26, 198, 3, 223, 51, 238, 27, 104, 199, 75, 4, 100, 224, 14, 52, 141, 239, 129, 28, 193, 105, 248, 200, 8, 76, 113, 5, 138, 101, 47, 225, 36, 15, 33, 53, 147, 142, 218, 240, 18, 130, 69, 29, 181, 194, 125, 106, 39, 249, 185, 201, 154, 9, 120, 77, 228, 114, 166, 6, 191, 139, 98, 102, 221, 48, 253, 226, 152, 37, 179, 16, 145, 34, 136, 54, 208, 148, 206, 143, 150, 219, 189, 241, 210, 19, 92, 131, 56, 70, 64, 30, 66, 182, 163, 195, 72, 126, 110, 107, 58, 40, 84, 250, 133, 186, 61, 202, 94, 155, 159, 10, 21, 121, 43, 78, 212, 229, 172, 115, 243, 167, 87, 7, 112, 192, 247, 140, 128, 99, 13, 103, 74, 222, 237, 49, 197, 254, 24, 227, 165, 153, 119, 38, 184, 180, 124, 17, 68, 146, 217, 35, 32, 137, 46, 55, 63, 209, 91, 149, 188, 207, 205, 144, 135, 151, 178, 220, 252, 190, 97, 242, 86, 211, 171, 20, 42, 93, 158, 132, 60, 57, 83, 71, 109, 65, 162, 31, 45, 67, 216, 183, 123, 164, 118, 196, 23, 73, 236, 127, 12, 111, 246, 108, 161, 59, 82, 41, 157, 85, 170, 251, 96, 134, 177, 187, 204, 62, 90, 203, 89, 95, 176, 156, 169, 160, 81, 11, 245, 22, 235, 122, 117, 44, 215, 79, 174, 213, 233, 230, 231, 173, 232, 116, 214, 244, 234, 168, 80, 88, 175]
/-- The powers of 2, and their logarithms. -/
def ex (k : Nat) : Nat := expL.getD (k % 255) 0
def lg (a : Nat) : Nat := logL.getD a 0
/-- The product. -/
def gmC (a b : Nat) : Nat := if a = 0 ∨ b = 0 then 0 else ex (lg a + lg b)
def ginvC (a : Nat) : Nat := ex (255 - lg a)
theorem is_gm : ∃ g, g = gmC := ⟨gmC, rfl⟩
theorem is_ginv : ∃ g, g = ginvC := ⟨ginvC, rfl⟩
/-- The same, not to be computed. -/
noncomputable def gm : Nat → Nat → Nat := Classical.choose is_gm
noncomputable def ginv : Nat → Nat := Classical.choose is_ginv
theorem gm_is : gm = gmC := Classical.choose_spec is_gm
theorem ginv_is : ginv = ginvC := Classical.choose_spec is_ginv
def xt (a : Nat) : Nat := if 2 * a < 256 then 2 * a else (2 * a) ^^^ 285

theorem ex_lg_c : ((List.range 256).all fun a => a == 0 || (ex (lg a) == a && decide (lg a < 255))) = true := by kernel_rfl
theorem lg_ex_c : ((List.range 255).all fun i => lg (ex i) == i && ex i != 0 && decide (ex i < 256)) = true := by kernel_rfl
theorem xt_c : ((List.range 256).all fun a => gmC 2 a == xt a) = true := by kernel_rfl
theorem xt_lin_c : ((List.range 256).all fun a => (List.range 256).all fun b => xt (a ^^^ b) == (xt a ^^^ xt b)) = true := by kernel_rfl
theorem all_of {p : Nat → Bool} {n : Nat} (h : ((List.range n).all p) = true) {a : Nat} (ha : a < n) : p a = true := List.all_eq_true.1 h a (List.mem_range.2 ha)

theorem ex_lg {a : Nat} (h : a < 256) (h0 : a ≠ 0) : ex (lg a) = a ∧ lg a < 255 := by
  have := all_of ex_lg_c h
  simp only [Bool.or_eq_true, beq_iff_eq, Bool.and_eq_true, decide_eq_true_eq] at this
  exact this.resolve_left h0
theorem ex_mod (k : Nat) : ex k = ex (k % 255) := by unfold ex; rw [Nat.mod_mod]
theorem lg_ex (k : Nat) : lg (ex k) = k % 255 ∧ ex k ≠ 0 ∧ ex k < 256 := by
  have := all_of lg_ex_c (Nat.mod_lt k (by decide : 0 < 255))
  simp only [Bool.and_eq_true, beq_iff_eq, bne_iff_ne, decide_eq_true_eq] at this
  rw [ex_mod k]
  exact ⟨this.1.1, this.1.2, this.2⟩
theorem gm_zero (a : Nat) : gm a 0 = 0 := by rw [gm_is]; unfold gmC; rw [if_pos (.inr rfl)]
theorem zero_gm (a : Nat) : gm 0 a = 0 := by rw [gm_is]; unfold gmC; rw [if_pos (.inl rfl)]
theorem gm_comm (a b : Nat) : gm a b = gm b a := by
  rw [gm_is]
  unfold gmC
  rw [Nat.add_comm]
  by_cases ha : a = 0 <;> by_cases hb : b = 0 <;> simp [ha, hb]
theorem gm_lt (a b : Nat) : gm a b < 256 := by
  rw [gm_is]
  unfold gmC
  split
  · decide
  · exact (lg_ex _).2.2
theorem gm_ne {a b : Nat} (ha : a ≠ 0) (hb : b ≠ 0) : gm a b ≠ 0 := by
  rw [gm_is]
  unfold gmC
  rw [if_neg (by rintro (h | h); exact ha h; exact hb h)]
  exact (lg_ex _).2.1
theorem gm_eq {a b : Nat} (ha : a ≠ 0) (hb : b ≠ 0) : gm a b = ex (lg a + lg b) := by
  rw [gm_is]; unfold gmC; rw [if_neg (by rintro (h | h); exact ha h; exact hb h)]
theorem gm_assoc (a b c : Nat) : gm (gm a b) c = gm a (gm b c) := by
  by_cases ha : a = 0
  · subst ha; rw [zero_gm, zero_gm, zero_gm]
  · by_cases hb : b = 0
    · subst hb; rw [gm_zero, zero_gm, gm_zero]
    · by_cases hc : c = 0
      · subst hc; rw [gm_zero, gm_zero, gm_zero]
      · rw [gm_eq (gm_ne ha hb) hc, gm_eq ha (gm_ne hb hc), gm_eq ha hb, gm_eq hb hc, (lg_ex _).1, (lg_ex _).1, ex_mod, ex_mod (lg a + _)]
        congr 1
        omega
theorem lg_one : lg 1 = 0 := by decide
theorem gm_one {a : Nat} (h : a < 256) : gm a 1 = a := by
  by_cases ha : a = 0
  · subst ha; exact zero_gm 1
  · rw [gm_eq ha (by decide), lg_one, Nat.add_zero]; exact (ex_lg h ha).1
theorem ex_zero : ex 0 = 1 := by decide
theorem gm_ginv {a : Nat} (h : a < 256) (h0 : a ≠ 0) : gm a (ginv a) = 1 := by
  rw [ginv_is]
  unfold ginvC
  obtain ⟨_, hl⟩ := ex_lg h h0
  rw [gm_eq h0 (lg_ex _).2.1, (lg_ex _).1, ex_mod, ← ex_zero]
  congr 1
  omega
theorem ginv_lt (a : Nat) : ginv a < 256 := by rw [ginv_is]; exact (lg_ex _).2.2
theorem ginv_ne (a : Nat) : ginv a ≠ 0 := by rw [ginv_is]; exact (lg_ex _).2.1
theorem xor_lt {a b : Nat} (ha : a < 256) (hb : b < 256) : a ^^^ b < 256 := Nat.xor_lt_two_pow (n := 8) ha hb
theorem two_gm {a : Nat} (h : a < 256) : gm 2 a = xt a := by
  have := all_of xt_c h
  rw [gm_is]
  simpa using this
theorem xt_lin {a b : Nat} (ha : a < 256) (hb : b < 256) : xt (a ^^^ b) = xt a ^^^ xt b := by
  have := all_of (all_of xt_lin_c ha) hb
  simpa using this
theorem lg_two : lg 2 = 1 := by decide
theorem ex_succ (k : Nat) : ex (k + 1) = gm 2 (ex k) := by
  rw [gm_eq (by decide) (lg_ex k).2.1, (lg_ex k).1, lg_two, ex_mod, ex_mod (1 + _)]
  congr 1; omega
theorem ex_gm_lin {a b : Nat} (ha : a < 256) (hb : b < 256) : ∀ k, gm (ex k) (a ^^^ b) = gm (ex k) a ^^^ gm (ex k) b
  | 0 => by rw [ex_zero, gm_comm, gm_one (xor_lt ha hb), gm_comm 1 a, gm_one ha, gm_comm 1 b, gm_one hb]
  | k + 1 => by
    rw [ex_succ, gm_assoc, gm_assoc, gm_assoc, ex_gm_lin ha hb k, two_gm (xor_lt (gm_lt _ _) (gm_lt _ _)), two_gm (gm_lt _ _), two_gm (gm_lt _ _), xt_lin (gm_lt _ _) (gm_lt _ _)]
theorem gm_xor {a b c : Nat} (ha : a < 256) (hb : b < 256) (hc : c < 256) : gm a (b ^^^ c) = gm a b ^^^ gm a c := by
  by_cases h : a = 0
  · subst h; rw [zero_gm, zero_gm, zero_gm]; rfl
  · rw [← (ex_lg ha h).1]; exact ex_gm_lin hb hc _
theorem xor_gm {a b c : Nat} (ha : a < 256) (hb : b < 256) (hc : c < 256) : gm (b ^^^ c) a = gm b a ^^^ gm c a := by
  rw [gm_comm, gm_xor ha hb hc, gm_comm a b, gm_comm a c]
theorem gm_cancel {a b c : Nat} (ha : a < 256) (h0 : a ≠ 0) (hb : b < 256) (hc : c < 256) (h : gm a b = gm a c) : b = c := by
  have h1 : gm (ginv a) (gm a b) = gm (ginv a) (gm a c) := by rw [h]
  rw [← gm_assoc, ← gm_assoc, gm_comm (ginv a) a, gm_ginv ha h0, gm_comm 1 b, gm_one hb, gm_comm 1 c, gm_one hc] at h1
  exact h1
theorem gm_eq_zero {a b : Nat} (h : gm a b = 0) : a = 0 ∨ b = 0 := by
  by_cases ha : a = 0
  · exact .inl ha
  · by_cases hb : b = 0
    · exact .inr hb
    · exact absurd h (gm_ne ha hb)
theorem xor_self (a : Nat) : a ^^^ a = 0 := Nat.xor_self a
theorem xor_eq_zero {a b : Nat} (h : a ^^^ b = 0) : a = b := by
  have : (a ^^^ b) ^^^ b = 0 ^^^ b := by rw [h]
  rw [Nat.xor_assoc, Nat.xor_self, Nat.xor_zero, Nat.zero_xor] at this
  exact this

/-! Sums. -/
def lsum (l : List Nat) (f : Nat → Nat) : Nat := l.foldr (fun y s => f y ^^^ s) 0
theorem lsum_nil (f : Nat → Nat) : lsum [] f = 0 := rfl
theorem lsum_cons (y : Nat) (l : List Nat) (f : Nat → Nat) : lsum (y :: l) f = f y ^^^ lsum l f := rfl
theorem lsum_lt {f : Nat → Nat} : ∀ (l : List Nat), (∀ y, y ∈ l → f y < 256) → lsum l f < 256
  | [], _ => by show 0 < 256; decide
  | y :: l, h => xor_lt (h y (by simp)) (lsum_lt l (fun z hz => h z (by simp [hz])))
theorem xor4 (a b c d : Nat) : (a ^^^ b) ^^^ (c ^^^ d) = (a ^^^ c) ^^^ (b ^^^ d) := by
  rw [Nat.xor_assoc, Nat.xor_assoc, ← Nat.xor_assoc b, Nat.xor_comm b c, Nat.xor_assoc c]
theorem lsum_xor (f g : Nat → Nat) : ∀ l, lsum l (fun y => f y ^^^ g y) = lsum l f ^^^ lsum l g
  | [] => by show 0 = 0 ^^^ 0; decide
  | y :: l => by rw [lsum_cons, lsum_cons, lsum_cons, lsum_xor f g l, xor4]
theorem lsum_gm {c : Nat} (hc : c < 256) {f : Nat → Nat} : ∀ (l : List Nat), (∀ y, y ∈ l → f y < 256) → lsum l (fun y => gm c (f y)) = gm c (lsum l f)
  | [], _ => (gm_zero c).symm
  | y :: l, h => by
    rw [lsum_cons, lsum_cons, lsum_gm hc l (fun z hz => h z (by simp [hz])), gm_xor hc (h y (by simp)) (lsum_lt l (fun z hz => h z (by simp [hz])))]
theorem lsum_congr {f g : Nat → Nat} : ∀ (l : List Nat), (∀ y, y ∈ l → f y = g y) → lsum l f = lsum l g
  | [], _ => rfl
  | y :: l, h => by rw [lsum_cons, lsum_cons, h y (by simp), lsum_congr l (fun z hz => h z (by simp [hz]))]
theorem lsum_zero : ∀ (l : List Nat), lsum l (fun _ => 0) = 0
  | [] => rfl
  | y :: l => by rw [lsum_cons, lsum_zero l]; rfl

theorem inv_part {x y z : Nat} (hx : x < 256) (hy : y < 256) (hz : z < 256) (hxy : x ^^^ y ≠ 0) : gm (x ^^^ z) (ginv (x ^^^ y)) = 1 ^^^ gm (y ^^^ z) (ginv (x ^^^ y)) := by
  have e : x ^^^ z = (x ^^^ y) ^^^ (y ^^^ z) := by
    rw [Nat.xor_assoc, ← Nat.xor_assoc y y z, Nat.xor_self, Nat.zero_xor]
  rw [e, xor_gm (ginv_lt _) (xor_lt hx hy) (xor_lt hy hz), gm_ginv (xor_lt hx hy) hxy]
theorem inv_diff {a b : Nat} (ha : a < 256) (hb : b < 256) (h1 : a ≠ 0) (h2 : b ≠ 0) : ginv a ^^^ ginv b = gm (a ^^^ b) (gm (ginv a) (ginv b)) := by
  rw [xor_gm (gm_lt _ _) ha hb, ← gm_assoc, gm_ginv ha h1, gm_comm 1, gm_one (ginv_lt b), gm_comm (ginv a) (ginv b), ← gm_assoc, gm_ginv hb h2, gm_comm 1, gm_one (ginv_lt a), Nat.xor_comm]

/-- Square parts of a Cauchy matrix are regular. -/
theorem cauchy : ∀ (X Y : List Nat) (v : Nat → Nat), X.length = Y.length → X.Nodup → Y.Nodup → (∀ x, x ∈ X → x < 256) → (∀ y, y ∈ Y → y < 256) → (∀ x, x ∈ X → ∀ y, y ∈ Y → x ^^^ y ≠ 0) → (∀ y, y ∈ Y → v y < 256) →
    (∀ x, x ∈ X → lsum Y (fun y => gm (v y) (ginv (x ^^^ y))) = 0) → ∀ y, y ∈ Y → v y = 0
  | _, [], _, _, _, _, _, _, _, _, _ => fun y hy => by simp at hy
  | [], _ :: _, _, h, _, _, _, _, _, _, _ => by simp at h
  | x0 :: X, y0 :: Y, v, hl, nX, nY, hX, hY, hne, hv, heq => by
    rw [List.nodup_cons] at nX nY
    have hx0 := hX x0 (by simp)
    have hy0 := hY y0 (by simp)
    have hv0 := hv y0 (by simp)
    have hYl : ∀ y, y ∈ Y → y < 256 := fun y hy => hY y (by simp [hy])
    have hvl : ∀ y, y ∈ Y → v y < 256 := fun y hy => hv y (by simp [hy])
    -- an equation, multiplied
    have key : ∀ x, x ∈ x0 :: X → (v y0 ^^^ lsum Y v) ^^^ lsum Y (fun y => gm (gm (v y) (y ^^^ y0)) (ginv (x ^^^ y))) = 0 := by
      intro x hx
      have hxl := hX x hx
      have h1 := heq x hx
      rw [lsum_cons] at h1
      have h2 : gm (x ^^^ y0) (gm (v y0) (ginv (x ^^^ y0)) ^^^ lsum Y (fun y => gm (v y) (ginv (x ^^^ y)))) = 0 := by rw [h1, gm_zero]
      rw [gm_xor (xor_lt hxl hy0) (gm_lt _ _) (lsum_lt Y (fun y _ => gm_lt _ _)), ← lsum_gm (xor_lt hxl hy0) Y (fun y _ => gm_lt _ _)] at h2
      have h3 : gm (x ^^^ y0) (gm (v y0) (ginv (x ^^^ y0))) = v y0 := by
        rw [gm_comm (v y0), ← gm_assoc, gm_ginv (xor_lt hxl hy0) (hne x hx y0 (by simp)), gm_comm, gm_one hv0]
      rw [h3, lsum_congr (g := fun y => v y ^^^ gm (gm (v y) (y ^^^ y0)) (ginv (x ^^^ y))) Y ?_, lsum_xor, ← Nat.xor_assoc] at h2
      · exact h2
      · intro y hy
        rw [gm_comm (v y), ← gm_assoc, inv_part hxl (hYl y hy) hy0 (hne x hx y (by simp [hy])), xor_gm (hvl y hy) (by decide) (gm_lt _ _), gm_comm 1, gm_one (hvl y hy), gm_comm (gm (y ^^^ y0) _) (v y), ← gm_assoc]
    have rec_ : ∀ y, y ∈ Y → gm (gm (v y) (y ^^^ y0)) (ginv (x0 ^^^ y)) = 0 := by
      refine cauchy X Y (fun y => gm (gm (v y) (y ^^^ y0)) (ginv (x0 ^^^ y))) (by simpa using hl) nX.2 nY.2 (fun x hx => hX x (by simp [hx])) hYl (fun x hx y hy => hne x (by simp [hx]) y (by simp [hy])) (fun y _ => gm_lt _ _) ?_
      intro x hx
      have hxl := hX x (by simp [hx])
      have e1 := key x (by simp [hx])
      have e2 := key x0 (by simp)
      have e3 : lsum Y (fun y => gm (gm (v y) (y ^^^ y0)) (ginv (x ^^^ y))) = lsum Y (fun y => gm (gm (v y) (y ^^^ y0)) (ginv (x0 ^^^ y))) := by
        rw [← xor_eq_zero e1, ← xor_eq_zero e2]
      have e4 : lsum Y (fun y => gm (gm (v y) (y ^^^ y0)) (ginv (x ^^^ y)) ^^^ gm (gm (v y) (y ^^^ y0)) (ginv (x0 ^^^ y))) = 0 := by rw [lsum_xor, e3, Nat.xor_self]
      rw [lsum_congr (g := fun y => gm (x ^^^ x0) (gm (gm (gm (v y) (y ^^^ y0)) (ginv (x0 ^^^ y))) (ginv (x ^^^ y)))) Y ?_, lsum_gm (xor_lt hxl hx0) Y (fun y _ => gm_lt _ _)] at e4
      · rcases gm_eq_zero e4 with h | h
        · exact absurd (xor_eq_zero h) (fun e => nX.1 (e ▸ hx))
        · exact h
      · intro y hy
        have a1 := xor_lt hxl (hYl y hy)
        have a2 := xor_lt hx0 (hYl y hy)
        rw [← gm_xor (gm_lt _ _) (ginv_lt _) (ginv_lt _), inv_diff a1 a2 (hne x (by simp [hx]) y (by simp [hy])) (hne x0 (by simp) y (by simp [hy]))]
        have e5 : (x ^^^ y) ^^^ (x0 ^^^ y) = x ^^^ x0 := by rw [xor4, Nat.xor_self, Nat.xor_zero]
        rw [e5]
        generalize gm (v y) (y ^^^ y0) = p
        generalize ginv (x ^^^ y) = q
        generalize ginv (x0 ^^^ y) = s
        rw [← gm_assoc, gm_comm p (x ^^^ x0), gm_assoc, gm_assoc, gm_comm q s]
    have hz : ∀ y, y ∈ Y → v y = 0 := by
      intro y hy
      rcases gm_eq_zero (rec_ y hy) with h | h
      · rcases gm_eq_zero h with h | h
        · exact h
        · exact absurd (xor_eq_zero h) (fun e => nY.1 (e ▸ hy))
      · exact absurd h (ginv_ne _)
    intro y hy
    rcases List.mem_cons.1 hy with rfl | hy
    · have h1 := heq x0 (by simp)
      rw [lsum_cons, lsum_congr (g := fun _ => 0) Y (fun y hy => by rw [hz y hy, zero_gm]), lsum_zero, Nat.xor_zero] at h1
      rcases gm_eq_zero h1 with h | h
      · exact h
      · exact absurd h (ginv_ne _)
    · exact hz y hy
end Go.Gf
namespace Go.Gf
open Go

abbrev Row := List Nat
abbrev Mx := List Row
def rw_ (R : Mx) (r : Nat) : Row := R.getD r []
def en (R : Mx) (r j : Nat) : Nat := (rw_ R r).getD j 0
noncomputable def axpy (f : Nat) (l to : Row) : Row := List.zipWith (fun t y => t ^^^ gm y f) to l
noncomputable def scl (f : Nat) (l : Row) : Row := l.map (fun y => gm y f)
def swp (R : Mx) (p c : Nat) : Mx := (R.set c (rw_ R p)).set p (rw_ R c)
noncomputable def elimS (c : Nat) : Nat → Nat → Mx → Mx → Mx × Mx
  | 0, _, R, L => (R, L)
  | n + 1, r, R, L => if r = c then elimS c n (r + 1) R L else
    elimS c n (r + 1) (R.set r (axpy (en R r c) (rw_ R c) (rw_ R r))) (L.set r (axpy (en R r c) (rw_ L c) (rw_ L r)))
def findS (R : Mx) (c : Nat) : Nat → Nat → Nat
  | 0, p => p
  | n + 1, p => if en R p c = 0 then findS R c n (p + 1) else p
noncomputable def stepS (k c : Nat) (R L : Mx) : Mx × Mx :=
  let p := findS R c (k - c) c
  let R1 := swp R p c
  let L1 := swp L p c
  let f := ginv (en R1 c c)
  elimS c k 0 (R1.set c (scl f (rw_ R1 c))) (L1.set c (scl f (rw_ L1 c)))
noncomputable def solveS (k : Nat) : Nat → Nat → Mx → Mx → Mx
  | 0, _, _, L => L
  | n + 1, c, R, L => solveS k n (c + 1) (stepS k c R L).1 (stepS k c R L).2

/-- k rows of s bytes. -/
def Shape (k s : Nat) (R : Mx) : Prop := R.length = k ∧ ∀ r, r < k → (rw_ R r).length = s ∧ ∀ x, x ∈ rw_ R r → x < 256
theorem rw_lt {R : Mx} {r : Nat} (h : r < R.length) : rw_ R r = R[r] := by unfold rw_; rw [List.getD_eq_getElem?_getD, List.getElem?_eq_getElem h]; rfl
theorem rw_set {R : Mx} {i r : Nat} {x : Row} (h : i < R.length) : rw_ (R.set i x) r = if r = i then x else rw_ R r := by
  unfold rw_
  rw [List.getD_eq_getElem?_getD, List.getD_eq_getElem?_getD, List.getElem?_set]
  by_cases e : i = r
  · subst e; simp [h]
  · rw [if_neg e, if_neg (fun e' => e e'.symm)]
theorem rw_swp {R : Mx} {p c r : Nat} (hp : p < R.length) (hc : c < R.length) : rw_ (swp R p c) r = if r = p then rw_ R c else if r = c then rw_ R p else rw_ R r := by
  unfold swp
  rw [rw_set (by simpa using hp), rw_set hc]
theorem len_swp (R : Mx) (p c : Nat) : (swp R p c).length = R.length := by simp [swp]
theorem getD_lt {l : Row} (h : ∀ x, x ∈ l → x < 256) (j : Nat) : l.getD j 0 < 256 := by
  rw [List.getD_eq_getElem?_getD]
  by_cases hj : j < l.length
  · rw [List.getElem?_eq_getElem hj]; exact h _ (List.getElem_mem hj)
  · rw [List.getElem?_eq_none (by omega)]; show 0 < 256; decide
theorem Shape.en_lt {k s : Nat} {R : Mx} (h : Shape k s R) {r : Nat} (hr : r < k) (j : Nat) : en R r j < 256 := getD_lt (h.2 r hr).2 j
theorem scl_getD (f : Nat) (l : Row) (j : Nat) : (scl f l).getD j 0 = gm (l.getD j 0) f := by
  unfold scl
  rw [List.getD_eq_getElem?_getD, List.getD_eq_getElem?_getD, List.getElem?_map]
  by_cases hj : j < l.length
  · rw [List.getElem?_eq_getElem hj]; rfl
  · rw [List.getElem?_eq_none (by omega)]; simp [zero_gm]
theorem axpy_getD {f : Nat} {l to : Row} (h : to.length = l.length) (j : Nat) : (axpy f l to).getD j 0 = to.getD j 0 ^^^ gm (l.getD j 0) f := by
  unfold axpy
  rw [List.getD_eq_getElem?_getD, List.getD_eq_getElem?_getD, List.getD_eq_getElem?_getD, List.getElem?_zipWith]
  by_cases hj : j < l.length
  · rw [List.getElem?_eq_getElem hj, List.getElem?_eq_getElem (by omega)]; rfl
  · rw [List.getElem?_eq_none (by omega : to.length ≤ j), List.getElem?_eq_none (by omega : l.length ≤ j)]; simp [zero_gm]
theorem scl_len (f : Nat) (l : Row) : (scl f l).length = l.length := by simp [scl]
theorem axpy_len {f : Nat} {l to : Row} (h : to.length = l.length) : (axpy f l to).length = to.length := by simp [axpy, h]
theorem scl_lt (f : Nat) (l : Row) : ∀ x, x ∈ scl f l → x < 256 := by
  intro x hx
  simp only [scl, List.mem_map] at hx
  obtain ⟨y, _, rfl⟩ := hx
  exact gm_lt _ _
theorem axpy_lt (f : Nat) : ∀ (to l : Row), (∀ x, x ∈ to → x < 256) → ∀ x, x ∈ axpy f l to → x < 256
  | [], _, _, x, hx => by simp [axpy] at hx
  | t :: to, [], _, x, hx => by simp [axpy] at hx
  | t :: to, y :: l, h, x, hx => by
    simp only [axpy, List.zipWith_cons_cons, List.mem_cons] at hx
    rcases hx with rfl | hx
    · exact xor_lt (h t (by simp)) (gm_lt _ _)
    · exact axpy_lt f to l (fun z hz => h z (by simp [hz])) x hx

theorem Shape.set {k s : Nat} {R : Mx} (h : Shape k s R) {i : Nat} {x : Row} (hi : i < k) (hl : x.length = s) (hx : ∀ y, y ∈ x → y < 256) : Shape k s (R.set i x) := by
  refine ⟨by simpa using h.1, fun r hr => ?_⟩
  rw [rw_set (by rw [h.1]; exact hi)]
  split
  · exact ⟨hl, hx⟩
  · exact h.2 r hr
theorem Shape.swp {k s : Nat} {R : Mx} (h : Shape k s R) {p c : Nat} (hp : p < k) (hc : c < k) : Shape k s (swp R p c) := by
  refine ⟨by rw [len_swp]; exact h.1, fun r hr => ?_⟩
  rw [rw_swp (by rw [h.1]; exact hp) (by rw [h.1]; exact hc)]
  split
  · exact h.2 c hc
  · split
    · exact h.2 p hp
    · exact h.2 r hr
theorem Shape.axpy_ok {k s : Nat} {R : Mx} (h : Shape k s R) {f r c : Nat} (hr : r < k) (hc : c < k) : (axpy f (rw_ R c) (rw_ R r)).length = s ∧ ∀ x, x ∈ axpy f (rw_ R c) (rw_ R r) → x < 256 :=
  ⟨by rw [axpy_len (by rw [(h.2 r hr).1, (h.2 c hc).1])]; exact (h.2 r hr).1, axpy_lt f _ _ (h.2 r hr).2⟩

/-! The kernel. -/
noncomputable def dot (k : Nat) (row : Row) (v : Nat → Nat) : Nat := lsum (List.range k) fun j => gm (row.getD j 0) (v j)
def Ker (k : Nat) (R : Mx) : Prop := ∀ v : Nat → Nat, (∀ j, j < k → v j < 256) → (∀ r, r < k → dot k (rw_ R r) v = 0) → ∀ j, j < k → v j = 0
theorem dot_scl {k f : Nat} (hf : f < 256) (row : Row) (v : Nat → Nat) : dot k (scl f row) v = gm f (dot k row v) := by
  unfold dot
  rw [← lsum_gm hf _ (fun _ _ => gm_lt _ _)]
  refine lsum_congr _ (fun j _ => ?_)
  rw [scl_getD, gm_comm _ f, gm_assoc]
theorem dot_axpy {k f : Nat} (hf : f < 256) {l to : Row} (h : to.length = l.length) (ht : ∀ x, x ∈ to → x < 256) (v : Nat → Nat) (hv : ∀ j, j < k → v j < 256) : dot k (axpy f l to) v = dot k to v ^^^ gm f (dot k l v) := by
  unfold dot
  rw [← lsum_gm hf _ (fun _ _ => gm_lt _ _), ← lsum_xor]
  refine lsum_congr _ (fun j hj => ?_)
  rw [axpy_getD h, xor_gm (hv j (List.mem_range.1 hj)) (getD_lt ht j) (gm_lt _ _), gm_comm _ f, gm_assoc]
theorem Ker.swp {k s : Nat} {R : Mx} (hs : Shape k s R) (h : Ker k R) {p c : Nat} (hp : p < k) (hc : c < k) : Ker k (swp R p c) := by
  intro v hv hr
  refine h v hv (fun r hrk => ?_)
  have h1 := hr (if r = p then c else if r = c then p else r) (by split; exact hc; split; exact hp; exact hrk)
  rw [rw_swp (by rw [hs.1]; exact hp) (by rw [hs.1]; exact hc)] at h1
  by_cases e1 : r = p
  · subst e1
    rw [if_pos rfl] at h1
    by_cases e2 : c = r
    · subst e2; rw [if_pos rfl] at h1; exact h1
    · rw [if_neg e2, if_pos rfl] at h1; exact h1
  · rw [if_neg e1] at h1
    by_cases e2 : r = c
    · subst e2; rw [if_pos rfl, if_pos rfl] at h1; exact h1
    · rw [if_neg e2, if_neg e1, if_neg e2] at h1; exact h1
theorem Ker.scl {k s : Nat} {R : Mx} (hs : Shape k s R) (h : Ker k R) {c f : Nat} (hc : c < k) (hf : f < 256) (h0 : f ≠ 0) : Ker k (R.set c (scl f (rw_ R c))) := by
  intro v hv hr
  refine h v hv (fun r hrk => ?_)
  have h1 := hr r hrk
  rw [rw_set (by rw [hs.1]; exact hc)] at h1
  by_cases e : r = c
  · subst e
    rw [if_pos rfl, dot_scl hf] at h1
    exact (gm_eq_zero h1).resolve_left h0
  · rw [if_neg e] at h1; exact h1
theorem Ker.axpy {k s : Nat} {R : Mx} (hs : Shape k s R) (h : Ker k R) {c r f : Nat} (hc : c < k) (hr : r < k) (hrc : r ≠ c) (hf : f < 256) : Ker k (R.set r (axpy f (rw_ R c) (rw_ R r))) := by
  intro v hv hq
  have hset : ∀ q, rw_ (R.set r (Gf.axpy f (rw_ R c) (rw_ R r))) q = if q = r then Gf.axpy f (rw_ R c) (rw_ R r) else rw_ R q := fun q => rw_set (by rw [hs.1]; exact hr)
  have hcz := hq c hc
  rw [hset, if_neg (fun e => hrc e.symm)] at hcz
  refine h v hv (fun q hqk => ?_)
  have h1 := hq q hqk
  rw [hset] at h1
  by_cases e : q = r
  · subst e
    rw [if_pos rfl, dot_axpy hf (by rw [(hs.2 q hr).1, (hs.2 c hc).1]) (hs.2 q hr).2 v hv, hcz, gm_zero, Nat.xor_zero] at h1
    exact h1
  · rw [if_neg e] at h1; exact h1

/-- The first c columns are those of the unit matrix. -/
def Unit (k c : Nat) (R : Mx) : Prop := ∀ r, r < k → ∀ j, j < c → en R r j = if r = j then 1 else 0

/-- One column: it has a pivot. -/
theorem pivot {k s c : Nat} {R : Mx} (hs : Shape k s R) (h : Ker k R) (hu : Unit k c R) (hc : c < k) : ∃ p, c ≤ p ∧ p < k ∧ en R p c ≠ 0 := by
  refine Classical.byContradiction fun hno => ?_
  have hz : ∀ p, c ≤ p → p < k → en R p c = 0 := fun p h1 h2 => Classical.byContradiction fun h3 => hno ⟨p, h1, h2, h3⟩
  have := h (fun j => if j < c then en R j c else if j = c then 1 else 0) (fun j hj => by
    show (if j < c then en R j c else if j = c then 1 else 0) < 256
    split
    · exact hs.en_lt hj c
    · split <;> decide) (fun r hr => ?_) c hc
  · simp at this
  · -- the row's sum
    have hsplit : ∀ (l : List Nat), l.Nodup → lsum l (fun j => gm ((rw_ R r).getD j 0) (if j < c then en R j c else if j = c then 1 else 0)) = (if r < c ∧ r ∈ l then en R r c else 0) ^^^ (if c ∈ l then en R r c else 0) := by
      intro l
      induction l with
      | nil => intro _; simp [lsum_nil]
      | cons y l ih =>
        intro hnd
        rw [List.nodup_cons] at hnd
        rw [lsum_cons, ih hnd.2]
        have hterm : gm ((rw_ R r).getD y 0) (if y < c then en R y c else if y = c then 1 else 0) = (if y < c ∧ r = y then en R r c else 0) ^^^ (if y = c then en R r c else 0) := by
          by_cases h1 : y < c
          · have h2 : en R r y = if r = y then 1 else 0 := hu r hr y h1
            have h3 : (rw_ R r).getD y 0 = if r = y then 1 else 0 := h2
            rw [h3, if_pos h1, if_neg (by omega : ¬ y = c), Nat.xor_zero]
            by_cases e : r = y
            · subst e
              rw [if_pos rfl, if_pos ⟨h1, rfl⟩, gm_comm, gm_one (hs.en_lt hr c)]
            · rw [if_neg e, if_neg (fun h => e h.2), zero_gm]
          · rw [if_neg h1, if_neg (show ¬ (y < c ∧ r = y) from fun h => h1 h.1), Nat.zero_xor]
            by_cases e : y = c
            · subst e
              rw [if_pos rfl, if_pos rfl, gm_one (getD_lt (hs.2 r hr).2 _)]; rfl
            · rw [if_neg e, if_neg e, gm_zero]
        rw [hterm, xor4]
        congr 1
        · by_cases h1 : r < c
          · by_cases e : r = y
            · subst e
              rw [if_pos ⟨h1, rfl⟩, if_neg (fun h => hnd.1 h.2), if_pos ⟨h1, by simp⟩, Nat.xor_zero]
            · rw [if_neg (fun h => e h.2), Nat.zero_xor]
              by_cases hm : r ∈ l
              · rw [if_pos ⟨h1, hm⟩, if_pos ⟨h1, by simp [hm]⟩]
              · rw [if_neg (fun h => hm h.2), if_neg (fun h => by rcases List.mem_cons.1 h.2 with h | h; exact e h; exact hm h)]
          · rw [if_neg (show ¬ (y < c ∧ r = y) from fun h => h1 (by rw [h.2]; exact h.1)), if_neg (show ¬ (r < c ∧ r ∈ l) from fun h => h1 h.1), if_neg (show ¬ (r < c ∧ r ∈ y :: l) from fun h => h1 h.1)]; rfl
        · by_cases e : y = c
          · subst e
            rw [if_pos rfl, if_neg hnd.1, if_pos (by simp), Nat.xor_zero]
          · rw [if_neg e, Nat.zero_xor]
            by_cases hm : c ∈ l
            · rw [if_pos hm, if_pos (by simp [hm])]
            · rw [if_neg hm, if_neg (fun h => by rcases List.mem_cons.1 h with h | h; exact e h.symm; exact hm h)]
    unfold dot
    rw [hsplit _ List.nodup_range, if_pos (List.mem_range.2 hc)]
    by_cases h1 : r < c
    · rw [if_pos ⟨h1, List.mem_range.2 hr⟩, Nat.xor_self]
    · rw [if_neg (fun h => h1 h.1), hz r (by omega) hr]; rfl
theorem find_ok {R : Mx} {c k : Nat} : ∀ (n p : Nat), p + n = k → (∃ q, p ≤ q ∧ q < k ∧ en R q c ≠ 0) → p ≤ findS R c n p ∧ findS R c n p < k ∧ en R (findS R c n p) c ≠ 0 ∧ ∀ q, p ≤ q → q < findS R c n p → en R q c = 0
  | 0, p, h, ⟨q, h1, h2, _⟩ => by omega
  | n + 1, p, h, ⟨q, h1, h2, h3⟩ => by
    unfold findS
    by_cases e : en R p c = 0
    · rw [if_pos e]
      have hq : p + 1 ≤ q := by
        rcases Nat.lt_or_ge p q with h4 | h4
        · exact h4
        · have : q = p := by omega
          rw [this] at h3; exact absurd e h3
      obtain ⟨a, b, c', d⟩ := find_ok n (p + 1) (by omega) ⟨q, hq, h2, h3⟩
      refine ⟨by omega, b, c', fun q hq1 hq2 => ?_⟩
      rcases Nat.lt_or_ge p q with h4 | h4
      · exact d q h4 hq2
      · have : q = p := by omega
        rw [this]; exact e
    · rw [if_neg e]
      exact ⟨Nat.le_refl _, by omega, e, fun q h4 h5 => by omega⟩

/-- What the elimination of one column keeps. -/
structure El (k s c r : Nat) (R L : Mx) : Prop where
  sR : Shape k k R
  sL : Shape k s L
  ker : Ker k R
  unit : Unit k c R
  row : ∀ j, j < c + 1 → en R c j = if c = j then 1 else 0
  done : ∀ q, q < r → q < k → q ≠ c → en R q c = 0
theorem El.skip {k s c : Nat} {R L : Mx} (h : El k s c c R L) : El k s c (c + 1) R L :=
  ⟨h.sR, h.sL, h.ker, h.unit, h.row, fun q h1 h2 h3 => h.done q (by omega) h2 h3⟩
theorem El.one {k s c r : Nat} {R L : Mx} (h : El k s c r R L) (hc : c < k) (hr : r < k) (hne : r ≠ c) :
    El k s c (r + 1) (R.set r (axpy (en R r c) (rw_ R c) (rw_ R r))) (L.set r (axpy (en R r c) (rw_ L c) (rw_ L r))) := by
  have hset : ∀ q, rw_ (R.set r (axpy (en R r c) (rw_ R c) (rw_ R r))) q = if q = r then axpy (en R r c) (rw_ R c) (rw_ R r) else rw_ R q := fun q => rw_set (by rw [h.sR.1]; exact hr)
  have hen : ∀ q j, en (R.set r (axpy (en R r c) (rw_ R c) (rw_ R r))) q j = if q = r then en R r j ^^^ gm (en R c j) (en R r c) else en R q j := by
    intro q j
    have e1 : ∀ (X : Mx), en X q j = (rw_ X q).getD j 0 := fun _ => rfl
    rw [e1, hset]
    split
    · rw [axpy_getD (by rw [(h.sR.2 r hr).1, (h.sR.2 c hc).1])]; rfl
    · rfl
  refine ⟨h.sR.set hr (h.sR.axpy_ok hr hc).1 (h.sR.axpy_ok hr hc).2, h.sL.set hr (h.sL.axpy_ok hr hc).1 (h.sL.axpy_ok hr hc).2, h.ker.axpy h.sR hc hr hne (h.sR.en_lt hr c), ?_, ?_, ?_⟩
  · intro q hq j hj
    rw [hen]
    split
    · rename_i e
      subst e
      rw [h.row j (by omega), if_neg (by omega : ¬ c = j), zero_gm, Nat.xor_zero]
      exact h.unit q hq j hj
    · exact h.unit q hq j hj
  · intro j hj
    rw [hen, if_neg (fun e => hne e.symm)]
    exact h.row j hj
  · intro q h1 h2 h3
    rw [hen]
    split
    · rename_i e
      subst e
      rw [h.row c (by omega), if_pos rfl, gm_comm, gm_one (h.sR.en_lt h2 c), Nat.xor_self]
    · rename_i e
      exact h.done q (by omega) h2 h3
theorem elim_ok {k s c : Nat} (hc : c < k) : ∀ (n r : Nat) (R L : Mx), r + n = k → El k s c r R L → El k s c k (elimS c n r R L).1 (elimS c n r R L).2
  | 0, r, R, L, h, hE => by
    have : r = k := by omega
    subst this; exact hE
  | n + 1, r, R, L, h, hE => by
    unfold elimS
    by_cases e : r = c
    · rw [if_pos e]
      subst e
      exact elim_ok hc n (r + 1) R L (by omega) hE.skip
    · rw [if_neg e]
      exact elim_ok hc n (r + 1) _ _ (by omega) (hE.one hc (by omega) e)
/-- What holds before each column. -/
structure Inv (k s c : Nat) (R L : Mx) : Prop where
  sR : Shape k k R
  sL : Shape k s L
  ker : Ker k R
  unit : Unit k c R
theorem step_pivot {k s c : Nat} {R L : Mx} (h : Inv k s c R L) (hc : c < k) : c ≤ findS R c (k - c) c ∧ findS R c (k - c) c < k ∧ en R (findS R c (k - c) c) c ≠ 0 ∧ ∀ q, c ≤ q → q < findS R c (k - c) c → en R q c = 0 :=
  find_ok (k := k) (k - c) c (by omega) (pivot h.sR h.ker h.unit hc)
theorem step_start {k s c : Nat} {R L : Mx} (h : Inv k s c R L) (hc : c < k) {p : Nat} (hp1 : c ≤ p) (hp2 : p < k) (hp3 : en R p c ≠ 0) :
    en (swp R p c) c c ≠ 0 ∧ El k s c 0 ((swp R p c).set c (scl (ginv (en (swp R p c) c c)) (rw_ (swp R p c) c))) ((swp L p c).set c (scl (ginv (en (swp R p c) c c)) (rw_ (swp L p c) c))) := by
  have hR1 := h.sR.swp hp2 hc
  have hL1 := h.sL.swp hp2 hc
  have hk1 := h.ker.swp h.sR hp2 hc
  have hrw : ∀ r, rw_ (swp R p c) r = if r = p then rw_ R c else if r = c then rw_ R p else rw_ R r := fun r => rw_swp (by rw [h.sR.1]; exact hp2) (by rw [h.sR.1]; exact hc)
  have hc1 : rw_ (swp R p c) c = rw_ R p := by
    rw [hrw]
    split
    · rename_i e; rw [e]
    · rw [if_pos rfl]
  have hpc : en (swp R p c) c c = en R p c := by unfold en; rw [hc1]
  have hne : en (swp R p c) c c ≠ 0 := by rw [hpc]; exact hp3
  have hu1 : Unit k c (swp R p c) := by
    intro r hr j hj
    unfold en
    rw [hrw]
    split
    · rename_i e
      have h1 := h.unit c hc j hj
      rw [if_neg (by omega)] at h1 ⊢
      exact h1
    · split
      · rename_i e
        have h1 := h.unit p hp2 j hj
        rw [if_neg (by omega)] at h1 ⊢
        exact h1
      · exact h.unit r hr j hj
  have hset : ∀ q, rw_ ((swp R p c).set c (scl (ginv (en (swp R p c) c c)) (rw_ (swp R p c) c))) q = if q = c then scl (ginv (en (swp R p c) c c)) (rw_ (swp R p c) c) else rw_ (swp R p c) q := fun q => rw_set (by rw [hR1.1]; exact hc)
  have hrow : ∀ j, en ((swp R p c).set c (scl (ginv (en (swp R p c) c c)) (rw_ (swp R p c) c))) c j = gm (en (swp R p c) c j) (ginv (en (swp R p c) c c)) := by
    intro j
    have e1 : ∀ (X : Mx), en X c j = (rw_ X c).getD j 0 := fun _ => rfl
    rw [e1, hset, if_pos rfl, scl_getD]
    rfl
  have hl : (rw_ (swp R p c) c).length = k := (hR1.2 c hc).1
  have hl2 : (rw_ (swp L p c) c).length = s := (hL1.2 c hc).1
  refine ⟨hne, hR1.set hc (by rw [scl_len]; exact hl) (scl_lt _ _), hL1.set hc (by rw [scl_len]; exact hl2) (scl_lt _ _), hk1.scl hR1 hc (ginv_lt _) (ginv_ne _), ?_, ?_, fun q hq => by omega⟩
  · intro r hr j hj
    by_cases e : r = c
    · subst e
      rw [hrow]
      have h1 := hu1 r hr j hj
      rw [if_neg (by omega)] at h1 ⊢
      rw [h1, zero_gm]
    · have : en ((swp R p c).set c (scl (ginv (en (swp R p c) c c)) (rw_ (swp R p c) c))) r j = en (swp R p c) r j := by
        have e1 : ∀ (X : Mx), en X r j = (rw_ X r).getD j 0 := fun _ => rfl
        rw [e1, hset, if_neg e]; rfl
      rw [this]; exact hu1 r hr j hj
  · intro j hj
    rw [hrow]
    by_cases e : c = j
    · subst e
      rw [if_pos rfl]
      exact gm_ginv (hR1.en_lt hc _) hne
    · rw [if_neg e]
      have h1 := hu1 c hc j (by omega)
      rw [if_neg e] at h1
      rw [h1, zero_gm]
theorem step_ok {k s c : Nat} {R L : Mx} (h : Inv k s c R L) (hc : c < k) : Inv k s (c + 1) (stepS k c R L).1 (stepS k c R L).2 := by
  obtain ⟨p1, p2, p3, _⟩ := step_pivot h hc
  have hE := elim_ok hc k 0 _ _ (by omega) (step_start h hc p1 p2 p3).2
  unfold stepS
  simp only
  refine ⟨hE.sR, hE.sL, hE.ker, fun r hr j hj => ?_⟩
  by_cases e : j = c
  · subst e
    by_cases e2 : r = j
    · subst e2; exact hE.row r (by omega)
    · rw [if_neg e2]; exact hE.done r hr hr e2
  · exact hE.unit r hr j (by omega)
end Go.Gf
namespace Go.Gf
open Go

noncomputable def rowE (k w j : Nat) : Nat := if w < k then (if w = j then 1 else 0) else ginv ((w - k) ^^^ (16 + j))
noncomputable def rowS (k w : Nat) : Row := (List.range k).map (rowE k w)
noncomputable def matS (k : Nat) (ws : List Nat) : Mx := ws.map (rowS k)
theorem rowE_lt (k w j : Nat) : rowE k w j < 256 := by
  unfold rowE
  split
  · split <;> decide
  · exact ginv_lt _
theorem rowS_getD {k w j : Nat} (hj : j < k) : (rowS k w).getD j 0 = rowE k w j := by
  unfold rowS
  rw [List.getD_eq_getElem?_getD, List.getElem?_map, List.getElem?_range hj]; rfl
theorem rw_map {k : Nat} {ws : List Nat} {r : Nat} (h : r < ws.length) : rw_ (matS k ws) r = rowS k ws[r] := by
  unfold rw_ matS
  rw [List.getD_eq_getElem?_getD, List.getElem?_map, List.getElem?_eq_getElem h]; rfl
theorem shape_mat {k : Nat} {ws : List Nat} (hl : ws.length = k) : Shape k k (matS k ws) := by
  refine ⟨by simpa [matS] using hl, fun r hr => ?_⟩
  rw [rw_map (by omega)]
  refine ⟨by simp [rowS], fun x hx => ?_⟩
  simp only [rowS, List.mem_map] at hx
  obtain ⟨j, _, rfl⟩ := hx
  exact rowE_lt _ _ _

theorem lsum_filter {f : Nat → Nat} {p : Nat → Bool} : ∀ (l : List Nat), (∀ y, y ∈ l → p y = false → f y = 0) → lsum l f = lsum (l.filter p) f
  | [], _ => rfl
  | y :: l, h => by
    have ih := lsum_filter l (fun z hz => h z (by simp [hz]))
    rw [lsum_cons, ih, List.filter_cons]
    cases hp : p y with
    | true => rw [if_pos rfl, lsum_cons]
    | false => rw [if_neg (by simp), h y (by simp) hp, Nat.zero_xor]
theorem lsum_map {f : Nat → Nat} {g : Nat → Nat} : ∀ (l : List Nat), lsum (l.map g) f = lsum l (fun y => f (g y))
  | [] => rfl
  | y :: l => by rw [List.map_cons, lsum_cons, lsum_cons, lsum_map l]
theorem filter_len {α : Type} {p : α → Bool} : ∀ (l : List α), (l.filter p).length + (l.filter (fun x => !p x)).length = l.length
  | [] => rfl
  | x :: l => by
    have ih := filter_len (p := p) l
    cases h : p x <;> simp [h] <;> omega

theorem lsum_single {f : Nat → Nat} {w : Nat} (hw : f w < 256) : ∀ (l : List Nat), l.Nodup → lsum l (fun j => gm (if w = j then 1 else 0) (f j)) = if w ∈ l then f w else 0
  | [], _ => by simp [lsum_nil]
  | y :: l, h => by
    rw [List.nodup_cons] at h
    rw [lsum_cons, lsum_single hw l h.2]
    by_cases e : w = y
    · subst e
      rw [if_pos rfl, if_neg h.1, if_pos (by simp), Nat.xor_zero, gm_comm, gm_one hw]
    · rw [if_neg e, zero_gm, Nat.zero_xor]
      by_cases hm : w ∈ l
      · rw [if_pos hm, if_pos (by simp [hm])]
      · rw [if_neg hm, if_neg (fun h => by rcases List.mem_cons.1 h with h | h; exact e h; exact hm h)]

theorem ker_init {k : Nat} (hk : k ≤ 16) {ws : List Nat} (hl : ws.length = k) (nd : ws.Nodup) (hb : ∀ w, w ∈ ws → w < k + 16) : Ker k (matS k ws) := by
  intro v hv hr
  have hdot : ∀ w, w ∈ ws → lsum (List.range k) (fun j => gm (rowE k w j) (v j)) = 0 := by
    intro w hw
    obtain ⟨r, hr1, rfl⟩ := List.getElem_of_mem hw
    have h := hr r (by omega)
    rw [rw_map hr1] at h
    unfold dot at h
    rw [← h]
    exact lsum_congr _ (fun j hj => by rw [rowS_getD (List.mem_range.1 hj)])
  -- the data blocks that are there
  have hunit : ∀ w, w ∈ ws → w < k → v w = 0 := by
    intro w hw hwk
    have h := hdot w hw
    rw [lsum_congr (g := fun j => gm (if w = j then 1 else 0) (v j)) _ (fun j _ => by unfold rowE; rw [if_pos hwk]), lsum_single (hv w hwk) _ List.nodup_range, if_pos (List.mem_range.2 hwk)] at h
    exact h
  let p : Nat → Bool := fun j => !decide (j ∈ ws)
  let Y := ((List.range k).filter p).map (16 + ·)
  let X := (ws.filter (fun w => !decide (w < k))).map (· - k)
  have hlen : X.length = Y.length := by
    have h1 := filter_len (p := fun w => decide (w < k)) ws
    have h2 := filter_len (p := fun j => decide (j ∈ ws)) (List.range k)
    have h3 : (ws.filter (fun w => decide (w < k))).length = ((List.range k).filter (fun j => decide (j ∈ ws))).length := by
      refine ((List.perm_ext_iff_of_nodup (nd.filter _) (List.nodup_range.filter _)).2 (fun a => ?_)).length_eq
      simp only [List.mem_filter, List.mem_range, decide_eq_true_eq]
      exact ⟨fun h => ⟨h.2, h.1⟩, fun h => ⟨h.2, h.1⟩⟩
    simp only [X, Y, List.length_map]
    have h4 : ((List.range k).filter p).length = ((List.range k).filter (fun x => !decide (x ∈ ws))).length := rfl
    rw [h4]
    rw [List.length_range] at h2
    omega
  have hz := cauchy X Y (fun y => v (y - 16)) hlen ?_ ?_ ?_ ?_ ?_ ?_ ?_
  · intro j hj
    by_cases hm : j ∈ ws
    · exact hunit j hm hj
    · have := hz (16 + j) (List.mem_map.2 ⟨j, List.mem_filter.2 ⟨List.mem_range.2 hj, by simp [p, hm]⟩, rfl⟩)
      rw [show 16 + j - 16 = j by omega] at this
      exact this
  · -- distinct
    have hf : ∀ a, a ∈ ws.filter (fun w => !decide (w < k)) → k ≤ a := fun a ha => by
      have := (List.mem_filter.1 ha).2
      simp at this; exact this
    have h1 : (ws.filter (fun w => !decide (w < k))).Nodup := nd.filter _
    revert h1 hf
    show (∀ a, a ∈ ws.filter (fun w => !decide (w < k)) → k ≤ a) → (ws.filter (fun w => !decide (w < k))).Nodup → ((ws.filter (fun w => !decide (w < k))).map (· - k)).Nodup
    generalize ws.filter (fun w => !decide (w < k)) = l
    intro hf h1
    rw [List.Nodup, List.pairwise_map]
    exact h1.imp_of_mem (fun {a b} ha hb hab e => hab (by have := hf a ha; have := hf b hb; omega))
  · rw [List.Nodup, List.pairwise_map]
    exact (List.nodup_range.filter p).imp (fun hab e => hab (by omega))
  · intro x hx
    obtain ⟨w, hw, rfl⟩ := List.mem_map.1 hx
    have := hb w (List.mem_filter.1 hw).1
    omega
  · intro y hy
    obtain ⟨j, hj, rfl⟩ := List.mem_map.1 hy
    have := List.mem_range.1 (List.mem_filter.1 hj).1
    omega
  · intro x hx y hy e
    obtain ⟨w, hw, rfl⟩ := List.mem_map.1 hx
    obtain ⟨j, hj, rfl⟩ := List.mem_map.1 hy
    have h1 := hb w (List.mem_filter.1 hw).1
    have h2 := List.mem_range.1 (List.mem_filter.1 hj).1
    have := xor_eq_zero e
    omega
  · intro y hy
    obtain ⟨j, hj, rfl⟩ := List.mem_map.1 hy
    have h2 := List.mem_range.1 (List.mem_filter.1 hj).1
    simp only [Nat.add_sub_cancel_left]
    exact hv j h2
  · intro x hx
    obtain ⟨w, hw, rfl⟩ := List.mem_map.1 hx
    obtain ⟨hw1, hw2⟩ := List.mem_filter.1 hw
    have hwk : ¬ w < k := by simpa using hw2
    have h := hdot w hw1
    rw [lsum_filter (p := p) _ (fun j hj hp => by
      have hm : j ∈ ws := by simpa [p] using hp
      rw [hunit j hm (List.mem_range.1 hj), gm_zero])] at h
    show lsum (((List.range k).filter p).map (16 + ·)) (fun y => gm (v (y - 16)) (ginv ((w - k) ^^^ y))) = 0
    rw [lsum_map, ← h]
    refine lsum_congr _ (fun j _ => ?_)
    unfold rowE
    rw [if_neg hwk, show 16 + j - 16 = j by omega, gm_comm]
end Go.Gf
