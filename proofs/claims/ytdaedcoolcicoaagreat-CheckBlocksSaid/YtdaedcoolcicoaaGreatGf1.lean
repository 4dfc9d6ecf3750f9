/- Plain laws. -/
import Derived.Test.YtdaedcoolcicoaaGreatCoreU
import Derived.KernelRfl
namespace Go.Gf
open Go

def expL : List Nat := [1, 2, 4, 8, 16, 32, 64, 128, 29, 58, 116, 232, 205, 135, 19, 38, 76, 152, 45, 90, 180, 117, 234, 201, 143, 3, 6, 12, 24, 48, 96, 192, 157, 39, 78, 156, 37, 74, 148, 53, 106, 212, 181, 119, 238, 193, 159, 35, 70, 140, 5, 10, 20, 40, 80, 160, 93, 186, 105, 210, 185, 111, 222, 161, 95, 190, 97, 194, 153, 47, 94, 188, 101, 202, 137, 15, 30, 60, 120, 240, 253, 231, 211, 187, 107, 214, 177, 127, 254, 225, 223, 163, 91, 182, 113, 226, 217, 175, 67, 134, 17, 34, 68, 136, 13, 26, 52, 104, 208, 189, 103, 206, 129, 31, 62, 124, 248, 237, 199, 147, 59, 118, 236, 197, 151, 51, 102, 204, 133, 23, 46, 92, 184, 109, 218, 169, 79, 158, 33, 66, 132, 21, 42, 84, 168, 77, 154, 41, 82, 164, 85, 170, 73, 146, 57, 114, 228, 213, 183, 115, 230, 209, 191, 99, 198, 145, 63, 126, 252, 229, 215, 179, 123, 246, 241, 255, 227, 219, 171, 75, 150, 49, 98, 196, 149, 55, 110, 220, 165, 87, 174, 65, 130, 25, 50, 100, 200, 141, 7, 14, 28, 56, 112, 224, 221, 167, 83, 166, 81, 162, 89, 178, 121, 242, 249, 239, 195, 155, 43, 86, 172, 69, 138, 9, 18, 36, 72, 144, 61, 122, 244, 245, 247, 243, 251, 235, 203, 139, 11, 22, 44, 88, 176, 125, 250, 233, 207, 131, 27, 54, 108, 216, 173, 71, 142]
def logL : List Nat := [0, 0, 1, 25, 2, 50, 26, 198, 3, 223, 51, 238, 27, 104, 199, 75, 4, 100, 224, 14, 52, 141, 239, 129, 28, 193, 105, 248, 200, 8, 76, 113, 5, 138, 101, 47, 225, 36, 15, 33, 53, 147, 142, 218, 240, 18, 130, 69, 29, 181, 194, 125, 106, 39, 249, 185, 201, 154, 9, 120, 77, 228, 114, 166, 6, 191, 139, 98, 102, 221, 48, 253, 226, 152, 37, 179, 16, 145, 34, 136, 54, 208, 148, 206, 143, 150, 219, 189, 241, 210, 19, 92, 131, 56, 70, 64, 30, 66, 182, 163, 195, 72, 126, 110, 107, 58, 40, 84, 250, 133, 186, 61, 202, 94, 155, 159, 10, 21, 121, 43, 78, 212, 229, 172, 115, 243, 167, 87, 7, 112, 192, 247, 140, 128, 99, 13, 103, 74, 222, 237, 49, 197, 254, 24, 227, 165, 153, 119, 38, 184, 180, 124, 17, 68, 146, 217, 35, 32, 137, 46, 55, 63, 209, 91, 149, 188, 207, 205, 144, 135, 151, 178, 220, 252, 190, 97, 242, 86, 211, 171, 20, 42, 93, 158, 132, 60, 57, 83, 71, 109, 65, 162, 31, 45, 67, 216, 183, 123, 164, 118, 196, 23, 73, 236, 127, 12, 111, 246, 108, 161, 59, 82, 41, 157, 85, 170, 251, 96, 134, 177, 187, 204, 62, 90, 203, 89, 95, 176, 156, 169, 160, 81, 11, 245, 22, 235, 122, 117, 44, 215, 79, 174, 213, 233, 230, 231, 173, 232, 116, 214, 244, 234, 168, 80, 88, 175]
/-- The powers of 2, and their logarithms. -/
def ex (k : Nat) : Nat := expL.getD (k % 255) 0
def lg (a : Nat) : Nat := logL.getD a 0
/-- The product. -/
def gmC (a b : Nat) : Nat := if a = 0 ∨ b = 0 then 0 else ex (lg a + lg b)
def ginvC (a : Nat) : Nat := ex (255 - lg a)
theorem is_gm : ∃ g, g = gmC := ⟨gmC, rfl⟩
theorem is_ginv : ∃ g, g = ginvC := ⟨ginvC, rfl⟩
/-- The same, not to be computed. -/
noncomputable def gm : Nat → Nat → Nat := Classical.choose is_gm
noncomputable def ginv : Nat → Nat := Classical.choose is_ginv
theorem gm_is : gm = gmC := Classical.choose_spec is_gm
theorem ginv_is : ginv = ginvC := Classical.choose_spec is_ginv
def xt (a : Nat) : Nat := if 2 * a < 256 then 2 * a else (2 * a) ^^^ 285

theorem ex_lg_c : ((List.range 256).all fun a => a == 0 || (ex (lg a) == a && decide (lg a < 255))) = true := by kernel_rfl
theorem lg_ex_c : ((List.range 255).all fun i => lg (ex i) == i && ex i != 0 && decide (ex i < 256)) = true := by kernel_rfl
theorem xt_c : ((List.range 256).all fun a => gmC 2 a == xt a) = true := by kernel_rfl
theorem xt_lin_c : ((List.range 256).all fun a => (List.range 256).all fun b => xt (a ^^^ b) == (xt a ^^^ xt b)) = true := by kernel_rfl
theorem all_of {p : Nat → Bool} {n : Nat} (h : ((List.range n).all p) = true) {a : Nat} (ha : a < n) : p a = true := List.all_eq_true.1 h a (List.mem_range.2 ha)

theorem ex_lg {a : Nat} (h : a < 256) (h0 : a ≠ 0) : ex (lg a) = a ∧ lg a < 255 := by
  have := all_of ex_lg_c h
  simp only [Bool.or_eq_true, beq_iff_eq, Bool.and_eq_true, decide_eq_true_eq] at this
  exact this.resolve_left h0
theorem ex_mod (k : Nat) : ex k = ex (k % 255) := by unfold ex; rw [Nat.mod_mod]
theorem lg_ex (k : Nat) : lg (ex k) = k % 255 ∧ ex k ≠ 0 ∧ ex k < 256 := by
  have := all_of lg_ex_c (Nat.mod_lt k (by decide : 0 < 255))
  simp only [Bool.and_eq_true, beq_iff_eq, bne_iff_ne, decide_eq_true_eq] at this
  rw [ex_mod k]
  exact ⟨this.1.1, this.1.2, this.2⟩
theorem gm_zero (a : Nat) : gm a 0 = 0 := by rw [gm_is]; unfold gmC; rw [if_pos (.inr rfl)]
theorem zero_gm (a : Nat) : gm 0 a = 0 := by rw [gm_is]; unfold gmC; rw [if_pos (.inl rfl)]
theorem gm_comm (a b : Nat) : gm a b = gm b a := by
  rw [gm_is]
  unfold gmC
  rw [Nat.add_comm]
  by_cases ha : a = 0 <;> by_cases hb : b = 0 <;> simp [ha, hb]
theorem gm_lt (a b : Nat) : gm a b < 256 := by
  rw [gm_is]
  unfold gmC
  split
  · decide
  · exact (lg_ex _).2.2
theorem gm_ne {a b : Nat} (ha : a ≠ 0) (hb : b ≠ 0) : gm a b ≠ 0 := by
  rw [gm_is]
  unfold gmC
  rw [if_neg (by rintro (h | h); exact ha h; exact hb h)]
  exact (lg_ex _).2.1
theorem gm_eq {a b : Nat} (ha : a ≠ 0) (hb : b ≠ 0) : gm a b = ex (lg a + lg b) := by
  rw [gm_is]; unfold gmC; rw [if_neg (by rintro (h | h); exact ha h; exact hb h)]
theorem gm_assoc (a b c : Nat) : gm (gm a b) c = gm a (gm b c) := by
  by_cases ha : a = 0
  · subst ha; rw [zero_gm, zero_gm, zero_gm]
  · by_cases hb : b = 0
    · subst hb; rw [gm_zero, zero_gm, gm_zero]
    · by_cases hc : c = 0
      · subst hc; rw [gm_zero, gm_zero, gm_zero]
      · rw [gm_eq (gm_ne ha hb) hc, gm_eq ha (gm_ne hb hc), gm_eq ha hb, gm_eq hb hc, (lg_ex _).1, (lg_ex _).1, ex_mod, ex_mod (lg a + _)]
        congr 1
        omega
theorem lg_one : lg 1 = 0 := by decide
theorem gm_one {a : Nat} (h : a < 256) : gm a 1 = a := by
  by_cases ha : a = 0
  · subst ha; exact zero_gm 1
  · rw [gm_eq ha (by decide), lg_one, Nat.add_zero]; exact (ex_lg h ha).1
theorem ex_zero : ex 0 = 1 := by decide
theorem gm_ginv {a : Nat} (h : a < 256) (h0 : a ≠ 0) : gm a (ginv a) = 1 := by
  rw [ginv_is]
  unfold ginvC
  obtain ⟨_, hl⟩ := ex_lg h h0
  rw [gm_eq h0 (lg_ex _).2.1, (lg_ex _).1, ex_mod, ← ex_zero]
  congr 1
  omega
theorem ginv_lt (a : Nat) : ginv a < 256 := by rw [ginv_is]; exact (lg_ex _).2.2
theorem ginv_ne (a : Nat) : ginv a ≠ 0 := by rw [ginv_is]; exact (lg_ex _).2.1
theorem xor_lt {a b : Nat} (ha : a < 256) (hb : b < 256) : a ^^^ b < 256 := Nat.xor_lt_two_pow (n := 8) ha hb
theorem two_gm {a : Nat} (h : a < 256) : gm 2 a = xt a := by
  have := all_of xt_c h
  rw [gm_is]
  simpa using this
theorem xt_lin {a b : Nat} (ha : a < 256) (hb : b < 256) : xt (a ^^^ b) = xt a ^^^ xt b := by
  have := all_of (all_of xt_lin_c ha) hb
  simpa using this
theorem lg_two : lg 2 = 1 := by decide
theorem ex_succ (k : Nat) : ex (k + 1) = gm 2 (ex k) := by
  rw [gm_eq (by decide) (lg_ex k).2.1, (lg_ex k).1, lg_two, ex_mod, ex_mod (1 + _)]
  congr 1; omega
theorem ex_gm_lin {a b : Nat} (ha : a < 256) (hb : b < 256) : ∀ k, gm (ex k) (a ^^^ b) = gm (ex k) a ^^^ gm (ex k) b
  | 0 => by rw [ex_zero, gm_comm, gm_one (xor_lt ha hb), gm_comm 1 a, gm_one ha, gm_comm 1 b, gm_one hb]
  | k + 1 => by
    rw [ex_succ, gm_assoc, gm_assoc, gm_assoc, ex_gm_lin ha hb k, two_gm (xor_lt (gm_lt _ _) (gm_lt _ _)), two_gm (gm_lt _ _), two_gm (gm_lt _ _), xt_lin (gm_lt _ _) (gm_lt _ _)]
theorem gm_xor {a b c : Nat} (ha : a < 256) (hb : b < 256) (hc : c < 256) : gm a (b ^^^ c) = gm a b ^^^ gm a c := by
  by_cases h : a = 0
  · subst h; rw [zero_gm, zero_gm, zero_gm]; rfl
  · rw [← (ex_lg ha h).1]; exact ex_gm_lin hb hc _
theorem xor_gm {a b c : Nat} (ha : a < 256) (hb : b < 256) (hc : c < 256) : gm (b ^^^ c) a = gm b a ^^^ gm c a := by
  rw [gm_comm, gm_xor ha hb hc, gm_comm a b, gm_comm a c]
theorem gm_cancel {a b c : Nat} (ha : a < 256) (h0 : a ≠ 0) (hb : b < 256) (hc : c < 256) (h : gm a b = gm a c) : b = c := by
  have h1 : gm (ginv a) (gm a b) = gm (ginv a) (gm a c) := by rw [h]
  rw [← gm_assoc, ← gm_assoc, gm_comm (ginv a) a, gm_ginv ha h0, gm_comm 1 b, gm_one hb, gm_comm 1 c, gm_one hc] at h1
  exact h1
theorem xor_self (a : Nat) : a ^^^ a = 0 := Nat.xor_self a
theorem xor_eq_zero {a b : Nat} (h : a ^^^ b = 0) : a = b := by
  have : (a ^^^ b) ^^^ b = 0 ^^^ b := by rw [h]
  rw [Nat.xor_assoc, Nat.xor_self, Nat.xor_zero, Nat.zero_xor] at this
  exact this

/-! Sums. -/
def lsum (l : List Nat) (f : Nat → Nat) : Nat := l.foldr (fun y s => f y ^^^ s) 0
theorem lsum_nil (f : Nat → Nat) : lsum [] f = 0 := rfl
theorem lsum_cons (y : Nat) (l : List Nat) (f : Nat → Nat) : lsum (y :: l) f = f y ^^^ lsum l f := rfl
theorem lsum_lt {f : Nat → Nat} : ∀ (l : List Nat), (∀ y, y ∈ l → f y < 256) → lsum l f < 256
  | [], _ => by show 0 < 256; decide
  | y :: l, h => xor_lt (h y (by simp)) (lsum_lt l (fun z hz => h z (by simp [hz])))
theorem xor4 (a b c d : Nat) : (a ^^^ b) ^^^ (c ^^^ d) = (a ^^^ c) ^^^ (b ^^^ d) := by
  rw [Nat.xor_assoc, Nat.xor_assoc, ← Nat.xor_assoc b, Nat.xor_comm b c, Nat.xor_assoc c]
theorem lsum_xor (f g : Nat → Nat) : ∀ l, lsum l (fun y => f y ^^^ g y) = lsum l f ^^^ lsum l g
  | [] => by show 0 = 0 ^^^ 0; decide
  | y :: l => by rw [lsum_cons, lsum_cons, lsum_cons, lsum_xor f g l, xor4]
theorem lsum_gm {c : Nat} (hc : c < 256) {f : Nat → Nat} : ∀ (l : List Nat), (∀ y, y ∈ l → f y < 256) → lsum l (fun y => gm c (f y)) = gm c (lsum l f)
  | [], _ => (gm_zero c).symm
  | y :: l, h => by
    rw [lsum_cons, lsum_cons, lsum_gm hc l (fun z hz => h z (by simp [hz])), gm_xor hc (h y (by simp)) (lsum_lt l (fun z hz => h z (by simp [hz])))]
theorem lsum_congr {f g : Nat → Nat} : ∀ (l : List Nat), (∀ y, y ∈ l → f y = g y) → lsum l f = lsum l g
  | [], _ => rfl
  | y :: l, h => by rw [lsum_cons, lsum_cons, h y (by simp), lsum_congr l (fun z hz => h z (by simp [hz]))]
end Go.Gf
namespace Go.Gf
open Go

abbrev Row := List Nat
abbrev Mx := List Row
def rw_ (R : Mx) (r : Nat) : Row := R.getD r []
def en (R : Mx) (r j : Nat) : Nat := (rw_ R r).getD j 0
noncomputable def axpy (f : Nat) (l to : Row) : Row := List.zipWith (fun t y => t ^^^ gm y f) to l
noncomputable def scl (f : Nat) (l : Row) : Row := l.map (fun y => gm y f)
def swp (R : Mx) (p c : Nat) : Mx := (R.set c (rw_ R p)).set p (rw_ R c)
noncomputable def elimS (c : Nat) : Nat → Nat → Mx → Mx → Mx × Mx
  | 0, _, R, L => (R, L)
  | n + 1, r, R, L => if r = c then elimS c n (r + 1) R L else
    elimS c n (r + 1) (R.set r (axpy (en R r c) (rw_ R c) (rw_ R r))) (L.set r (axpy (en R r c) (rw_ L c) (rw_ L r)))
def findS (R : Mx) (c : Nat) : Nat → Nat → Nat
  | 0, p => p
  | n + 1, p => if en R p c = 0 then findS R c n (p + 1) else p
noncomputable def stepS (k c : Nat) (R L : Mx) : Mx × Mx :=
  let p := findS R c (k - c) c
  let R1 := swp R p c
  let L1 := swp L p c
  let f := ginv (en R1 c c)
  elimS c k 0 (R1.set c (scl f (rw_ R1 c))) (L1.set c (scl f (rw_ L1 c)))
noncomputable def solveS (k : Nat) : Nat → Nat → Mx → Mx → Mx
  | 0, _, _, L => L
  | n + 1, c, R, L => solveS k n (c + 1) (stepS k c R L).1 (stepS k c R L).2

/-- k rows of s bytes. -/
def Shape (k s : Nat) (R : Mx) : Prop := R.length = k ∧ ∀ r, r < k → (rw_ R r).length = s ∧ ∀ x, x ∈ rw_ R r → x < 256
theorem rw_lt {R : Mx} {r : Nat} (h : r < R.length) : rw_ R r = R[r] := by unfold rw_; rw [List.getD_eq_getElem?_getD, List.getElem?_eq_getElem h]; rfl
theorem rw_set {R : Mx} {i r : Nat} {x : Row} (h : i < R.length) : rw_ (R.set i x) r = if r = i then x else rw_ R r := by
  unfold rw_
  rw [List.getD_eq_getElem?_getD, List.getD_eq_getElem?_getD, List.getElem?_set]
  by_cases e : i = r
  · subst e; simp [h]
  · rw [if_neg e, if_neg (fun e' => e e'.symm)]
theorem getD_lt {l : Row} (h : ∀ x, x ∈ l → x < 256) (j : Nat) : l.getD j 0 < 256 := by
  rw [List.getD_eq_getElem?_getD]
  by_cases hj : j < l.length
  · rw [List.getElem?_eq_getElem hj]; exact h _ (List.getElem_mem hj)
  · rw [List.getElem?_eq_none (by omega)]; show 0 < 256; decide
theorem Shape.en_lt {k s : Nat} {R : Mx} (h : Shape k s R) {r : Nat} (hr : r < k) (j : Nat) : en R r j < 256 := getD_lt (h.2 r hr).2 j
theorem axpy_getD {f : Nat} {l to : Row} (h : to.length = l.length) (j : Nat) : (axpy f l to).getD j 0 = to.getD j 0 ^^^ gm (l.getD j 0) f := by
  unfold axpy
  rw [List.getD_eq_getElem?_getD, List.getD_eq_getElem?_getD, List.getD_eq_getElem?_getD, List.getElem?_zipWith]
  by_cases hj : j < l.length
  · rw [List.getElem?_eq_getElem hj, List.getElem?_eq_getElem (by omega)]; rfl
  · rw [List.getElem?_eq_none (by omega : to.length ≤ j), List.getElem?_eq_none (by omega : l.length ≤ j)]; simp [zero_gm]
theorem axpy_len {f : Nat} {l to : Row} (h : to.length = l.length) : (axpy f l to).length = to.length := by simp [axpy, h]
theorem axpy_lt (f : Nat) : ∀ (to l : Row), (∀ x, x ∈ to → x < 256) → ∀ x, x ∈ axpy f l to → x < 256
  | [], _, _, x, hx => by simp [axpy] at hx
  | t :: to, [], _, x, hx => by simp [axpy] at hx
  | t :: to, y :: l, h, x, hx => by
    simp only [axpy, List.zipWith_cons_cons, List.mem_cons] at hx
    rcases hx with rfl | hx
    · exact xor_lt (h t (by simp)) (gm_lt _ _)
    · exact axpy_lt f to l (fun z hz => h z (by simp [hz])) x hx

theorem Shape.set {k s : Nat} {R : Mx} (h : Shape k s R) {i : Nat} {x : Row} (hi : i < k) (hl : x.length = s) (hx : ∀ y, y ∈ x → y < 256) : Shape k s (R.set i x) := by
  refine ⟨by simpa using h.1, fun r hr => ?_⟩
  rw [rw_set (by rw [h.1]; exact hi)]
  split
  · exact ⟨hl, hx⟩
  · exact h.2 r hr
/-! The kernel. -/
noncomputable def dot (k : Nat) (row : Row) (v : Nat → Nat) : Nat := lsum (List.range k) fun j => gm (row.getD j 0) (v j)
def Ker (k : Nat) (R : Mx) : Prop := ∀ v : Nat → Nat, (∀ j, j < k → v j < 256) → (∀ r, r < k → dot k (rw_ R r) v = 0) → ∀ j, j < k → v j = 0
theorem dot_axpy {k f : Nat} (hf : f < 256) {l to : Row} (h : to.length = l.length) (ht : ∀ x, x ∈ to → x < 256) (v : Nat → Nat) (hv : ∀ j, j < k → v j < 256) : dot k (axpy f l to) v = dot k to v ^^^ gm f (dot k l v) := by
  unfold dot
  rw [← lsum_gm hf _ (fun _ _ => gm_lt _ _), ← lsum_xor]
  refine lsum_congr _ (fun j hj => ?_)
  rw [axpy_getD h, xor_gm (hv j (List.mem_range.1 hj)) (getD_lt ht j) (gm_lt _ _), gm_comm _ f, gm_assoc]
theorem Ker.axpy {k s : Nat} {R : Mx} (hs : Shape k s R) (h : Ker k R) {c r f : Nat} (hc : c < k) (hr : r < k) (hrc : r ≠ c) (hf : f < 256) : Ker k (R.set r (axpy f (rw_ R c) (rw_ R r))) := by
  intro v hv hq
  have hset : ∀ q, rw_ (R.set r (Gf.axpy f (rw_ R c) (rw_ R r))) q = if q = r then Gf.axpy f (rw_ R c) (rw_ R r) else rw_ R q := fun q => rw_set (by rw [hs.1]; exact hr)
  have hcz := hq c hc
  rw [hset, if_neg (fun e => hrc e.symm)] at hcz
  refine h v hv (fun q hqk => ?_)
  have h1 := hq q hqk
  rw [hset] at h1
  by_cases e : q = r
  · subst e
    rw [if_pos rfl, dot_axpy hf (by rw [(hs.2 q hr).1, (hs.2 c hc).1]) (hs.2 q hr).2 v hv, hcz, gm_zero, Nat.xor_zero] at h1
    exact h1
  · rw [if_neg e] at h1; exact h1

/-- The first c columns are those of the unit matrix. -/
def Unit (k c : Nat) (R : Mx) : Prop := ∀ r, r < k → ∀ j, j < c → en R r j = if r = j then 1 else 0

/-- What the elimination of one column keeps. -/
structure El (k s c r : Nat) (R L : Mx) : Prop where
  sR : Shape k k R
  sL : Shape k s L
  ker : Ker k R
  unit : Unit k c R
  row : ∀ j, j < c + 1 → en R c j = if c = j then 1 else 0
  done : ∀ q, q < r → q < k → q ≠ c → en R q c = 0
/-- What holds before each column. -/
structure Inv (k s c : Nat) (R L : Mx) : Prop where
  sR : Shape k k R
  sL : Shape k s L
  ker : Ker k R
  unit : Unit k c R
end Go.Gf
namespace Go.Gf
open Go

noncomputable def rowE (k w j : Nat) : Nat := if w < k then (if w = j then 1 else 0) else ginv ((w - k) ^^^ (16 + j))
noncomputable def rowS (k w : Nat) : Row := (List.range k).map (rowE k w)
noncomputable def matS (k : Nat) (ws : List Nat) : Mx := ws.map (rowS k)
theorem rowE_lt (k w j : Nat) : rowE k w j < 256 := by
  unfold rowE
  split
  · split <;> decide
  · exact ginv_lt _
theorem rowS_getD {k w j : Nat} (hj : j < k) : (rowS k w).getD j 0 = rowE k w j := by
  unfold rowS
  rw [List.getD_eq_getElem?_getD, List.getElem?_map, List.getElem?_range hj]; rfl
theorem lsum_single {f : Nat → Nat} {w : Nat} (hw : f w < 256) : ∀ (l : List Nat), l.Nodup → lsum l (fun j => gm (if w = j then 1 else 0) (f j)) = if w ∈ l then f w else 0
  | [], _ => by simp [lsum_nil]
  | y :: l, h => by
    rw [List.nodup_cons] at h
    rw [lsum_cons, lsum_single hw l h.2]
    by_cases e : w = y
    · subst e
      rw [if_pos rfl, if_neg h.1, if_pos (by simp), Nat.xor_zero, gm_comm, gm_one hw]
    · rw [if_neg e, zero_gm, Nat.zero_xor]
      by_cases hm : w ∈ l
      · rw [if_pos hm, if_pos (by simp [hm])]
      · rw [if_neg hm, if_neg (fun h => by rcases List.mem_cons.1 h with h | h; exact e h; exact hm h)]

end Go.Gf
