/- Nodes, their laws and the walks of Check, Compile and the law. -/
import Derived.Test.YtlgakeilplnfmaaGreatDoorYj
namespace Go.Arm
noncomputable section
open Go Go.X
variable {P : Program}
theorem Rb.el {h : AH} {v x : Value} {cs : List Value} {T el : TypeId} {i : Nat} (hT : P.underlying T = some (.slice el)) (hk : szOf P el = some 1) (H : Rb h v cs) (hx : cs[i]? = some x) :
   ∃ b o, aIndex P T v (.int .i64 (i : Int)) = some (.pointer (some ⟨b, o, none⟩)) ∧ h.cell ⟨b, o, none⟩ = some x ∧ b < h.next := by
 have hi : i < cs.length := (List.getElem?_eq_some_iff.1 hx).1
 rcases H with ⟨h0, _⟩ | ⟨b, o, c, h0, h1, rfl, h2, h3⟩
 · subst h0; exact absurd hi (Nat.not_lt_zero _)
 · refine ⟨b, o + i, ?_, by rw [h3 i hi, hx], h2⟩
   unfold aIndex
   simp only [hT, hk]
   rw [if_pos ⟨by omega, by omega, by omega⟩]
   simp
end
end Go.Arm
namespace Go.Lj
noncomputable section
open Go Go.X Go.Arm
abbrev top : Nat := 9223372036854775808
def nd7 (op val : Int) (nm ot : ByteArray) (va vb ve : Value) : List Value := [nv op, nv val, .string nm, .string ot, va, vb, ve]
abbrev Nd.c7 (x : Nd) (va vb ve : Value) : List Value := nd7 x.op x.val x.nm x.ot va vb ve
section
variable (F : Nat → Prop)
mutual
def NdC (h : AH) : Nd → List Value → Prop
 | .mk op val nm ot a b e, cs => ∃ va vb ve ca cb ce, cs = nd7 op val nm ot va vb ve ∧ (Sd h 7 va a.length ca ∧ a.length < top ∧ (∀ q, Go.Arm.vb va = some q → F q) ∧ NdL h a ca) ∧
  (Sd h 7 vb b.length cb ∧ b.length < top ∧ (∀ q, Go.Arm.vb vb = some q → F q) ∧ NdL h b cb) ∧ (Sd h 7 ve e.length ce ∧ e.length < top ∧ (∀ q, Go.Arm.vb ve = some q → F q) ∧ NdL h e ce)
def NdL (h : AH) : List Nd → List Value → Prop
 | [], cs => cs = []
 | x :: l, cs => ∃ c d, cs = c ++ d ∧ NdC h x c ∧ NdL h l d
end
def NdS (h : AH) (v : Value) (l : List Nd) : Prop := ∃ cs, Sd h 7 v l.length cs ∧ l.length < top ∧ (∀ q, Go.Arm.vb v = some q → F q) ∧ NdL F h l cs
end
variable {F : Nat → Prop} {h h' : AH} {x : Nd} {l : List Nd} {c cs : List Value} {v : Value} {S : Nat → Prop}
theorem NdC.is (H : NdC F h x c) : ∃ va vb ve, c = x.c7 va vb ve ∧ NdS F h va x.a ∧ NdS F h vb x.b ∧ NdS F h ve x.e := by
 obtain ⟨op, val, nm, ot, a, b, e⟩ := x
 unfold NdC at H
 obtain ⟨va, vb, ve, ca, cb, ce, h1, h2, h3, h4⟩ := H
 exact ⟨va, vb, ve, h1, ⟨ca, h2⟩, ⟨cb, h3⟩, ⟨ce, h4⟩⟩
theorem NdC.mk {va vb ve : Value} (ha : NdS F h va x.a) (hb : NdS F h vb x.b) (he : NdS F h ve x.e) : NdC F h x (x.c7 va vb ve) := by
 obtain ⟨op, val, nm, ot, a, b, e⟩ := x
 obtain ⟨ca, ha⟩ := ha
 obtain ⟨cb, hb⟩ := hb
 obtain ⟨ce, he⟩ := he
 unfold NdC
 exact ⟨va, vb, ve, ca, cb, ce, rfl, ha, hb, he⟩
theorem NdC.len (H : NdC F h x c) : c.length = 7 := by
 obtain ⟨va, vb, ve, rfl, _⟩ := H.is
 rfl
mutual
theorem NdC.sm {F' : Nat → Prop} (s : Go.Arm.Sm S h h') (hS : ∀ b, F b → ¬ S b) (hF : ∀ b, F b → F' b) : ∀ (x : Nd) (c : List Value), NdC F h x c → NdC F' h' x c
 | .mk op val nm ot a b e, c, H => by
  unfold NdC at H ⊢
  obtain ⟨va, vb, ve, ca, cb, ce, h1, ⟨h2, h3, g1, h4⟩, ⟨h5, h6, g2, h7⟩, h8, h9, g3, h10⟩ := H
  exact ⟨va, vb, ve, ca, cb, ce, h1, ⟨h2.sm s (fun b hb => hS b (g1 b hb)), h3, fun b hb => hF b (g1 b hb), NdL.sm s hS hF a ca h4⟩, ⟨h5.sm s (fun b hb => hS b (g2 b hb)), h6, fun b hb => hF b (g2 b hb), NdL.sm s hS hF b cb h7⟩, h8.sm s (fun b hb => hS b (g3 b hb)), h9, fun b hb => hF b (g3 b hb), NdL.sm s hS hF e ce h10⟩
theorem NdL.sm {F' : Nat → Prop} (s : Go.Arm.Sm S h h') (hS : ∀ b, F b → ¬ S b) (hF : ∀ b, F b → F' b) : ∀ (l : List Nd) (cs : List Value), NdL F h l cs → NdL F' h' l cs
 | [], cs, H => by unfold NdL at H ⊢; exact H
 | x :: l, cs, H => by
  unfold NdL at H ⊢
  obtain ⟨c, d, h1, h2, h3⟩ := H
  exact ⟨c, d, h1, NdC.sm s hS hF x c h2, NdL.sm s hS hF l d h3⟩
end
theorem NdS.sm {F' : Nat → Prop} (H : NdS F h v l) (s : Go.Arm.Sm S h h') (hS : ∀ b, F b → ¬ S b) (hF : ∀ b, F b → F' b) : NdS F' h' v l := by
 obtain ⟨cs, h1, h2, h3, h4⟩ := H
 exact ⟨cs, h1.sm s (fun b hb => hS b (h3 b hb)), h2, fun b hb => hF b (h3 b hb), NdL.sm s hS hF l cs h4⟩
theorem NdC.ext (s : Go.Arm.Sm Nix h h') (x : Nd) (c : List Value) (H : NdC F h x c) : NdC F h' x c := NdC.sm s (fun _ _ => id) (fun _ => id) x c H
theorem NdS.ext (H : NdS F h v l) (s : Go.Arm.Sm Nix h h') : NdS F h' v l := H.sm s (fun _ _ => id) (fun _ => id)
theorem NdL.at : ∀ {l : List Nd} {cs : List Value} {i : Nat} {x : Nd}, NdL F h l cs → l[i]? = some x → ∃ c, (∀ j, j < 7 → cs[i * 7 + j]? = c[j]?) ∧ NdC F h x c
 | [], _, i, _, _, h => by simp at h
 | y :: l, cs, i, x, H, hi => by
  unfold NdL at H
  obtain ⟨c, d, rfl, h2, h3⟩ := H
  have hl := h2.len
  cases i with
  | zero =>
   simp only [List.getElem?_cons_zero, Option.some.injEq] at hi
   subst hi
   exact ⟨c, fun j hj => by rw [Nat.zero_mul, Nat.zero_add, List.getElem?_append_left (by omega)], h2⟩
  | succ i =>
   rw [List.getElem?_cons_succ] at hi
   obtain ⟨c', h4, h5⟩ := NdL.at h3 hi
   refine ⟨c', fun j hj => ?_, h5⟩
   rw [List.getElem?_append_right (by omega), hl, ← h4 j hj]
   congr 1; omega
theorem NdL.nil : NdL F h [] [] := by unfold NdL; rfl
theorem NdL.one (H : NdC F h x c) : NdL F h [x] c := by
 unfold NdL
 exact ⟨c, [], by simp, H, NdL.nil⟩
theorem NdS.len (H : NdS F h v l) : l.length < top := H.choose_spec.2.1
theorem incT {k n : Nat} (hk : k < n) (hn : n < top) : Value.int .i64 (IntKind.i64.wrap ((k : Int) + 1)) = .int .i64 ((k + 1 : Nat) : Int) := by
 have : IntKind.i64.wrap ((k : Int) + 1) = ((k + 1 : Nat) : Int) := by
  have hn : n < 9223372036854775808 := hn
  rw [IntKind.wrap_i64]; omega
 rw [this]
theorem u8_ge {P : Program} (T : TypeId) (xo yo : Operand) (a b : Int) : aBin P .geq T xo yo (.int .u8 a) (.int .u8 b) h = some (.bool (decide (b ≤ a))) := by rfl
theorem u8_le {P : Program} (T : TypeId) (xo yo : Operand) (a b : Int) : aBin P .leq T xo yo (.int .u8 a) (.int .u8 b) h = some (.bool (decide (a ≤ b))) := by rfl
theorem u8_eq {P : Program} (T : TypeId) (xo yo : Operand) (a b : Int) : aBin P .eql T xo yo (.int .u8 a) (.int .u8 b) h = some (.bool (a == b)) := by rfl
theorem str_eq {P : Program} (T : TypeId) (xo yo : Operand) (a b : ByteArray) : aBin P .eql T xo yo (.string a) (.string b) h = some (.bool (decide (a = b))) := by
 have : (a.data.toList == b.data.toList) = decide (a = b) := by
  by_cases e : a = b
  · subst e; simp
  · have : a.data.toList ≠ b.data.toList := fun he => e (ByteArray.ext (Array.ext' he))
    simp [e]
    exact fun he => this (by rw [he])
 show some (Value.bool (a.data.toList == b.data.toList)) = _
 rw [this]
theorem str_ne {P : Program} (T : TypeId) (xo yo : Operand) (a b : ByteArray) : aBin P .neq T xo yo (.string a) (.string b) h = some (.bool (!decide (a = b))) := by
 have h1 := str_eq (P := P) (h := h) T xo yo a b
 have h1 : some (Value.bool (a.data.toList == b.data.toList)) = _ := h1
 have h2 : (a.data.toList == b.data.toList) = decide (a = b) := by simpa using h1
 show some (Value.bool (!(a.data.toList == b.data.toList))) = _
 rw [h2]
theorem ev_bin {Q : Program} {n : Nat} {f : Fr} {o : Oper} {op : BinOp} {T T' : TypeId} {x y : Operand} {a b v : Value} (hop : o.op = .binOp op T x y T') (hx : ev n f x = some a) (hy : ev n f y = some b) (hv : aBin Q op T x y a b h = some v) : evVal Q n f h o.op = some v := by
 rw [hop]
 simp only [evVal, hx, hy]
 exact hv
def ltr (c : Int) : Bool := decide (97 ≤ c) && decide (c ≤ 122)
def dgt (c : Int) : Bool := decide (48 ≤ c) && decide (c ≤ 57)
def inn (c : Int) : Bool := ltr c || dgt c || c == 95
def wd (op : Int) : ByteArray :=
 if op = 2 then ⟨#[115, 101, 110, 100]⟩ else if op = 3 then ⟨#[114, 101, 99, 118]⟩ else if op = 4 then ⟨#[105, 115, 101, 110, 100]⟩ else if op = 5 then ⟨#[105, 114, 101, 99, 118]⟩ else
 if op = 6 then ⟨#[119, 97, 105, 116]⟩ else if op = 7 then ⟨#[98, 97, 114, 114, 105, 101, 114]⟩ else if op = 8 then ⟨#[98, 99, 97, 115, 116]⟩ else if op = 9 then ⟨#[114, 101, 100, 117, 99, 101]⟩ else
 if op = 10 then ⟨#[112, 114, 105, 110, 116]⟩ else if op = 11 then ⟨#[119, 111, 114, 107]⟩ else if op = 12 then ⟨#[105, 102]⟩ else if op = 13 then ⟨#[119, 104, 105, 108, 101]⟩ else emp
def fo6 (op : Int) : List Value := match forms op with
 | some f => [nk f.args, .bool f.name, .bool f.other, .bool f.body, .bool f.rest, .string (wd op)]
 | none => [nv 0, .bool false, .bool false, .bool false, .bool false, .string emp]
def fl6 (op : Int) : List Value := if 30 ≤ op ∧ op ≤ 42 then [nv 0, .bool false, .bool false, .bool false, .bool false, .string emp] else fo6 op
def fis (op : Int) : Bool := if 30 ≤ op ∧ op ≤ 42 then false else (forms op).isSome
theorem fo6_len (op : Int) : (fo6 op).length = 6 := by unfold fo6; split <;> rfl
theorem fl6_len (op : Int) : (fl6 op).length = 6 := by unfold fl6; split; · rfl
                                                       · exact fo6_len op
theorem fo6_one (op : Int) : ∀ v, v ∈ fo6 op → v.oneCell' = true := by unfold fo6; split <;> exact List.all_eq_true.1 rfl
theorem fl6_one (op : Int) : ∀ v, v ∈ fl6 op → v.oneCell' = true := by
 unfold fl6; split
 · exact List.all_eq_true.1 rfl
 · exact fo6_one op
theorem kget_no {α : Type} {k k' : Int} {v : α} {l : List (Int × α)} (h : k ≠ k') : kget ((k', v) :: l) k = kget l k := if_neg (fun e => h e.symm)
theorem kget_is {α : Type} {k : Int} {v : α} {l : List (Int × α)} : kget ((k, v) :: l) k = some v := if_pos rfl
theorem fo6_5 {op : Int} (h1 : 2 ≤ op) (h2 : op ≤ 13) : (fo6 op)[5]? = some (.string (wd op)) := by
 have : op = 2 ∨ op = 3 ∨ op = 4 ∨ op = 5 ∨ op = 6 ∨ op = 7 ∨ op = 8 ∨ op = 9 ∨ op = 10 ∨ op = 11 ∨ op = 12 ∨ op = 13 := by omega
 rcases this with rfl | rfl | rfl | rfl | rfl | rfl | rfl | rfl | rfl | rfl | rfl | rfl <;> rfl
def six : List ByteArray := [⟨#[115, 115, 101, 110, 100]⟩, ⟨#[101, 108, 115, 101]⟩, ⟨#[97, 110, 121]⟩, ⟨#[114, 97, 110, 107]⟩, ⟨#[115, 105, 122, 101]⟩, ⟨#[110, 111, 116]⟩]
def sgs : List ByteArray := [⟨#[43]⟩, ⟨#[45]⟩, ⟨#[42]⟩, ⟨#[47]⟩, ⟨#[37]⟩, ⟨#[61, 61]⟩, ⟨#[33, 61]⟩, ⟨#[60]⟩, ⟨#[60, 61]⟩, ⟨#[62]⟩, ⟨#[62, 61]⟩, ⟨#[97, 110, 100]⟩, ⟨#[111, 114]⟩]
def rds : List ByteArray := [emp, ⟨#[115, 117, 109]⟩, ⟨#[112, 114, 111, 100]⟩, ⟨#[109, 105, 110]⟩, ⟨#[109, 97, 120]⟩, ⟨#[97, 110, 100]⟩, ⟨#[111, 114]⟩, ⟨#[120, 111, 114]⟩]
def hasS (l : List ByteArray) (s : ByteArray) : Bool := (l.findIdx? fun y => decide (s = y)).isSome
def wds (s : ByteArray) : Bool := ((List.range 12).findIdx? fun k => decide (wd ((k + 2 : Nat) : Int) = s)).isSome
def rsv (s : ByteArray) : Bool := wds s || hasS six s || hasS sgs s || (!decide (s = emp) && hasS rds s)
def nok (s : ByteArray) : Bool := decide (1 ≤ s.size) && decide (s.size ≤ 12) && (match s.data.toList[0]? with | some c => ltr c.toNat | none => false) && !rsv s && s.data.toList.all fun c => inn c.toNat
theorem ev_ix {Q : Program} {n : Nat} {f : Fr} {o : Oper} {T : TypeId} {x y : Operand} {a b v : Value} (hop : o.op = .index T x y) (hx : ev n f x = some a) (hy : ev n f y = some b) (hv : aIndexV Q T a b = some v) : evVal Q n f h o.op = some v := by
 rw [hop]
 simp only [evVal, hx, hy]
 exact hv
theorem ix_str {P : Program} {T : TypeId} {s : ByteArray} {c : UInt8} (hT : P.underlying T = some .string) (hc : s.data.toList[0]? = some c) : aIndexV P T (.string s) (nv 0) = some (.int .u8 c.toNat) := by
 show aIndexV P T (.string s) (.int .i64 0) = _
 unfold aIndexV
 simp only [hT]
 rw [if_pos (by decide)]
 show (match s.data.toList[0]? with | some b => some (Value.int .u8 b.toNat) | none => none) = _
 rw [hc]
theorem sz_mem {x : Nd} : ∀ {l : List Nd}, x ∈ l → sz1 x ≤ szl l
 | y :: l, h => by
  rw [szl]
  rcases List.mem_cons.1 h with rfl | h
  · omega
  · have := sz_mem h; omega
theorem sz_is (x : Nd) : sz1 x = 1 + szl x.a + szl x.b + szl x.e := by cases x; rfl
theorem fma_any (nk : ByteArray → Bool) (pl : Nat) : ∀ l : List Nd, fma nk pl l = !l.any fun y => !fm nk pl y
 | [] => rfl
 | x :: l => by
  rw [fma, fma_any nk pl l, List.any_cons, Bool.not_or, Bool.not_not]
theorem NdS.form (H : NdS F h v l) : ∃ a c, v = .slice a l.length c := by
 obtain ⟨cs, h1, _⟩ := H
 exact h1.form
def bad2 (pl : Nat) (op : Int) : Bool := (decide (op ≤ 13) != decide (pl = 0)) || (decide (op = 24) && !decide (pl = 2))
def bad4 (f : Fo) (x : Nd) : Bool := !decide (x.a.length = f.args) || (!f.body && !x.b.isEmpty) || (!f.rest && !x.e.isEmpty) || !fitv x.op x.val
def bad6 (f : Fo) (x : Nd) : Bool := (f.name != nok x.nm) || (!f.name && !decide (x.nm = emp)) || (f.other != nok x.ot) || (!f.other && !decide (x.ot = emp))
theorem fm_some {pl : Nat} {x : Nd} {f : Fo} (hf : forms x.op = some f) : fm nok pl x = (!bad2 pl x.op && !bad4 f x && !bad6 f x && fma nok (inner x.op) x.a && fma nok 0 x.b && fma nok 0 x.e) := by
 obtain ⟨op, val, nm, ot, a, b, e⟩ := x
 unfold fm bad2 bad4 bad6
 have hf : forms op = some f := hf
 simp only [hf, Nd.op, Nd.val, Nd.nm, Nd.ot, Nd.a, Nd.b, Nd.e, bne, Bool.not_or, Bool.not_and, Bool.not_not, Bool.and_assoc]
 rfl
theorem fm_none {pl : Nat} {x : Nd} (hf : forms x.op = none) : fm nok pl x = false := by
 obtain ⟨op, val, nm, ot, a, b, e⟩ := x
 have hf : forms op = none := hf
 unfold fm
 simp only [hf]
theorem dpl_any (d : Nat) : ∀ l : List Nd, dpl d l = l.any (dp1 d)
 | [] => rfl
 | x :: l => by rw [dpl, List.any_cons, dpl_any d l]
theorem dp1_z (x : Nd) : dp1 0 x = true := by cases x; rfl
theorem dp1_s (d : Nat) (x : Nd) : dp1 (d + 1) x = (dpl d x.a || dpl d x.b || dpl d x.e) := by cases x; rfl
abbrev cwr : Int → Int := IntKind.i64.wrap
theorem cn1_eq (x : Nd) : cn1 cwr 300 x = cwr (cwr (cwr (1 + cnl cwr 300 0 x.a) + cnl cwr 300 0 x.b) + cnl cwr 300 0 x.e) := by cases x; rfl
end
end Go.Lj
namespace Go.Proofs.YtlgakeilplnfmaaGreatDoor
noncomputable section
open Go Go.X Go.Arm Go.Mt Go.Lj
theorem letter_ok {h : AH} {c : Int} :
   Arm.Calls Tryz.prog 67 [.int .u8 c] h (fun r => r.1 = .bool (ltr c) ∧ Go.Arm.Sm Nix h r.2) := by
 by_cases q1 : 97 ≤ c
 · have e9 : ltr c = decide (c ≤ 122) := by unfold ltr; simp [q1]
   rw [e9]
   refine Calls_W 9 Tryz.f67 ?_
   have T0 : Sm Nix h h := .refl
   refine W_sg 1 kr (L_nil (W_sg 1 kr (L_p (.bool true) rfl ((ev_bin (o := _) rfl kr kr (u8_ge _ _ _ c 97)).trans (by rw [decide_eq_true q1])) (L_g 2 kr (L_want kr (L_p (.bool (decide (c ≤ 122))) rfl (ev_bin (o := _) rfl kr kr (u8_le _ _ _ c 122)) (L_g 2 kr ?_)))))))
   refine L_nil (W_ret ?_)
   refine rr ?_
   refine done_of (v := .bool (decide (c ≤ 122))) (.inl rfl) kr ?_
   exact ⟨rfl, T0⟩
 · have e9 : ltr c = false := by unfold ltr; simp [q1]
   rw [e9]
   refine Calls_W 9 Tryz.f67 ?_
   have T0 : Sm Nix h h := .refl
   refine W_sg 1 kr (L_nil (W_sg 1 kr (L_p (.bool false) rfl ((ev_bin (o := _) rfl kr kr (u8_ge _ _ _ c 97)).trans (by rw [decide_eq_false q1])) (L_g 5 kr (L_nil (W_ret ?_))))))
   refine rr ?_
   refine done_of (v := .bool false) (.inl rfl) kr ?_
   exact ⟨rfl, T0⟩
theorem digit_ok {h : AH} {c : Int} :
   Arm.Calls Tryz.prog 78 [.int .u8 c] h (fun r => r.1 = .bool (dgt c) ∧ Go.Arm.Sm Nix h r.2) := by
 by_cases q1 : 48 ≤ c
 · have e9 : dgt c = decide (c ≤ 57) := by unfold dgt; simp [q1]
   rw [e9]
   refine Calls_W 9 Tryz.f78 ?_
   have T0 : Sm Nix h h := .refl
   refine W_sg 1 kr (L_nil (W_sg 1 kr (L_p (.bool true) rfl ((ev_bin (o := _) rfl kr kr (u8_ge _ _ _ c 48)).trans (by rw [decide_eq_true q1])) (L_g 2 kr (L_want kr (L_p (.bool (decide (c ≤ 57))) rfl (ev_bin (o := _) rfl kr kr (u8_le _ _ _ c 57)) (L_g 2 kr ?_)))))))
   refine L_nil (W_ret ?_)
   refine rr ?_
   refine done_of (v := .bool (decide (c ≤ 57))) (.inl rfl) kr ?_
   exact ⟨rfl, T0⟩
 · have e9 : dgt c = false := by unfold dgt; simp [q1]
   rw [e9]
   refine Calls_W 9 Tryz.f78 ?_
   have T0 : Sm Nix h h := .refl
   refine W_sg 1 kr (L_nil (W_sg 1 kr (L_p (.bool false) rfl ((ev_bin (o := _) rfl kr kr (u8_ge _ _ _ c 48)).trans (by rw [decide_eq_false q1])) (L_g 5 kr (L_nil (W_ret ?_))))))
   refine rr ?_
   refine done_of (v := .bool false) (.inl rfl) kr ?_
   exact ⟨rfl, T0⟩
theorem inner_ok {h : AH} {c : Int} :
  Arm.Calls Tryz.prog 69 [.int .u8 c] h (fun r => r.1 = .bool (inn c) ∧ Go.Arm.Sm Nix h r.2) := by
 have e9 : inn c = (ltr c || dgt c || c == 95) := rfl
 cases q1 : ltr c with
 | true =>
  rw [e9, q1, Bool.true_or, Bool.true_or]
  refine Calls_W 13 Tryz.f69 ?_
  have T0 : Sm Nix h h := .refl
  refine W_sg 1 kr (L_nil (W_seq (W_region (L_g 1 kr ?_))))
  have hq1 := letter_ok (c := c) (h := h)
  rw [q1] at hq1
  refine L_c rfl rfl kr (hq1) ?_
  rintro v1 h1 ⟨e1, t1⟩
  try dsimp only at e1 t1
  subst e1
  have T1 := T0.ext t1
  have N1 := T1.nx
  have M1 := t1.nx
  refine L_g 9 kr (L_nil (W_ret ?_))
  refine rr ?_
  refine done_of (v := .bool true) (.inl rfl) kr ?_
  exact ⟨rfl, T1⟩
 | false =>
  cases q2 : dgt c with
  | true =>
   rw [e9, q1, q2, Bool.false_or, Bool.true_or]
   refine Calls_W 13 Tryz.f69 ?_
   have T0 : Sm Nix h h := .refl
   refine W_sg 1 kr (L_nil (W_seq (W_region (L_g 1 kr ?_))))
   have hq2 := letter_ok (c := c) (h := h)
   rw [q1] at hq2
   refine L_c rfl rfl kr (hq2) ?_
   rintro v2 h2 ⟨e2, t2⟩
   try dsimp only at e2 t2
   subst e2
   have T2 := T0.ext t2
   have N2 := T2.nx
   have M2 := t2.nx
   refine L_g 2 kr ?_
   have hq3 := digit_ok (c := c) (h := h2)
   rw [q2] at hq3
   refine L_want kr (L_c rfl rfl kr (hq3) ?_)
   rintro v3 h3 ⟨e3, t3⟩
   try dsimp only at e3 t3
   subst e3
   have T3 := T2.ext t3
   have N3 := T3.nx
   have M3 := t3.nx
   refine L_g 6 kr (L_nil (W_ret ?_))
   refine rr ?_
   refine done_of (v := .bool true) (.inl rfl) kr ?_
   exact ⟨rfl, T3⟩
  | false =>
   rw [e9, q1, q2, Bool.false_or, Bool.false_or]
   refine Calls_W 13 Tryz.f69 ?_
   have T0 : Sm Nix h h := .refl
   refine W_sg 1 kr (L_nil (W_seq (W_region (L_g 1 kr ?_))))
   have hq4 := letter_ok (c := c) (h := h)
   rw [q1] at hq4
   refine L_c rfl rfl kr (hq4) ?_
   rintro v4 h4 ⟨e4, t4⟩
   try dsimp only at e4 t4
   subst e4
   have T4 := T0.ext t4
   have N4 := T4.nx
   have M4 := t4.nx
   refine L_g 2 kr ?_
   have hq5 := digit_ok (c := c) (h := h4)
   rw [q2] at hq5
   refine L_want kr (L_c rfl rfl kr (hq5) ?_)
   rintro v5 h5 ⟨e5, t5⟩
   try dsimp only at e5 t5
   subst e5
   have T5 := T4.ext t5
   have N5 := T5.nx
   have M5 := t5.nx
   refine L_g 3 kr (L_want kr (L_p (.bool (c == 95)) rfl (ev_bin (o := _) rfl kr kr (u8_eq _ _ _ c 95)) (L_g 2 kr (L_nil (W_ret ?_)))))
   refine rr ?_
   refine done_of (v := .bool (c == 95)) (.inl rfl) kr ?_
   exact ⟨rfl, T5⟩
end
end Go.Proofs.YtlgakeilplnfmaaGreatDoor
namespace Go.Proofs.YtlgakeilplnfmaaGreatDoor
noncomputable section
open Go Go.X Go.Arm Go.Mt Go.Lj
theorem kInt : KeyK Tryz.prog 3 nv := KeyK.int kr (fun e k => by kernel_rfl)
def fmap : List (Int × Value) := [(1, .agg ⟨[nv 1, .bool true, .bool false, .bool false, .bool false, .string emp]⟩), (2, .agg ⟨[nv 3, .bool false, .bool false, .bool false, .bool false, .string ⟨#[115, 101, 110, 100]⟩]⟩), (3, .agg ⟨[nv 2, .bool true, .bool false, .bool false, .bool false, .string ⟨#[114, 101, 99, 118]⟩]⟩), (4, .agg ⟨[nv 3, .bool true, .bool false, .bool false, .bool false, .string ⟨#[105, 115, 101, 110, 100]⟩]⟩), (5, .agg ⟨[nv 2, .bool true, .bool true, .bool false, .bool false, .string ⟨#[105, 114, 101, 99, 118]⟩]⟩), (6, .agg ⟨[nv 0, .bool true, .bool false, .bool false, .bool false, .string ⟨#[119, 97, 105, 116]⟩]⟩), (7, .agg ⟨[nv 0, .bool false, .bool false, .bool false, .bool false, .string ⟨#[98, 97, 114, 114, 105, 101, 114]⟩]⟩), (8, .agg ⟨[nv 1, .bool true, .bool false, .bool false, .bool false, .string ⟨#[98, 99, 97, 115, 116]⟩]⟩), (9, .agg ⟨[nv 0, .bool true, .bool false, .bool false, .bool false, .string ⟨#[114, 101, 100, 117, 99, 101]⟩]⟩), (10, .agg ⟨[nv 1, .bool false, .bool false, .bool false, .bool false, .string ⟨#[112, 114, 105, 110, 116]⟩]⟩), (11, .agg ⟨[nv 1, .bool false, .bool false, .bool false, .bool false, .string ⟨#[119, 111, 114, 107]⟩]⟩), (12, .agg ⟨[nv 1, .bool false, .bool false, .bool true, .bool true, .string ⟨#[105, 102]⟩]⟩), (13, .agg ⟨[nv 1, .bool false, .bool false, .bool true, .bool false, .string ⟨#[119, 104, 105, 108, 101]⟩]⟩), (20, .agg ⟨[nv 0, .bool false, .bool false, .bool false, .bool false, .string emp]⟩), (21, .agg ⟨[nv 0, .bool true, .bool false, .bool false, .bool false, .string emp]⟩), (22, .agg ⟨[nv 0, .bool false, .bool false, .bool false, .bool false, .string emp]⟩), (23, .agg ⟨[nv 0, .bool false, .bool false, .bool false, .bool false, .string emp]⟩), (24, .agg ⟨[nv 0, .bool false, .bool false, .bool false, .bool false, .string emp]⟩), (25, .agg ⟨[nv 1, .bool false, .bool false, .bool false, .bool false, .string emp]⟩), (26, .agg ⟨[nv 1, .bool false, .bool false, .bool false, .bool false, .string emp]⟩)]
theorem fmap_get (op : Int) : (kget fmap op = none ∧ fl6 op = [nv 0, .bool false, .bool false, .bool false, .bool false, .string emp] ∧ fis op = false) ∨ (kget fmap op = some (.agg ⟨fl6 op⟩) ∧ fis op = true) := by
 by_cases hr : 30 ≤ op ∧ op ≤ 42
 · refine .inl ⟨?_, if_pos hr, if_pos hr⟩
   unfold fmap
   repeat rw [kget_no (by omega)]
   rfl
 · have e1 : fl6 op = fo6 op := if_neg hr
   have e2 : fis op = (forms op).isSome := if_neg hr
   rw [e1, e2]
   unfold fmap fo6 forms
   rw [if_neg hr]
   by_cases k1 : op = 1
   · subst k1; right; exact ⟨kget_is, rfl⟩
   rw [kget_no k1, if_neg k1]
   by_cases k2 : op = 2
   · subst k2; right; exact ⟨kget_is, rfl⟩
   rw [kget_no k2, if_neg k2]
   by_cases k3 : op = 3
   · subst k3; right; exact ⟨kget_is, rfl⟩
   rw [kget_no k3, if_neg k3]
   by_cases k4 : op = 4
   · subst k4; right; exact ⟨kget_is, rfl⟩
   rw [kget_no k4, if_neg k4]
   by_cases k5 : op = 5
   · subst k5; right; exact ⟨kget_is, rfl⟩
   rw [kget_no k5, if_neg k5]
   by_cases k6 : op = 6
   · subst k6; right; exact ⟨kget_is, rfl⟩
   rw [kget_no k6, if_neg k6]
   by_cases k7 : op = 7
   · subst k7; right; exact ⟨kget_is, rfl⟩
   rw [kget_no k7, if_neg k7]
   by_cases k8 : op = 8
   · subst k8; right; exact ⟨kget_is, rfl⟩
   rw [kget_no k8, if_neg k8]
   by_cases k9 : op = 9
   · subst k9; right; exact ⟨kget_is, rfl⟩
   rw [kget_no k9, if_neg k9]
   by_cases k10 : op = 10
   · subst k10; right; exact ⟨kget_is, rfl⟩
   rw [kget_no k10, if_neg k10]
   by_cases k11 : op = 11
   · subst k11; right; exact ⟨kget_is, rfl⟩
   rw [kget_no k11, if_neg k11]
   by_cases k12 : op = 12
   · subst k12; right; exact ⟨kget_is, rfl⟩
   rw [kget_no k12, if_neg k12]
   by_cases k13 : op = 13
   · subst k13; right; exact ⟨kget_is, rfl⟩
   rw [kget_no k13, if_neg k13]
   by_cases k20 : op = 20
   · subst k20; right; exact ⟨kget_is, rfl⟩
   rw [kget_no k20, if_neg k20]
   by_cases k21 : op = 21
   · subst k21; right; exact ⟨kget_is, rfl⟩
   rw [kget_no k21, if_neg k21]
   by_cases k22 : op = 22
   · subst k22; right; exact ⟨kget_is, rfl⟩
   rw [kget_no k22, if_neg k22]
   by_cases k23 : op = 23
   · subst k23; right; exact ⟨kget_is, rfl⟩
   rw [kget_no k23, if_neg k23]
   by_cases k24 : op = 24
   · subst k24; right; exact ⟨kget_is, rfl⟩
   rw [kget_no k24, if_neg k24]
   by_cases k25 : op = 25
   · subst k25; right; exact ⟨kget_is, rfl⟩
   rw [kget_no k25, if_neg k25]
   by_cases k26 : op = 26
   · subst k26; right; exact ⟨kget_is, rfl⟩
   rw [kget_no k26, if_neg k26]
   exact .inl ⟨rfl, rfl, rfl⟩
theorem forms_ok {h : AH} {op : Int} :
  Arm.Calls Tryz.prog 41 [nv op] h (fun r => r.1 = .tuple ⟨[.agg ⟨fo6 op⟩, .bool (forms op).isSome]⟩ ∧ Go.Arm.Sm Nix h r.2) := by
 refine Calls_W 42 Tryz.f41 ?_
 have T0 : Sm Nix h h := .refl
 refine W_seq (W_region (L_nwc [nv 0, .bool false, .bool false, .bool false, .bool false, .string ⟨#[]⟩] .ptr rfl rfl kr fun h6 c6 t6 n6 => ?_))
 have T6 := T0.ext t6
 have N6 := T6.nx
 refine L_g 1 kr (L_nil (W_seq (W_region (L_nw (Al.map) .mp rfl rfl kr ?_))))
 have m7 : Mp (h6.push (Al.map).obj) h6.next nv (fun (v : Value) (y : Value) => v = y) ([] : List (Int × Value)) := Mp.new h6
 have t7 : Sm Nix h6 (h6.push (Al.map).obj) := .push h6 _
 have n7 : (h6.push (Al.map).obj).next = h6.next + 1 := rfl
 generalize h6.push (Al.map).obj = h7 at m7 t7 n7 ⊢
 replace c6 := c6.ext t7
 have T7 := T6.ext t7
 have N7 := T7.nx
 refine L_g 1 kr ?_
 obtain ⟨h8, e8, d8, t8, n8⟩ := m7.update (P := Tryz.prog) (T := 157) (el := 123) kr kInt 1 (v := (.agg ⟨[nv 1, .bool true, .bool false, .bool false, .bool false, .string emp]⟩)) (y := (.agg ⟨[nv 1, .bool true, .bool false, .bool false, .bool false, .string emp]⟩)) rfl
 refine L_in h8 rfl rfl rfl kr kr kr e8 ?_
 replace c6 := c6.sn t8
 have T8 : Sm Nix h h8 := T7.trans t8 (fun x hx => .inr (by have hx : x = h6.next := hx; omega))
 have N8 := T8.nx
 refine L_g 1 kr ?_
 obtain ⟨h9, e9, d9, t9, n9⟩ := d8.update (P := Tryz.prog) (T := 157) (el := 123) kr kInt 2 (v := (.agg ⟨[nv 3, .bool false, .bool false, .bool false, .bool false, .string ⟨#[115, 101, 110, 100]⟩]⟩)) (y := (.agg ⟨[nv 3, .bool false, .bool false, .bool false, .bool false, .string ⟨#[115, 101, 110, 100]⟩]⟩)) rfl
 refine L_in h9 rfl rfl rfl kr kr kr e9 ?_
 replace c6 := c6.sn t9
 have T9 : Sm Nix h h9 := T8.trans t9 (fun x hx => .inr (by have hx : x = h6.next := hx; omega))
 have N9 := T9.nx
 refine L_g 1 kr ?_
 obtain ⟨h10, e10, d10, t10, n10⟩ := d9.update (P := Tryz.prog) (T := 157) (el := 123) kr kInt 3 (v := (.agg ⟨[nv 2, .bool true, .bool false, .bool false, .bool false, .string ⟨#[114, 101, 99, 118]⟩]⟩)) (y := (.agg ⟨[nv 2, .bool true, .bool false, .bool false, .bool false, .string ⟨#[114, 101, 99, 118]⟩]⟩)) rfl
 refine L_in h10 rfl rfl rfl kr kr kr e10 ?_
 replace c6 := c6.sn t10
 have T10 : Sm Nix h h10 := T9.trans t10 (fun x hx => .inr (by have hx : x = h6.next := hx; omega))
 have N10 := T10.nx
 refine L_g 1 kr ?_
 obtain ⟨h11, e11, d11, t11, n11⟩ := d10.update (P := Tryz.prog) (T := 157) (el := 123) kr kInt 4 (v := (.agg ⟨[nv 3, .bool true, .bool false, .bool false, .bool false, .string ⟨#[105, 115, 101, 110, 100]⟩]⟩)) (y := (.agg ⟨[nv 3, .bool true, .bool false, .bool false, .bool false, .string ⟨#[105, 115, 101, 110, 100]⟩]⟩)) rfl
 refine L_in h11 rfl rfl rfl kr kr kr e11 ?_
 replace c6 := c6.sn t11
 have T11 : Sm Nix h h11 := T10.trans t11 (fun x hx => .inr (by have hx : x = h6.next := hx; omega))
 have N11 := T11.nx
 refine L_g 1 kr ?_
 obtain ⟨h12, e12, d12, t12, n12⟩ := d11.update (P := Tryz.prog) (T := 157) (el := 123) kr kInt 5 (v := (.agg ⟨[nv 2, .bool true, .bool true, .bool false, .bool false, .string ⟨#[105, 114, 101, 99, 118]⟩]⟩)) (y := (.agg ⟨[nv 2, .bool true, .bool true, .bool false, .bool false, .string ⟨#[105, 114, 101, 99, 118]⟩]⟩)) rfl
 refine L_in h12 rfl rfl rfl kr kr kr e12 ?_
 replace c6 := c6.sn t12
 have T12 : Sm Nix h h12 := T11.trans t12 (fun x hx => .inr (by have hx : x = h6.next := hx; omega))
 have N12 := T12.nx
 refine L_g 1 kr ?_
 obtain ⟨h13, e13, d13, t13, n13⟩ := d12.update (P := Tryz.prog) (T := 157) (el := 123) kr kInt 6 (v := (.agg ⟨[nv 0, .bool true, .bool false, .bool false, .bool false, .string ⟨#[119, 97, 105, 116]⟩]⟩)) (y := (.agg ⟨[nv 0, .bool true, .bool false, .bool false, .bool false, .string ⟨#[119, 97, 105, 116]⟩]⟩)) rfl
 refine L_in h13 rfl rfl rfl kr kr kr e13 ?_
 replace c6 := c6.sn t13
 have T13 : Sm Nix h h13 := T12.trans t13 (fun x hx => .inr (by have hx : x = h6.next := hx; omega))
 have N13 := T13.nx
 refine L_g 1 kr ?_
 obtain ⟨h14, e14, d14, t14, n14⟩ := d13.update (P := Tryz.prog) (T := 157) (el := 123) kr kInt 7 (v := (.agg ⟨[nv 0, .bool false, .bool false, .bool false, .bool false, .string ⟨#[98, 97, 114, 114, 105, 101, 114]⟩]⟩)) (y := (.agg ⟨[nv 0, .bool false, .bool false, .bool false, .bool false, .string ⟨#[98, 97, 114, 114, 105, 101, 114]⟩]⟩)) rfl
 refine L_in h14 rfl rfl rfl kr kr kr e14 ?_
 replace c6 := c6.sn t14
 have T14 : Sm Nix h h14 := T13.trans t14 (fun x hx => .inr (by have hx : x = h6.next := hx; omega))
 have N14 := T14.nx
 refine L_g 1 kr ?_
 obtain ⟨h15, e15, d15, t15, n15⟩ := d14.update (P := Tryz.prog) (T := 157) (el := 123) kr kInt 8 (v := (.agg ⟨[nv 1, .bool true, .bool false, .bool false, .bool false, .string ⟨#[98, 99, 97, 115, 116]⟩]⟩)) (y := (.agg ⟨[nv 1, .bool true, .bool false, .bool false, .bool false, .string ⟨#[98, 99, 97, 115, 116]⟩]⟩)) rfl
 refine L_in h15 rfl rfl rfl kr kr kr e15 ?_
 replace c6 := c6.sn t15
 have T15 : Sm Nix h h15 := T14.trans t15 (fun x hx => .inr (by have hx : x = h6.next := hx; omega))
 have N15 := T15.nx
 refine L_g 1 kr ?_
 obtain ⟨h16, e16, d16, t16, n16⟩ := d15.update (P := Tryz.prog) (T := 157) (el := 123) kr kInt 9 (v := (.agg ⟨[nv 0, .bool true, .bool false, .bool false, .bool false, .string ⟨#[114, 101, 100, 117, 99, 101]⟩]⟩)) (y := (.agg ⟨[nv 0, .bool true, .bool false, .bool false, .bool false, .string ⟨#[114, 101, 100, 117, 99, 101]⟩]⟩)) rfl
 refine L_in h16 rfl rfl rfl kr kr kr e16 ?_
 replace c6 := c6.sn t16
 have T16 : Sm Nix h h16 := T15.trans t16 (fun x hx => .inr (by have hx : x = h6.next := hx; omega))
 have N16 := T16.nx
 refine L_g 1 kr ?_
 obtain ⟨h17, e17, d17, t17, n17⟩ := d16.update (P := Tryz.prog) (T := 157) (el := 123) kr kInt 10 (v := (.agg ⟨[nv 1, .bool false, .bool false, .bool false, .bool false, .string ⟨#[112, 114, 105, 110, 116]⟩]⟩)) (y := (.agg ⟨[nv 1, .bool false, .bool false, .bool false, .bool false, .string ⟨#[112, 114, 105, 110, 116]⟩]⟩)) rfl
 refine L_in h17 rfl rfl rfl kr kr kr e17 ?_
 replace c6 := c6.sn t17
 have T17 : Sm Nix h h17 := T16.trans t17 (fun x hx => .inr (by have hx : x = h6.next := hx; omega))
 have N17 := T17.nx
 refine L_g 1 kr ?_
 obtain ⟨h18, e18, d18, t18, n18⟩ := d17.update (P := Tryz.prog) (T := 157) (el := 123) kr kInt 11 (v := (.agg ⟨[nv 1, .bool false, .bool false, .bool false, .bool false, .string ⟨#[119, 111, 114, 107]⟩]⟩)) (y := (.agg ⟨[nv 1, .bool false, .bool false, .bool false, .bool false, .string ⟨#[119, 111, 114, 107]⟩]⟩)) rfl
 refine L_in h18 rfl rfl rfl kr kr kr e18 ?_
 replace c6 := c6.sn t18
 have T18 : Sm Nix h h18 := T17.trans t18 (fun x hx => .inr (by have hx : x = h6.next := hx; omega))
 have N18 := T18.nx
 refine L_g 1 kr ?_
 obtain ⟨h19, e19, d19, t19, n19⟩ := d18.update (P := Tryz.prog) (T := 157) (el := 123) kr kInt 12 (v := (.agg ⟨[nv 1, .bool false, .bool false, .bool true, .bool true, .string ⟨#[105, 102]⟩]⟩)) (y := (.agg ⟨[nv 1, .bool false, .bool false, .bool true, .bool true, .string ⟨#[105, 102]⟩]⟩)) rfl
 refine L_in h19 rfl rfl rfl kr kr kr e19 ?_
 replace c6 := c6.sn t19
 have T19 : Sm Nix h h19 := T18.trans t19 (fun x hx => .inr (by have hx : x = h6.next := hx; omega))
 have N19 := T19.nx
 refine L_g 1 kr ?_
 obtain ⟨h20, e20, d20, t20, n20⟩ := d19.update (P := Tryz.prog) (T := 157) (el := 123) kr kInt 13 (v := (.agg ⟨[nv 1, .bool false, .bool false, .bool true, .bool false, .string ⟨#[119, 104, 105, 108, 101]⟩]⟩)) (y := (.agg ⟨[nv 1, .bool false, .bool false, .bool true, .bool false, .string ⟨#[119, 104, 105, 108, 101]⟩]⟩)) rfl
 refine L_in h20 rfl rfl rfl kr kr kr e20 ?_
 replace c6 := c6.sn t20
 have T20 : Sm Nix h h20 := T19.trans t20 (fun x hx => .inr (by have hx : x = h6.next := hx; omega))
 have N20 := T20.nx
 refine L_g 1 kr ?_
 obtain ⟨h21, e21, d21, t21, n21⟩ := d20.update (P := Tryz.prog) (T := 157) (el := 123) kr kInt 20 (v := (.agg ⟨[nv 0, .bool false, .bool false, .bool false, .bool false, .string emp]⟩)) (y := (.agg ⟨[nv 0, .bool false, .bool false, .bool false, .bool false, .string emp]⟩)) rfl
 refine L_in h21 rfl rfl rfl kr kr kr e21 ?_
 replace c6 := c6.sn t21
 have T21 : Sm Nix h h21 := T20.trans t21 (fun x hx => .inr (by have hx : x = h6.next := hx; omega))
 have N21 := T21.nx
 refine L_g 1 kr ?_
 obtain ⟨h22, e22, d22, t22, n22⟩ := d21.update (P := Tryz.prog) (T := 157) (el := 123) kr kInt 21 (v := (.agg ⟨[nv 0, .bool true, .bool false, .bool false, .bool false, .string emp]⟩)) (y := (.agg ⟨[nv 0, .bool true, .bool false, .bool false, .bool false, .string emp]⟩)) rfl
 refine L_in h22 rfl rfl rfl kr kr kr e22 ?_
 replace c6 := c6.sn t22
 have T22 : Sm Nix h h22 := T21.trans t22 (fun x hx => .inr (by have hx : x = h6.next := hx; omega))
 have N22 := T22.nx
 refine L_g 1 kr ?_
 obtain ⟨h23, e23, d23, t23, n23⟩ := d22.update (P := Tryz.prog) (T := 157) (el := 123) kr kInt 22 (v := (.agg ⟨[nv 0, .bool false, .bool false, .bool false, .bool false, .string emp]⟩)) (y := (.agg ⟨[nv 0, .bool false, .bool false, .bool false, .bool false, .string emp]⟩)) rfl
 refine L_in h23 rfl rfl rfl kr kr kr e23 ?_
 replace c6 := c6.sn t23
 have T23 : Sm Nix h h23 := T22.trans t23 (fun x hx => .inr (by have hx : x = h6.next := hx; omega))
 have N23 := T23.nx
 refine L_g 1 kr ?_
 obtain ⟨h24, e24, d24, t24, n24⟩ := d23.update (P := Tryz.prog) (T := 157) (el := 123) kr kInt 23 (v := (.agg ⟨[nv 0, .bool false, .bool false, .bool false, .bool false, .string emp]⟩)) (y := (.agg ⟨[nv 0, .bool false, .bool false, .bool false, .bool false, .string emp]⟩)) rfl
 refine L_in h24 rfl rfl rfl kr kr kr e24 ?_
 replace c6 := c6.sn t24
 have T24 : Sm Nix h h24 := T23.trans t24 (fun x hx => .inr (by have hx : x = h6.next := hx; omega))
 have N24 := T24.nx
 refine L_g 1 kr ?_
 obtain ⟨h25, e25, d25, t25, n25⟩ := d24.update (P := Tryz.prog) (T := 157) (el := 123) kr kInt 24 (v := (.agg ⟨[nv 0, .bool false, .bool false, .bool false, .bool false, .string emp]⟩)) (y := (.agg ⟨[nv 0, .bool false, .bool false, .bool false, .bool false, .string emp]⟩)) rfl
 refine L_in h25 rfl rfl rfl kr kr kr e25 ?_
 replace c6 := c6.sn t25
 have T25 : Sm Nix h h25 := T24.trans t25 (fun x hx => .inr (by have hx : x = h6.next := hx; omega))
 have N25 := T25.nx
 refine L_g 1 kr ?_
 obtain ⟨h26, e26, d26, t26, n26⟩ := d25.update (P := Tryz.prog) (T := 157) (el := 123) kr kInt 25 (v := (.agg ⟨[nv 1, .bool false, .bool false, .bool false, .bool false, .string emp]⟩)) (y := (.agg ⟨[nv 1, .bool false, .bool false, .bool false, .bool false, .string emp]⟩)) rfl
 refine L_in h26 rfl rfl rfl kr kr kr e26 ?_
 replace c6 := c6.sn t26
 have T26 : Sm Nix h h26 := T25.trans t26 (fun x hx => .inr (by have hx : x = h6.next := hx; omega))
 have N26 := T26.nx
 refine L_g 1 kr ?_
 obtain ⟨h27, e27, d27, t27, n27⟩ := d26.update (P := Tryz.prog) (T := 157) (el := 123) kr kInt 26 (v := (.agg ⟨[nv 1, .bool false, .bool false, .bool false, .bool false, .string emp]⟩)) (y := (.agg ⟨[nv 1, .bool false, .bool false, .bool false, .bool false, .string emp]⟩)) rfl
 refine L_in h27 rfl rfl rfl kr kr kr e27 ?_
 replace c6 := c6.sn t27
 have T27 : Sm Nix h h27 := T26.trans t27 (fun x hx => .inr (by have hx : x = h6.next := hx; omega))
 have N27 := T27.nx
 refine L_g 2 kr ?_
 have hm9 : Mp h27 (h6.next) nv (fun (v : Value) (y : Value) => v = y) fmap := d27
 have hlk : aLookup Tryz.prog 157 (.map (some (h6.next))) (nv op) true h27 = some (.tuple ⟨[.agg ⟨fl6 op⟩, .bool (fis op)]⟩) := by
  rcases hm9.lookup (P := Tryz.prog) (T := 157) (kt := 3) (el := 123) (z := .agg ⟨[nv 0, .bool false, .bool false, .bool false, .bool false, .string emp]⟩) kr kInt kr op true with ⟨q1, q2⟩ | ⟨v, x, q1, q2, q3⟩
  · rcases fmap_get op with ⟨g1, g2, g3⟩ | ⟨g1, g2⟩
    · rw [g2, g3]; exact q2
    · rw [g1] at q1; cases q1
  · rcases fmap_get op with ⟨g1, g2, g3⟩ | ⟨g1, g2⟩
    · rw [g1] at q1; cases q1
    · rw [g1] at q1; cases q1; subst q2; rw [g2]; exact q3
 refine L_lk _ rfl rfl kr kr (hlk) (L_g 3 kr (L_nwc [nv 0, .bool false, .bool false, .bool false, .bool false, .string ⟨#[]⟩] .ptr rfl rfl kr fun h28 c28 t28 n28 => ?_))
 replace c6 := c6.ext t28
 have T28 := T27.ext t28
 have N28 := T28.nx
 obtain ⟨h29, e29, d29, t29, n29⟩ := Cl.storeN (P := Tryz.prog) (T := 123) (n := 6) (v := .agg ⟨fl6 op⟩) (cs := fl6 op) c28 rfl kr rfl (fl6_len op) (fl6_one op)
 replace c6 := c6.sn t29
 replace c28 := d29
 have T29 := T28.tr t29
 have N29 := T29.nx
 refine L_st _ rfl rfl rfl kr kr (e29) (L_g 1 kr (L_nil (W_seq (W_seq ?_))))
 have h3 : (30 ≤ op ∧ op ≤ 42) ∨ (30 ≤ op ∧ ¬ op ≤ 42) ∨ ¬ 30 ≤ op := by omega
 rcases h3 with ⟨q1, q2⟩ | ⟨q1, q2⟩ | q1
 ·
  refine W_rg 1 kr (L_i (op) (30) (.bool true) rfl rfl kr kr rfl (by simp [q1]) (L_g 2 kr (L_want kr (L_i (op) (42) (.bool true) rfl rfl kr kr rfl (by simp [q2]) (L_g 1 kr (L_nil (W_cT kr (W_seq (W_region (L_g 1 kr ?_))))))))))
  obtain ⟨h30, e30, d30, t30, n30⟩ := c6.sA 123 [nv 2, .bool false, .bool false, .bool false, .bool false, .string emp]
  replace c6 := d30
  have T30 := T29.tr t30
  have N30 := T30.nx
  refine L_st _ rfl rfl rfl kr kr (e30) (L_g 1 kr (L_nil (W_ret ?_)))
  refine rr ?_
  refine done_of (.inl rfl) (evR_ct kr kr (a := ⟨h.next, 0, none⟩) kr (Cl.allN (n := 6) c6 rfl kr) (w := .bool true) kr) ?_
  have e8 : fo6 op = [nv 2, .bool false, .bool false, .bool false, .bool false, .string emp] := by
    unfold fo6 forms; rw [if_pos ⟨q1, q2⟩]
    have : wd op = emp := by unfold wd; repeat rw [if_neg (by omega)]
    simp only [this]; rfl
  have e9 : (forms op).isSome = true := by unfold forms; rw [if_pos ⟨q1, q2⟩]; rfl
  rw [e8, e9]
  exact ⟨rfl, T30⟩
 ·
  refine W_rg 1 kr (L_i (op) (30) (.bool true) rfl rfl kr kr rfl (by simp [q1]) (L_g 2 kr (L_want kr (L_i (op) (42) (.bool false) rfl rfl kr kr rfl (by simp; omega) (L_g 1 kr (L_nil (W_cF kr (W_skip (W_seq (W_region ?_))))))))))
  refine L_ld _ rfl rfl kr (Cl.allN (n := 6) c28 (fl6_len op) kr) (L_g 1 kr ?_)
  obtain ⟨h31, e31, d31, t31, n31⟩ := Cl.storeN (P := Tryz.prog) (T := 123) (n := 6) (v := .agg ⟨fl6 op⟩) (cs := fl6 op) c6 rfl kr rfl (fl6_len op) (fl6_one op)
  replace c6 := d31
  have T31 := T29.tr t31
  have N31 := T31.nx
  refine L_st _ rfl rfl rfl kr kr (e31) (L_g 1 kr (L_nil (W_ret ?_)))
  refine rr ?_
  refine done_of (.inl rfl) (evR_ct kr kr (a := ⟨h.next, 0, none⟩) kr (Cl.allN (n := 6) c6 (fl6_len op) kr) (w := .bool (fis op)) kr) ?_
  have hr : ¬ (30 ≤ op ∧ op ≤ 42) := by omega
  rw [show fl6 op = fo6 op from if_neg hr, show fis op = (forms op).isSome from if_neg hr]
  exact ⟨rfl, T31⟩
 ·
  refine W_rg 1 kr (L_i (op) (30) (.bool false) rfl rfl kr kr rfl (by simp; omega) (L_g 4 kr (L_nil (W_cF kr (W_skip (W_seq (W_region (L_ld _ rfl rfl kr (Cl.allN (n := 6) c28 (fl6_len op) kr) (L_g 1 kr ?_)))))))))
  obtain ⟨h32, e32, d32, t32, n32⟩ := Cl.storeN (P := Tryz.prog) (T := 123) (n := 6) (v := .agg ⟨fl6 op⟩) (cs := fl6 op) c6 rfl kr rfl (fl6_len op) (fl6_one op)
  replace c6 := d32
  have T32 := T29.tr t32
  have N32 := T32.nx
  refine L_st _ rfl rfl rfl kr kr (e32) (L_g 1 kr (L_nil (W_ret ?_)))
  refine rr ?_
  refine done_of (.inl rfl) (evR_ct kr kr (a := ⟨h.next, 0, none⟩) kr (Cl.allN (n := 6) c6 (fl6_len op) kr) (w := .bool (fis op)) kr) ?_
  have hr : ¬ (30 ≤ op ∧ op ≤ 42) := by omega
  rw [show fl6 op = fo6 op from if_neg hr, show fis op = (forms op).isSome from if_neg hr]
  exact ⟨rfl, T32⟩
end
end Go.Proofs.YtlgakeilplnfmaaGreatDoor
namespace Go.Proofs.YtlgakeilplnfmaaGreatDoor
noncomputable section
open Go Go.X Go.Arm Go.Mt Go.Lj
theorem signs_ok {h : AH} : Arm.Calls Tryz.prog 75 [] h (fun r => r.1 = .slice (some ⟨h.next, 0, none⟩) 13 13 ∧ Cl r.2 h.next (sgs.map .string) ∧ Go.Arm.Sm Nix h r.2) := by
 refine Calls_of_W (n := 2) (fn := Tryz.f75) kr rfl rfl (Nat.le_of_ble_eq_true rfl) trivial ⟨.inl (by decide), rfl⟩ ?_
 have T0 : Sm Nix h h := .refl
 refine W_sg 1 kr (L_nil (W_seq (W_region (L_nwc (sgs.map .string) (.sl 13 13) rfl rfl kr fun h56 c56 t56 n56 => ?_))))
 have T56 := T0.ext t56
 have N56 := T56.nx
 refine L_g 1 kr (L_nil (W_ret ?_))
 refine rr ?_
 refine done_of (v := .slice (some ⟨h.next, 0, none⟩) 13 13) (.inl rfl) kr ?_
 exact ⟨rfl, c56, T56⟩
theorem reds_ok {h : AH} : Arm.Calls Tryz.prog 71 [] h (fun r => r.1 = .slice (some ⟨h.next, 0, none⟩) 8 8 ∧ Cl r.2 h.next (rds.map .string) ∧ Go.Arm.Sm Nix h r.2) := by
 refine Calls_of_W (n := 2) (fn := Tryz.f71) kr rfl rfl (Nat.le_of_ble_eq_true rfl) trivial ⟨.inl (by decide), rfl⟩ ?_
 have T0 : Sm Nix h h := .refl
 refine W_sg 1 kr (L_nil (W_seq (W_region (L_nwc (rds.map .string) (.sl 8 8) rfl rfl kr fun h57 c57 t57 n57 => ?_))))
 have T57 := T0.ext t57
 have N57 := T57.nx
 refine L_g 1 kr (L_nil (W_ret ?_))
 refine rr ?_
 refine done_of (v := .slice (some ⟨h.next, 0, none⟩) 8 8) (.inl rfl) kr ?_
 exact ⟨rfl, c57, T57⟩
theorem ixs_ok {h : AH} {v : Value} {s : ByteArray} {l : List ByteArray} (H : Sd h 1 v l.length (l.map .string)) (hl : l.length < 1000000000) :
  Arm.Calls Tryz.prog 115 [v, .string s] h (fun r => r.1 = nv (match l.findIdx? (fun y => decide (s = y)) with | some i => (i : Int) | none => -1) ∧ Go.Arm.Sm Nix h r.2) := by
 refine Calls_W 19 Tryz.f115 ?_
 have T0 : Sm Nix h h := .refl
 refine W_sg 1 kr (L_nil (W_seq (W_sg 1 kr (L_ln _ rfl rfl kr ((H.ext T0).len (T := 42) (el := 9) kr) (L_g 1 kr (L_nil (W_block ?_)))))))
 refine W_loop (fun mm fr hh => ∃ (k : Nat), (k ≤ l.length) ∧ (l.findIdx? (fun y => decide (s = y)) = ((l.drop k).findIdx? (fun y => decide (s = y))).map (· + k)) ∧ mm = l.length - k ∧ fr 0 = v ∧ fr 1 = .string s ∧ fr 7 = nv (l.length : Int) ∧ fr 8 = nv (k : Int) ∧ Sm Nix h hh) (l.length) ?_ ?_
 ·
  exact ⟨0, Nat.zero_le _, by simp, rfl, kr, kr, kr, kr, T0⟩
 rintro mm33 fr33 h33 ⟨k, hk, hf, hm33, y33_0, y33_1, y33_7, y33_8, T33⟩
 have N33 := T33.nx
 refine W_set (k := 0) y33_0 (W_set (k := 1) y33_1 (W_set (k := 7) y33_7 (W_set (k := 8) y33_8 (W_sg 1 kr (L_nil (W_seq ?_))))))
 refine W_cond (decide ((k : Int) < (l.length : Nat))) kr (fun hb => ?_) (fun hb => ?_)
 ·
  have hlt : k < l.length := by simp at hb; omega
  obtain ⟨x, hx⟩ : ∃ x, l[k]? = some x := ⟨_, List.getElem?_eq_getElem hlt⟩
  have hdr : l.drop k = x :: l.drop (k + 1) := by rw [List.drop_eq_getElem_cons hlt]; congr 1; exact (List.getElem?_eq_some_iff.1 hx).2
  obtain ⟨b9, o9, _, i9, l9⟩ := (H.ext T33).at (P := Tryz.prog) (T := 42) (el := 9) kr kr hlt .i64
  refine W_skip (W_seq (W_block (W_sg 2 kr (L_nil (W_sg 3 kr (L_ix _ rfl rfl kr kr (i9) ?_))))))
  refine L_ld _ rfl rfl kr (ld_cell kr (by have := l9 0 (by decide); rw [Nat.add_zero, Nat.mul_one, Nat.add_zero] at this; rw [this, List.getElem?_map, hx]; rfl)) ?_
  refine L_p (.bool (decide (s = x))) rfl (ev_bin (o := _) rfl kr kr (str_eq _ _ _ s x)) (L_nil ?_)
  refine W_cond (decide (s = x)) kr (fun hb => ?_) (fun hb => ?_)
  ·
   have hres : nv (match l.findIdx? (fun y => decide (s = y)) with | some i => (i : Int) | none => -1) = nv (k : Int) := by rw [hf, hdr, List.findIdx?_cons, hb]; simp
   rw [hres]
   refine W_sg 2 kr (L_nil (W_ret ?_))
   refine rr ?_
   refine done_of (v := nv (k : Int)) (.inl rfl) kr ?_
   exact ⟨rfl, T33⟩
  ·
   have hfb : decide (s = x) = false := hb
   refine W_skip (W_region (L_i ((k : Int)) (1) (nv ((k + 1 : Nat) : Int)) rfl rfl kr kr rfl (inc_ok (by omega)) (L_g 1 kr (L_nil ?_))))
   exact ⟨l.length - (k + 1), by omega, k + 1, by omega, find_step hf hdr hfb, rfl, kr, kr, kr, kr, T33⟩
 ·
  have hge : k = l.length := by simp at hb; omega
  have hres : nv (match l.findIdx? (fun y => decide (s = y)) with | some i => (i : Int) | none => -1) = nv (-1) := by rw [hf, hge]; simp
  rw [hres]
  refine W_exit ?_
  refine rx ?_
  refine exit_here (W_sg 1 kr (L_nil (W_ret ?_)))
  refine rr ?_
  refine done_of (v := nv (-1)) (.inl rfl) kr ?_
  exact ⟨rfl, T33⟩
theorem has_ok {h : AH} {v : Value} {s : ByteArray} {l : List ByteArray} (H : Sd h 1 v l.length (l.map .string)) (hl : l.length < 1000000000) :
  Arm.Calls Tryz.prog 94 [v, .string s] h (fun r => r.1 = .bool (hasS l s) ∧ Go.Arm.Sm Nix h r.2) := by
 have hix := ixs_ok (s := s) H hl
 unfold hasS
 cases hf : l.findIdx? (fun y => decide (s = y)) with
 | none =>
  rw [hf] at hix
  refine Calls_W 9 Tryz.f94 ?_
  have T0 : Sm Nix h h := .refl
  refine W_sg 1 kr (L_nil (W_sg 2 kr (L_c rfl rfl kr (hix) ?_)))
  rintro v34 h34 ⟨e34, t34⟩
  try dsimp only at e34 t34
  subst e34
  have T34 := T0.ext t34
  have N34 := T34.nx
  have M34 := t34.nx
  refine L_i (-1) (0) (.bool false) rfl rfl kr kr rfl (by first | (simp; done) | (simp; omega)) (L_g 1 kr (L_nil (W_ret ?_)))
  refine rr ?_
  refine done_of (v := .bool false) (.inl rfl) kr ?_
  exact ⟨rfl, T34⟩
 | some i =>
  rw [hf] at hix
  refine Calls_W 9 Tryz.f94 ?_
  have T0 : Sm Nix h h := .refl
  refine W_sg 1 kr (L_nil (W_sg 2 kr (L_c rfl rfl kr (hix) ?_)))
  rintro v35 h35 ⟨e35, t35⟩
  try dsimp only at e35 t35
  subst e35
  have T35 := T0.ext t35
  have N35 := T35.nx
  have M35 := t35.nx
  refine L_i ((i : Int)) (0) (.bool true) rfl rfl kr kr rfl (by first | (simp; done) | (simp; omega)) (L_g 1 kr (L_nil (W_ret ?_)))
  refine rr ?_
  refine done_of (v := .bool true) (.inl rfl) kr ?_
  exact ⟨rfl, T35⟩
theorem rsv_ok {h : AH} {s : ByteArray} :
  Arm.Calls Tryz.prog 68 [.string s] h (fun r => r.1 = .bool (rsv s) ∧ Go.Arm.Sm Nix h r.2) := by
 refine Calls_W 36 Tryz.f68 ?_
 have T0 : Sm Nix h h := .refl
 refine W_sg 1 kr (L_nil (W_seq (W_sg 1 kr (L_nil (W_block ?_)))))
 refine W_loop (fun mm fr hh => ∃ (k : Nat), (k ≤ 12) ∧ ((List.range 12).findIdx? (fun (k : Nat) => decide (wd ((k + 2 : Nat) : Int) = s)) = (((List.range 12).drop k).findIdx? (fun (k : Nat) => decide (wd ((k + 2 : Nat) : Int) = s))).map (· + k)) ∧ mm = 12 - k ∧ fr 0 = .string s ∧ fr 3 = nv ((k + 2 : Nat) : Int) ∧ Sm Nix h hh) (12) ?_ ?_
 ·
  exact ⟨0, Nat.zero_le _, by simp, rfl, kr, kr, T0⟩
 rintro mm36 fr36 h36 ⟨k, hk, hf, hm36, y36_0, y36_3, T36⟩
 have N36 := T36.nx
 refine W_set (k := 0) y36_0 (W_set (k := 3) y36_3 (W_seq (W_sg 1 kr (L_i (((k + 2 : Nat) : Int)) (13) (.bool (decide (k < 12))) rfl rfl kr kr rfl (by congr 1; simp; omega) (L_nil ?_)))))
 refine W_cond (decide (k < 12)) kr (fun hb => ?_) (fun hb => ?_)
 ·
  have hlt : k < 12 := of_decide_eq_true hb
  have hdr : (List.range 12).drop k = k :: (List.range 12).drop (k + 1) := by rw [List.drop_eq_getElem_cons (by simpa using hlt)]; congr 1; simp
  refine W_skip (W_seq (W_block (W_sg 1 kr (L_c rfl rfl kr (forms_ok (op := ((k + 2 : Nat) : Int))) ?_))))
  rintro v37 h37 ⟨e37, t37⟩
  try dsimp only at e37 t37
  subst e37
  have T37 := T36.ext t37
  have N37 := T37.nx
  have M37 := t37.nx
  refine L_g 3 kr (L_nwc [nv 0, .bool false, .bool false, .bool false, .bool false, .string ⟨#[]⟩] .ptr rfl rfl kr fun h38 c38 t38 n38 => ?_)
  have T38 := T37.ext t38
  have N38 := T38.nx
  obtain ⟨h39, e39, d39, t39, n39⟩ := Cl.storeN (P := Tryz.prog) (T := 123) (n := 6) (v := .agg ⟨fo6 ((k + 2 : Nat) : Int)⟩) (cs := fo6 ((k + 2 : Nat) : Int)) c38 rfl kr rfl (fo6_len _) (fo6_one _)
  replace c38 := d39
  have T39 := T38.tr t39
  have N39 := T39.nx
  refine L_st _ rfl rfl rfl kr kr (e39) (L_g 1 kr (L_nil (W_sg 1 kr (L_ld _ rfl rfl kr (c38.ld (o := 5) kr (fo6_5 (by omega) (by omega))) (L_g 1 kr (L_p (.bool (decide (wd ((k + 2 : Nat) : Int) = s))) rfl (ev_bin (o := _) rfl kr kr (str_eq _ _ _ (wd ((k + 2 : Nat) : Int)) s)) (L_nil ?_)))))))
  refine W_cond (decide (wd ((k + 2 : Nat) : Int) = s)) kr (fun hb => ?_) (fun hb => ?_)
  ·
   have hw : wds s = true := by unfold wds; rw [hf, hdr, List.findIdx?_cons, hb]; rfl
   have hr : rsv s = true := by unfold rsv; rw [hw]; rfl
   rw [hr]
   refine W_sg 1 kr (L_nil (W_ret ?_))
   refine rr ?_
   refine done_of (v := .bool true) (.inl rfl) kr ?_
   exact ⟨rfl, T39⟩
  ·
   have hfb : decide (wd ((k + 2 : Nat) : Int) = s) = false := hb
   refine W_skip (W_rg 1 kr (L_i (((k + 2 : Nat) : Int)) (1) (nv ((k + 1 + 2 : Nat) : Int)) rfl rfl kr kr rfl (by have := inc_ok (k := k + 2) (by omega); rw [show k + 1 + 2 = k + 2 + 1 by omega]; exact this) (L_g 1 kr (L_nil ?_))))
   exact ⟨12 - (k + 1), by omega, k + 1, by omega, find_step hf hdr hfb, rfl, kr, kr, T39⟩
 ·
  have hge : k = 12 := by have := of_decide_eq_false hb; omega
  have hw : wds s = false := by unfold wds; rw [hf, hge]; rfl
  refine W_exit ?_
  refine rx ?_
  refine exit_here (W_seq ?_)
  have h3 : hasS six s = true ∨ (hasS six s = false ∧ hasS sgs s = true) ∨ (hasS six s = false ∧ hasS sgs s = false ∧ s = emp) ∨ (hasS six s = false ∧ hasS sgs s = false ∧ s ≠ emp) := by
   cases hasS six s <;> cases hasS sgs s <;> by_cases e : s = emp <;> simp [e]
  rcases h3 with q1 | ⟨q1, q2⟩ | ⟨q1, q2, q3⟩ | ⟨q1, q2, q3⟩
  ·
   refine W_region (L_nwc (six.map .string) (.sl 6 6) rfl rfl kr fun h40 c40 t40 n40 => ?_)
   have T40 := T36.ext t40
   have N40 := T40.nx
   refine L_g 1 kr ?_
   have a6 := has_ok (s := s) (l := six) (c40.sd rfl) (by decide)
   rw [q1] at a6
   refine L_c rfl rfl kr (a6) ?_
   rintro v41 h41 ⟨e41, t41⟩
   try dsimp only at e41 t41
   subst e41
   have T41 := T40.ext t41
   have N41 := T41.nx
   have M41 := t41.nx
   refine L_g 15 kr (L_nil (W_ret ?_))
   refine rr ?_
   refine done_of (v := .bool true) (.inl rfl) kr ?_
   have hr : rsv s = true := by unfold rsv; rw [q1, Bool.or_true]; rfl
   rw [hr]
   exact ⟨rfl, T41⟩
  ·
   refine W_region (L_nwc (six.map .string) (.sl 6 6) rfl rfl kr fun h42 c42 t42 n42 => ?_)
   have T42 := T36.ext t42
   have N42 := T42.nx
   refine L_g 1 kr ?_
   have a6 := has_ok (s := s) (l := six) (c42.sd rfl) (by decide)
   rw [q1] at a6
   refine L_c rfl rfl kr (a6) ?_
   rintro v43 h43 ⟨e43, t43⟩
   try dsimp only at e43 t43
   subst e43
   have T43 := T42.ext t43
   have N43 := T43.nx
   have M43 := t43.nx
   refine L_g 1 kr (L_want kr (L_c rfl rfl kr (signs_ok) ?_))
   rintro v44 h44 ⟨e44, C44, t44⟩
   try dsimp only at t44
   dsimp only at e44 C44 t44
   subst e44
   have D44 := C44.sd (n := 13) rfl
   have T44 := T43.ext t44
   have N44 := T44.nx
   have M44 := t44.nx
   refine L_g 1 kr ?_
   have a7 := has_ok (s := s) (l := sgs) (D44.ext (.refl)) (by decide)
   rw [q2] at a7
   refine L_want kr (L_c rfl rfl kr (a7) ?_)
   rintro v45 h45 ⟨e45, t45⟩
   try dsimp only at e45 t45
   subst e45
   have T45 := T44.ext t45
   have N45 := T45.nx
   have M45 := t45.nx
   refine L_g 11 kr (L_nil (W_ret ?_))
   refine rr ?_
   refine done_of (v := .bool true) (.inl rfl) kr ?_
   have hr : rsv s = true := by unfold rsv; rw [q2, Bool.or_true]; rfl
   rw [hr]
   exact ⟨rfl, T45⟩
  ·
   refine W_region (L_nwc (six.map .string) (.sl 6 6) rfl rfl kr fun h46 c46 t46 n46 => ?_)
   have T46 := T36.ext t46
   have N46 := T46.nx
   refine L_g 1 kr ?_
   have a6 := has_ok (s := s) (l := six) (c46.sd rfl) (by decide)
   rw [q1] at a6
   refine L_c rfl rfl kr (a6) ?_
   rintro v47 h47 ⟨e47, t47⟩
   try dsimp only at e47 t47
   subst e47
   have T47 := T46.ext t47
   have N47 := T47.nx
   have M47 := t47.nx
   refine L_g 1 kr (L_want kr (L_c rfl rfl kr (signs_ok) ?_))
   rintro v48 h48 ⟨e48, C48, t48⟩
   try dsimp only at t48
   dsimp only at e48 C48 t48
   subst e48
   have D48 := C48.sd (n := 13) rfl
   have T48 := T47.ext t48
   have N48 := T48.nx
   have M48 := t48.nx
   refine L_g 1 kr ?_
   have a7 := has_ok (s := s) (l := sgs) (D48.ext (.refl)) (by decide)
   rw [q2] at a7
   refine L_want kr (L_c rfl rfl kr (a7) ?_)
   rintro v49 h49 ⟨e49, t49⟩
   try dsimp only at e49 t49
   subst e49
   have T49 := T48.ext t49
   have N49 := T49.nx
   have M49 := t49.nx
   refine L_g 3 kr (L_want kr (L_p (.bool false) rfl ((ev_bin (o := _) rfl kr kr (str_ne _ _ _ s emp)).trans (by rw [q3]; rfl)) (L_g 7 kr (L_nil (W_ret ?_)))))
   refine rr ?_
   refine done_of (v := .bool false) (.inl rfl) kr ?_
   have hr : rsv s = false := by unfold rsv; rw [hw, q1, q2, decide_eq_true q3]; rfl
   rw [hr]
   exact ⟨rfl, T49⟩
  ·
   refine W_region (L_nwc (six.map .string) (.sl 6 6) rfl rfl kr fun h50 c50 t50 n50 => ?_)
   have T50 := T36.ext t50
   have N50 := T50.nx
   refine L_g 1 kr ?_
   have a6 := has_ok (s := s) (l := six) (c50.sd rfl) (by decide)
   rw [q1] at a6
   refine L_c rfl rfl kr (a6) ?_
   rintro v51 h51 ⟨e51, t51⟩
   try dsimp only at e51 t51
   subst e51
   have T51 := T50.ext t51
   have N51 := T51.nx
   have M51 := t51.nx
   refine L_g 1 kr (L_want kr (L_c rfl rfl kr (signs_ok) ?_))
   rintro v52 h52 ⟨e52, C52, t52⟩
   try dsimp only at t52
   dsimp only at e52 C52 t52
   subst e52
   have D52 := C52.sd (n := 13) rfl
   have T52 := T51.ext t52
   have N52 := T52.nx
   have M52 := t52.nx
   refine L_g 1 kr ?_
   have a7 := has_ok (s := s) (l := sgs) (D52.ext (.refl)) (by decide)
   rw [q2] at a7
   refine L_want kr (L_c rfl rfl kr (a7) ?_)
   rintro v53 h53 ⟨e53, t53⟩
   try dsimp only at e53 t53
   subst e53
   have T53 := T52.ext t53
   have N53 := T53.nx
   have M53 := t53.nx
   refine L_g 3 kr (L_want kr (L_p (.bool true) rfl ((ev_bin (o := _) rfl kr kr (str_ne _ _ _ s emp)).trans (by rw [decide_eq_false q3]; rfl)) (L_g 1 kr (L_want kr (L_c rfl rfl kr (reds_ok) ?_)))))
   rintro v54 h54 ⟨e54, C54, t54⟩
   try dsimp only at t54
   dsimp only at e54 C54 t54
   subst e54
   have D54 := C54.sd (n := 8) rfl
   have T54 := T53.ext t54
   have N54 := T54.nx
   have M54 := t54.nx
   refine L_g 1 kr (L_want kr (L_c rfl rfl kr (has_ok (s := s) (l := rds) D54 (by decide)) ?_))
   rintro v55 h55 ⟨e55, t55⟩
   try dsimp only at e55 t55
   subst e55
   have T55 := T54.ext t55
   have N55 := T55.nx
   have M55 := t55.nx
   refine L_g 3 kr (L_nil (W_ret ?_))
   refine rr ?_
   refine done_of (v := .bool (hasS rds s)) (.inl rfl) kr ?_
   have hr : rsv s = hasS rds s := by unfold rsv; rw [hw, q1, q2, decide_eq_false q3]; simp
   rw [hr]
   exact ⟨rfl, T55⟩
end
end Go.Proofs.YtlgakeilplnfmaaGreatDoor
namespace Go.Proofs.YtlgakeilplnfmaaGreatDoor
noncomputable section
open Go Go.X Go.Arm Go.Mt Go.Lj
theorem conv_sb {l : List UInt8} {h : AH} : aConv Tryz.prog 9 79 (.string ⟨⟨l⟩⟩) h = none := by kernel_rfl
theorem all_find : ∀ (l : List UInt8), (l.all fun c => inn c.toNat) = (l.findIdx? (fun (c : UInt8) => !inn c.toNat)).isNone
 | [] => rfl
 | x :: l => by
  rw [List.all_cons, List.findIdx?_cons, all_find l]
  cases inn x.toNat with
  | true => rw [Bool.true_and]; simp
  | false => rfl
theorem nok_ok {h : AH} {s : ByteArray} :
  Arm.Calls Tryz.prog 43 [.string s] h (fun r => r.1 = .bool (nok s) ∧ Go.Arm.Sm Nix h r.2) := by
 refine Calls_W 34 Tryz.f43 ?_
 have T0 : Sm Nix h h := .refl
 refine W_sg 1 kr (L_nil (W_seq (W_seq ?_)))
 have h5 : s.size < 1 ∨ (1 ≤ s.size ∧ 12 < s.size) ∨ (∃ c, 1 ≤ s.size ∧ s.size ≤ 12 ∧ s.data.toList[0]? = some c ∧ ltr c.toNat = false) ∨ (∃ c, 1 ≤ s.size ∧ s.size ≤ 12 ∧ s.data.toList[0]? = some c ∧ ltr c.toNat = true ∧ rsv s = true) ∨ (∃ c, 1 ≤ s.size ∧ s.size ≤ 12 ∧ s.data.toList[0]? = some c ∧ ltr c.toNat = true ∧ rsv s = false) := by
  by_cases a1 : s.size < 1
  · exact .inl a1
  · by_cases a2 : 12 < s.size
    · exact .inr (.inl ⟨by omega, a2⟩)
    · obtain ⟨c, hc⟩ : ∃ c, s.data.toList[0]? = some c := ⟨_, List.getElem?_eq_getElem (by rw [Array.length_toList]; show 0 < s.size; omega)⟩
      cases e1 : ltr c.toNat
      · exact .inr (.inr (.inl ⟨c, by omega, by omega, hc, e1⟩))
      · cases e2 : rsv s
        · exact .inr (.inr (.inr (.inr ⟨c, by omega, by omega, hc, e1, rfl⟩)))
        · exact .inr (.inr (.inr (.inl ⟨c, by omega, by omega, hc, e1, rfl⟩)))
 rcases h5 with q1 | ⟨q1, q2⟩ | ⟨c, q1, q2, q3, q4⟩ | ⟨c, q1, q2, q3, q4, q5⟩ | ⟨c, q1, q2, q3, q4, q5⟩
 ·
  refine W_rg 1 kr (L_ln _ rfl rfl kr ((show aLen Tryz.prog 9 (.string s) h = some (.int .i64 (s.size : Int)) by kernel_rfl)) (L_i ((s.size : Int)) (1) (.bool true) rfl rfl kr kr rfl (by simp; omega) (L_g 15 kr (L_nil (W_cT kr (W_sg 1 kr (L_nil (W_ret ?_))))))))
  refine rr ?_
  refine done_of (v := .bool false) (.inl rfl) kr ?_
  have hr : nok s = false := by
    unfold nok
    rw [decide_eq_false (by omega)]; rfl
  rw [hr]
  exact ⟨rfl, T0⟩
 ·
  refine W_rg 1 kr (L_ln _ rfl rfl kr ((show aLen Tryz.prog 9 (.string s) h = some (.int .i64 (s.size : Int)) by kernel_rfl)) (L_i ((s.size : Int)) (1) (.bool false) rfl rfl kr kr rfl (by simp; omega) (L_g 2 kr (L_want kr (L_ln _ rfl rfl kr ((show aLen Tryz.prog 9 (.string s) h = some (.int .i64 (s.size : Int)) by kernel_rfl)) (L_want kr (L_i ((s.size : Int)) (12) (.bool true) rfl rfl kr kr rfl (by simp; omega) (L_g 11 kr (L_nil (W_cT kr ?_))))))))))
  refine W_sg 1 kr (L_nil (W_ret ?_))
  refine rr ?_
  refine done_of (v := .bool false) (.inl rfl) kr ?_
  have hr : nok s = false := by
    unfold nok
    rw [decide_eq_false (p := s.size ≤ 12) (by omega), Bool.and_false]; rfl
  rw [hr]
  exact ⟨rfl, T0⟩
 ·
  refine W_rg 1 kr (L_ln _ rfl rfl kr ((show aLen Tryz.prog 9 (.string s) h = some (.int .i64 (s.size : Int)) by kernel_rfl)) (L_i ((s.size : Int)) (1) (.bool false) rfl rfl kr kr rfl (by simp; omega) (L_g 2 kr (L_want kr (L_ln _ rfl rfl kr ((show aLen Tryz.prog 9 (.string s) h = some (.int .i64 (s.size : Int)) by kernel_rfl)) (L_want kr (L_i ((s.size : Int)) (12) (.bool false) rfl rfl kr kr rfl (by simp; omega) (L_g 3 kr (L_want kr (L_p (.int .u8 (c.toNat : Int)) rfl (ev_ix (o := _) rfl kr kr (ix_str kr q3)) ?_))))))))))
  have hq7 := letter_ok (c := (c.toNat : Int)) (h := h)
  rw [q4] at hq7
  refine L_want kr (L_c rfl rfl kr (hq7) ?_)
  rintro v58 h58 ⟨e58, t58⟩
  try dsimp only at e58 t58
  subst e58
  have T58 := T0.ext t58
  have N58 := T58.nx
  have M58 := t58.nx
  refine L_g 6 kr (L_nil (W_cT kr (W_sg 1 kr (L_nil (W_ret ?_)))))
  refine rr ?_
  refine done_of (v := .bool false) (.inl rfl) kr ?_
  have hr : nok s = false := by
    unfold nok
    rw [q3]; dsimp only; rw [q4, Bool.and_false]; rfl
  rw [hr]
  exact ⟨rfl, T58⟩
 ·
  refine W_rg 1 kr (L_ln _ rfl rfl kr ((show aLen Tryz.prog 9 (.string s) h = some (.int .i64 (s.size : Int)) by kernel_rfl)) (L_i ((s.size : Int)) (1) (.bool false) rfl rfl kr kr rfl (by simp; omega) (L_g 2 kr (L_want kr (L_ln _ rfl rfl kr ((show aLen Tryz.prog 9 (.string s) h = some (.int .i64 (s.size : Int)) by kernel_rfl)) (L_want kr (L_i ((s.size : Int)) (12) (.bool false) rfl rfl kr kr rfl (by simp; omega) (L_g 3 kr (L_want kr (L_p (.int .u8 (c.toNat : Int)) rfl (ev_ix (o := _) rfl kr kr (ix_str kr q3)) ?_))))))))))
  have hq8 := letter_ok (c := (c.toNat : Int)) (h := h)
  rw [q4] at hq8
  refine L_want kr (L_c rfl rfl kr (hq8) ?_)
  rintro v59 h59 ⟨e59, t59⟩
  try dsimp only at e59 t59
  subst e59
  have T59 := T0.ext t59
  have N59 := T59.nx
  have M59 := t59.nx
  refine L_g 4 kr ?_
  have hq9 := rsv_ok (s := s) (h := h59)
  rw [q5] at hq9
  refine L_want kr (L_c rfl rfl kr (hq9) ?_)
  rintro v60 h60 ⟨e60, t60⟩
  try dsimp only at e60 t60
  subst e60
  have T60 := T59.ext t60
  have N60 := T60.nx
  have M60 := t60.nx
  refine L_g 1 kr (L_nil (W_cT kr (W_sg 1 kr (L_nil (W_ret ?_)))))
  refine rr ?_
  refine done_of (v := .bool false) (.inl rfl) kr ?_
  have hr : nok s = false := by
    unfold nok
    rw [q5, Bool.not_true, Bool.and_false]; rfl
  rw [hr]
  exact ⟨rfl, T60⟩
 ·
  refine W_rg 1 kr (L_ln _ rfl rfl kr ((show aLen Tryz.prog 9 (.string s) h = some (.int .i64 (s.size : Int)) by kernel_rfl)) (L_i ((s.size : Int)) (1) (.bool false) rfl rfl kr kr rfl (by simp; omega) (L_g 2 kr (L_want kr (L_ln _ rfl rfl kr ((show aLen Tryz.prog 9 (.string s) h = some (.int .i64 (s.size : Int)) by kernel_rfl)) (L_want kr (L_i ((s.size : Int)) (12) (.bool false) rfl rfl kr kr rfl (by simp; omega) (L_g 3 kr (L_want kr (L_p (.int .u8 (c.toNat : Int)) rfl (ev_ix (o := _) rfl kr kr (ix_str kr q3)) ?_))))))))))
  have hq10 := letter_ok (c := (c.toNat : Int)) (h := h)
  rw [q4] at hq10
  refine L_want kr (L_c rfl rfl kr (hq10) ?_)
  rintro v61 h61 ⟨e61, t61⟩
  try dsimp only at e61 t61
  subst e61
  have T61 := T0.ext t61
  have N61 := T61.nx
  have M61 := t61.nx
  refine L_g 4 kr ?_
  have hq11 := rsv_ok (s := s) (h := h61)
  rw [q5] at hq11
  refine L_want kr (L_c rfl rfl kr (hq11) ?_)
  rintro v62 h62 ⟨e62, t62⟩
  try dsimp only at e62 t62
  subst e62
  have T62 := T61.ext t62
  have N62 := T62.nx
  have M62 := t62.nx
  refine L_g 1 kr (L_nil (W_cF kr (W_skip (W_seq (W_seq (W_region (L_g 1 kr ?_)))))))
  obtain ⟨l, hl9⟩ : ∃ l, l = s.data.toList := ⟨_, rfl⟩
  obtain rfl : s = ⟨⟨l⟩⟩ := by rw [hl9]
  obtain ⟨v63, h63, e63, r63, t63, n63, b63⟩ := s2b_ok (P := Tryz.prog) (ds := .string) (s := 9) (d := 79) (e := 5) (h := h62) kr kr kr l
  refine L_sb v63 h63 rfl rfl kr conv_sb e63 ?_
  have T63 := T62.ext t63
  have N63 := T63.nx
  have hN : nok ⟨⟨l⟩⟩ = (l.findIdx? (fun (c : UInt8) => !inn c.toNat)).isNone := by
    have : nok ⟨⟨l⟩⟩ = l.all (fun c => inn c.toNat) := by
      unfold nok
      rw [q3, q5, decide_eq_true q1, decide_eq_true q2]; dsimp only; rw [q4]; rfl
    rw [this]
    exact all_find l
  rw [hN]
  have hll : l.length ≤ 12 := by have q2 : (ByteArray.mk ⟨l⟩).data.size ≤ 12 := q2; simpa using q2
  have R9 := r63
  refine L_ln _ rfl rfl kr ((R9.lenA (T := 79) (el := 5) kr _).trans (by rw [List.length_map])) (L_g 1 kr (L_nil (W_block ?_)))
  refine W_loop (fun mm fr hh => ∃ (k : Nat), (k ≤ l.length) ∧ (l.findIdx? (fun (c : UInt8) => !inn c.toNat) = ((l.drop k).findIdx? (fun (c : UInt8) => !inn c.toNat)).map (· + k)) ∧ (Rb hh v63 (l.map bv)) ∧ mm = l.length - k ∧ fr 24 = v63 ∧ fr 25 = nv (l.length : Int) ∧ fr 26 = nv (k : Int) ∧ Sm Nix h hh) (l.length) ?_ ?_
  ·
    exact ⟨0, Nat.zero_le _, by simp, R9, rfl, kr, kr, kr, T63⟩
  rintro mm64 fr64 h64 ⟨k, hk, hf, Rk, hm64, y64_24, y64_25, y64_26, T64⟩
  have N64 := T64.nx
  refine W_set (k := 24) y64_24 (W_set (k := 25) y64_25 (W_set (k := 26) y64_26 (W_sg 1 kr (L_nil (W_seq ?_)))))
  refine W_cond (decide ((k : Int) < (l.length : Nat))) kr (fun hb => ?_) (fun hb => ?_)
  ·
    have hlt : k < l.length := by simp at hb; omega
    obtain ⟨x, hx⟩ : ∃ x, l[k]? = some x := ⟨_, List.getElem?_eq_getElem hlt⟩
    have hdr : l.drop k = x :: l.drop (k + 1) := by rw [List.drop_eq_getElem_cons hlt, (List.getElem?_eq_some_iff.1 hx).2]
    obtain ⟨b9, o9, i9, l9⟩ := Rk.el (P := Tryz.prog) (T := 79) (el := 5) kr kr (i := k) (x := bv x) (by rw [List.getElem?_map, hx]; rfl)
    refine W_skip (W_seq (W_block (W_seq (W_region (L_ix _ rfl rfl kr kr (i9) (L_ld _ rfl rfl kr (ld_cell kr l9.1) (L_g 1 kr (L_nil (W_seq (W_region (L_g 1 kr ?_)))))))))))
    refine L_c rfl rfl kr (inner_ok (c := (x.toNat : Int))) ?_
    rintro v65 h65 ⟨e65, t65⟩
    try dsimp only at e65 t65
    subst e65
    have T65 := T64.ext t65
    have N65 := T65.nx
    have M65 := t65.nx
    refine L_g 1 kr (L_nil ?_)
    refine W_cond (!inn (x.toNat : Int)) kr (fun hb => ?_) (fun hb => ?_)
    ·
      have hres : (l.findIdx? (fun (c : UInt8) => !inn c.toNat)).isNone = false := by rw [hf, hdr, List.findIdx?_cons, hb]; rfl
      rw [hres]
      refine W_sg 1 kr (L_nil (W_ret ?_))
      refine rr ?_
      refine done_of (v := .bool false) (.inl rfl) kr ?_
      exact ⟨rfl, T65⟩
    ·
      have hfb : (!inn (x.toNat : Int)) = false := hb
      refine W_skip (W_region (L_i ((k : Int)) (1) (nv ((k + 1 : Nat) : Int)) rfl rfl kr kr rfl (inc_ok (by omega)) (L_g 1 kr (L_nil ?_))))
      exact ⟨l.length - (k + 1), by omega, k + 1, by omega, find_step hf hdr hfb, Rk.ext t65, rfl, kr, kr, kr, T65⟩
  ·
    have hge : k = l.length := by simp at hb; omega
    have hres : (l.findIdx? (fun (c : UInt8) => !inn c.toNat)).isNone = true := by rw [hf, hge]; simp
    rw [hres]
    refine W_exit ?_
    refine rx ?_
    refine exit_here (W_sg 1 kr (L_nil (W_ret ?_)))
    refine rr ?_
    refine done_of (v := .bool true) (.inl rfl) kr ?_
    exact ⟨rfl, T64⟩
end
end Go.Proofs.YtlgakeilplnfmaaGreatDoor
namespace Go.Proofs.YtlgakeilplnfmaaGreatDoor
noncomputable section
open Go Go.X Go.Arm Go.Mt Go.Lj
theorem fits_ok {h : AH} {x : Nd} {va vb ve : Value} :
   Arm.Calls Tryz.prog 42 [.agg ⟨x.c7 va vb ve⟩] h (fun r => r.1 = .bool (fitv x.op x.val) ∧ Go.Arm.Sm Nix h r.2) := by
 have h4 : (x.op = 2 ∧ x.val = 0) ∨ (x.op = 2 ∧ x.val ≠ 0) ∨ (x.op = 9 ∧ 1 ≤ x.val) ∨ (x.op = 9 ∧ ¬ 1 ≤ x.val) ∨ x.op = 20 ∨ (x.op ≠ 2 ∧ x.op ≠ 9 ∧ x.op ≠ 20) := by omega
 rcases h4 with ⟨q1, q2⟩ | ⟨q1, q2⟩ | ⟨q1, q2⟩ | ⟨q1, q2⟩ | q1 | ⟨q1, q2, q3⟩
 · have e9 : fitv x.op x.val = true := by unfold fitv; rw [if_pos q1, q2]; rfl
   rw [e9]
   refine Calls_W 33 Tryz.f42 ?_
   have T0 : Sm Nix h h := .refl
   refine W_seq (W_region (L_nwc [nv x.op, nv x.val, .string x.nm, .string x.ot, va, vb, ve] .ptr rfl rfl kr fun h66 c66 t66 n66 => ?_))
   have T66 := T0.ext t66
   have N66 := T66.nx
   refine L_g 1 kr (L_nil (W_seq (W_sg 1 kr (L_ld _ rfl rfl kr (c66.ld (o := 0) kr rfl) (L_nil (W_block (W_seq (W_region (L_i (x.op) (2) (.bool true) rfl rfl kr kr rfl (by first | (simp; omega) | (simp [*]; done)) ?_)))))))))
   refine L_g 1 kr (L_nil (W_cT kr (W_sg 1 kr (L_ld _ rfl rfl kr (c66.ld (o := 1) kr rfl) (L_i (x.val) (0) (.bool true) rfl rfl kr kr rfl (by first | (simp; omega) | (simp [*]; done)) (L_g 6 kr (L_nil (W_ret ?_))))))))
   refine rr ?_
   refine done_of (v := .bool (true)) (.inl rfl) kr ?_
   exact ⟨rfl, T66⟩
 · have e9 : fitv x.op x.val = decide (x.val = 1) := by unfold fitv; rw [if_pos q1, decide_eq_false q2]; rfl
   rw [e9]
   refine Calls_W 33 Tryz.f42 ?_
   have T0 : Sm Nix h h := .refl
   refine W_seq (W_region (L_nwc [nv x.op, nv x.val, .string x.nm, .string x.ot, va, vb, ve] .ptr rfl rfl kr fun h67 c67 t67 n67 => ?_))
   have T67 := T0.ext t67
   have N67 := T67.nx
   refine L_g 1 kr (L_nil (W_seq (W_sg 1 kr (L_ld _ rfl rfl kr (c67.ld (o := 0) kr rfl) (L_nil (W_block (W_seq (W_region (L_i (x.op) (2) (.bool true) rfl rfl kr kr rfl (by first | (simp; omega) | (simp [*]; done)) ?_)))))))))
   refine L_g 1 kr (L_nil (W_cT kr (W_sg 1 kr (L_ld _ rfl rfl kr (c67.ld (o := 1) kr rfl) (L_i (x.val) (0) (.bool false) rfl rfl kr kr rfl (by first | (simp; omega) | (simp [*]; done)) (L_g 2 kr (L_want kr (L_ld _ rfl rfl kr (c67.ld (o := 1) kr rfl) (L_want kr ?_)))))))))
   refine L_i (x.val) (1) (.bool (decide (x.val = 1))) rfl rfl kr kr rfl (rfl) (L_g 2 kr (L_nil (W_ret ?_)))
   refine rr ?_
   refine done_of (v := .bool (decide (x.val = 1))) (.inl rfl) kr ?_
   exact ⟨rfl, T67⟩
 · have e9 : fitv x.op x.val = decide (x.val ≤ 7) := by unfold fitv; rw [if_neg (by omega), if_pos q1, decide_eq_true q2]; rfl
   rw [e9]
   refine Calls_W 33 Tryz.f42 ?_
   have T0 : Sm Nix h h := .refl
   refine W_seq (W_region (L_nwc [nv x.op, nv x.val, .string x.nm, .string x.ot, va, vb, ve] .ptr rfl rfl kr fun h68 c68 t68 n68 => ?_))
   have T68 := T0.ext t68
   have N68 := T68.nx
   refine L_g 1 kr (L_nil (W_seq (W_sg 1 kr (L_ld _ rfl rfl kr (c68.ld (o := 0) kr rfl) (L_nil (W_block (W_seq (W_region (L_i (x.op) (2) (.bool false) rfl rfl kr kr rfl (by first | (simp; omega) | (simp [*]; done)) ?_)))))))))
   refine L_g 1 kr (L_nil (W_cF kr (W_seq (W_region (L_i (x.op) (9) (.bool true) rfl rfl kr kr rfl (by first | (simp; omega) | (simp [*]; done)) (L_g 1 kr (L_nil (W_cT kr (W_seq (W_region (L_g 1 kr ?_)))))))))))
   refine L_ld _ rfl rfl kr (c68.ld (o := 1) kr rfl) (L_i (x.val) (1) (.bool true) rfl rfl kr kr rfl (by first | (simp; omega) | (simp [*]; done)) (L_g 2 kr (L_want kr (L_ld _ rfl rfl kr (c68.ld (o := 1) kr rfl) (L_want kr (L_i (x.val) (7) (.bool (decide (x.val ≤ 7))) rfl rfl kr kr rfl (rfl) (L_g 2 kr (L_nil (W_ret ?_)))))))))
   refine rr ?_
   refine done_of (v := .bool (decide (x.val ≤ 7))) (.inl rfl) kr ?_
   exact ⟨rfl, T68⟩
 · have e9 : fitv x.op x.val = false := by unfold fitv; rw [if_neg (by omega), if_pos q1, decide_eq_false q2]; rfl
   rw [e9]
   refine Calls_W 33 Tryz.f42 ?_
   have T0 : Sm Nix h h := .refl
   refine W_seq (W_region (L_nwc [nv x.op, nv x.val, .string x.nm, .string x.ot, va, vb, ve] .ptr rfl rfl kr fun h69 c69 t69 n69 => ?_))
   have T69 := T0.ext t69
   have N69 := T69.nx
   refine L_g 1 kr (L_nil (W_seq (W_sg 1 kr (L_ld _ rfl rfl kr (c69.ld (o := 0) kr rfl) (L_nil (W_block (W_seq (W_region (L_i (x.op) (2) (.bool false) rfl rfl kr kr rfl (by first | (simp; omega) | (simp [*]; done)) ?_)))))))))
   refine L_g 1 kr (L_nil (W_cF kr (W_seq (W_region (L_i (x.op) (9) (.bool true) rfl rfl kr kr rfl (by first | (simp; omega) | (simp [*]; done)) (L_g 1 kr (L_nil (W_cT kr (W_seq (W_region (L_g 1 kr ?_)))))))))))
   refine L_ld _ rfl rfl kr (c69.ld (o := 1) kr rfl) (L_i (x.val) (1) (.bool false) rfl rfl kr kr rfl (by first | (simp; omega) | (simp [*]; done)) (L_g 6 kr (L_nil (W_ret ?_))))
   refine rr ?_
   refine done_of (v := .bool (false)) (.inl rfl) kr ?_
   exact ⟨rfl, T69⟩
 · have e9 : fitv x.op x.val = decide (0 ≤ x.val) := by unfold fitv; rw [if_neg (by omega), if_neg (by omega), if_pos q1]
   rw [e9]
   refine Calls_W 33 Tryz.f42 ?_
   have T0 : Sm Nix h h := .refl
   refine W_seq (W_region (L_nwc [nv x.op, nv x.val, .string x.nm, .string x.ot, va, vb, ve] .ptr rfl rfl kr fun h70 c70 t70 n70 => ?_))
   have T70 := T0.ext t70
   have N70 := T70.nx
   refine L_g 1 kr (L_nil (W_seq (W_sg 1 kr (L_ld _ rfl rfl kr (c70.ld (o := 0) kr rfl) (L_nil (W_block (W_seq (W_region (L_i (x.op) (2) (.bool false) rfl rfl kr kr rfl (by first | (simp; omega) | (simp [*]; done)) ?_)))))))))
   refine L_g 1 kr (L_nil (W_cF kr (W_seq (W_region (L_i (x.op) (9) (.bool false) rfl rfl kr kr rfl (by first | (simp; omega) | (simp [*]; done)) (L_g 1 kr (L_nil (W_cF kr (W_seq (W_region (L_i (x.op) (20) (.bool true) rfl rfl kr kr rfl (by first | (simp; omega) | (simp [*]; done)) ?_)))))))))))
   refine L_g 1 kr (L_nil (W_cT kr (W_sg 1 kr (L_ld _ rfl rfl kr (c70.ld (o := 1) kr rfl) (L_i (x.val) (0) (.bool (decide (0 ≤ x.val))) rfl rfl kr kr rfl (rfl) (L_g 1 kr (L_nil (W_ret ?_))))))))
   refine rr ?_
   refine done_of (v := .bool (decide (0 ≤ x.val))) (.inl rfl) kr ?_
   exact ⟨rfl, T70⟩
 · have e9 : fitv x.op x.val = decide (x.val = 0) := by unfold fitv; rw [if_neg q1, if_neg q2, if_neg q3]
   rw [e9]
   refine Calls_W 33 Tryz.f42 ?_
   have T0 : Sm Nix h h := .refl
   refine W_seq (W_region (L_nwc [nv x.op, nv x.val, .string x.nm, .string x.ot, va, vb, ve] .ptr rfl rfl kr fun h71 c71 t71 n71 => ?_))
   have T71 := T0.ext t71
   have N71 := T71.nx
   refine L_g 1 kr (L_nil (W_seq (W_sg 1 kr (L_ld _ rfl rfl kr (c71.ld (o := 0) kr rfl) (L_nil (W_block (W_seq (W_region (L_i (x.op) (2) (.bool false) rfl rfl kr kr rfl (by first | (simp; omega) | (simp [*]; done)) ?_)))))))))
   refine L_g 1 kr (L_nil (W_cF kr (W_seq (W_region (L_i (x.op) (9) (.bool false) rfl rfl kr kr rfl (by first | (simp; omega) | (simp [*]; done)) (L_g 1 kr (L_nil (W_cF kr (W_seq (W_region (L_i (x.op) (20) (.bool false) rfl rfl kr kr rfl (by first | (simp; omega) | (simp [*]; done)) ?_)))))))))))
   refine L_g 1 kr (L_nil (W_cF kr (W_skip (W_sg 1 kr (L_ld _ rfl rfl kr (c71.ld (o := 1) kr rfl) (L_i (x.val) (0) (.bool (decide (x.val = 0))) rfl rfl kr kr rfl (rfl) (L_g 1 kr (L_nil (W_ret ?_)))))))))
   refine rr ?_
   refine done_of (v := .bool (decide (x.val = 0))) (.inl rfl) kr ?_
   exact ⟨rfl, T71⟩
theorem children_ok {h : AH} {x : Nd} {p1 p2 p3 : Option Addr} {n1 n2 n3 c1 c2 c3 : Nat} :
  Arm.Calls Tryz.prog 44 [.agg ⟨x.c7 (.slice p1 n1 c1) (.slice p2 n2 c2) (.slice p3 n3 c3)⟩] h (fun r => r.1 = .agg ⟨[.slice p1 n1 c1, .slice p2 n2 c2, .slice p3 n3 c3]⟩ ∧ Go.Arm.Sm Nix h r.2) := by
 refine Calls_W 10 Tryz.f44 ?_
 have T0 : Sm Nix h h := .refl
 refine W_seq (W_region (L_nwc [nv x.op, nv x.val, .string x.nm, .string x.ot, .slice p1 n1 c1, .slice p2 n2 c2, .slice p3 n3 c3] .ptr rfl rfl kr fun h72 c72 t72 n72 => ?_))
 have T72 := T0.ext t72
 have N72 := T72.nx
 refine L_nwc [.slice none 0 0, .slice none 0 0, .slice none 0 0] .ptr rfl rfl kr fun h73 c73 t73 n73 => ?_
 replace c72 := c72.ext t73
 have T73 := T72.ext t73
 have N73 := T73.nx
 refine L_nil (W_sg 1 kr (L_ld _ rfl rfl kr (c72.ld (o := 4) kr rfl) (L_g 1 kr (L_ld _ rfl rfl kr (c72.ld (o := 5) kr rfl) (L_g 1 kr (L_ld _ rfl rfl kr (c72.ld (o := 6) kr rfl) (L_g 1 kr ?_)))))))
 obtain ⟨h74, e74, d74, t74, n74⟩ := c73.sA 127 [.slice p1 n1 c1, .slice p2 n2 c2, .slice p3 n3 c3]
 replace c73 := d74
 have T74 := T73.tr t74
 have N74 := T74.nx
 refine L_st _ rfl rfl rfl kr kr (e74) (L_nil (W_ret ?_))
 refine rr ?_
 refine done_of (.inl rfl) (evR_c1 kr (a := ⟨h72.next, 0, none⟩) kr (Cl.allN (n := 3) c73 rfl kr)) ?_
 exact ⟨rfl, T74⟩
theorem ixn_ok {F : Nat → Prop} {h : AH} {v : Value} {g : FuncId} {ca : List Value} {l : List Nd} {pr : Nd → Bool} (H : NdS F h v l) (hg : ∀ u h, aCallX Tryz.prog g (u :: ca) h = some [(.enter g (u :: ca), h)])
  (hc : ∀ x c, x ∈ l → NdC F h x c → ∀ h', Go.Arm.Sm Nix h h' → Arm.Calls Tryz.prog g (.agg ⟨c⟩ :: ca) h' (fun r => r.1 = .bool (pr x) ∧ Go.Arm.Sm Nix h' r.2)) :
  Arm.Calls Tryz.prog 40 [v, .func (.func g) ⟨[]⟩ ⟨ca⟩] h (fun r => r.1 = nv (match l.findIdx? pr with | some i => (i : Int) | none => -1) ∧ Go.Arm.Sm Nix h r.2) := by
 obtain ⟨cs, H1, H2, _, H3⟩ := H
 refine Calls_W 19 Tryz.f40 ?_
 have T0 : Sm Nix h h := .refl
 refine W_sg 1 kr (L_nil (W_seq (W_sg 1 kr (L_ln _ rfl rfl kr ((H1.ext T0).len (T := 22) (el := 44) kr) (L_g 1 kr (L_nil (W_block ?_)))))))
 refine W_loop (fun mm fr hh => ∃ (k : Nat), (k ≤ l.length) ∧ (l.findIdx? pr = ((l.drop k).findIdx? pr).map (· + k)) ∧ mm = l.length - k ∧ fr 0 = v ∧ fr 1 = .func (.func g) ⟨[]⟩ ⟨ca⟩ ∧ fr 7 = nv (l.length : Int) ∧ fr 8 = nv (k : Int) ∧ Sm Nix h hh) (l.length) ?_ ?_
 ·
  exact ⟨0, Nat.zero_le _, by simp, rfl, kr, kr, kr, kr, T0⟩
 rintro mm75 fr75 h75 ⟨k, hk, hf, hm75, y75_0, y75_1, y75_7, y75_8, T75⟩
 have N75 := T75.nx
 refine W_set (k := 0) y75_0 (W_set (k := 1) y75_1 (W_set (k := 7) y75_7 (W_set (k := 8) y75_8 (W_sg 1 kr (L_nil (W_seq ?_))))))
 refine W_cond (decide ((k : Int) < (l.length : Nat))) kr (fun hb => ?_) (fun hb => ?_)
 ·
  have hlt : k < l.length := by simp at hb; omega
  obtain ⟨x, hx⟩ : ∃ x, l[k]? = some x := ⟨_, List.getElem?_eq_getElem hlt⟩
  have hdr : l.drop k = x :: l.drop (k + 1) := by rw [List.drop_eq_getElem_cons hlt]; congr 1; exact (List.getElem?_eq_some_iff.1 hx).2
  obtain ⟨c, hcc, hnd⟩ := H3.at hx
  have hcl := hnd.len
  have hcall := hc x c (List.mem_of_getElem? hx) hnd
  obtain ⟨b9, o9, _, i9, l9⟩ := (H1.ext T75).at (P := Tryz.prog) (T := 22) (el := 44) kr kr hlt .i64
  refine W_skip (W_seq (W_block (W_sg 2 kr (L_nil (W_sg 3 kr (L_ix _ rfl rfl kr kr (i9) (L_ld _ rfl rfl kr (ld_l (l := c) (by rw [hcl]; kernel_rfl) (fun j hj => by rw [l9 j (by omega)]; exact hcc j (by omega))) ?_)))))))
  refine L_c rfl rfl (Eq.trans (b := aCallX Tryz.prog g (.agg ⟨c⟩ :: ca) h75) kr (hg _ _)) (hcall _ T75) ?_
  rintro v76 h76 ⟨e76, t76⟩
  try dsimp only at e76 t76
  subst e76
  have T76 := T75.ext t76
  have N76 := T76.nx
  have M76 := t76.nx
  refine L_nil ?_
  refine W_cond (pr x) kr (fun hb => ?_) (fun hb => ?_)
  ·
   have hres : nv (match l.findIdx? pr with | some i => (i : Int) | none => -1) = nv (k : Int) := by rw [hf, hdr, List.findIdx?_cons, hb]; simp
   rw [hres]
   refine W_sg 2 kr (L_nil (W_ret ?_))
   refine rr ?_
   refine done_of (v := nv (k : Int)) (.inl rfl) kr ?_
   exact ⟨rfl, T76⟩
  ·
   have hfb : pr x = false := hb
   refine W_skip (W_region (L_i ((k : Int)) (1) (nv ((k + 1 : Nat) : Int)) rfl rfl kr kr rfl (incT hlt H2) (L_g 1 kr (L_nil ?_))))
   exact ⟨l.length - (k + 1), by omega, k + 1, by omega, find_step hf hdr hfb, rfl, kr, kr, kr, kr, T76⟩
 ·
  have hge : k = l.length := by simp at hb; omega
  have hres : nv (match l.findIdx? pr with | some i => (i : Int) | none => -1) = nv (-1) := by rw [hf, hge]; simp
  rw [hres]
  refine W_exit ?_
  refine rx ?_
  refine exit_here (W_sg 1 kr (L_nil (W_ret ?_)))
  refine rr ?_
  refine done_of (v := nv (-1)) (.inl rfl) kr ?_
  exact ⟨rfl, T75⟩
theorem any_find {α : Type} (pr : α → Bool) : ∀ l : List α, l.any pr = (l.findIdx? pr).isSome
 | [] => rfl
 | x :: l => by
  rw [List.any_cons, List.findIdx?_cons, any_find pr l]
  cases pr x with
  | true => rfl
  | false => simp
theorem cfn_ok {F : Nat → Prop} {h : AH} {v : Value} {g : FuncId} {ca : List Value} {l : List Nd} {pr : Nd → Bool} (H : NdS F h v l) (hg : ∀ u h, aCallX Tryz.prog g (u :: ca) h = some [(.enter g (u :: ca), h)])
  (hc : ∀ x c, x ∈ l → NdC F h x c → ∀ h', Go.Arm.Sm Nix h h' → Arm.Calls Tryz.prog g (.agg ⟨c⟩ :: ca) h' (fun r => r.1 = .bool (pr x) ∧ Go.Arm.Sm Nix h' r.2)) :
  Arm.Calls Tryz.prog 21 [v, .func (.func g) ⟨[]⟩ ⟨ca⟩] h (fun r => r.1 = .bool (l.any pr) ∧ Go.Arm.Sm Nix h r.2) := by
 have hix := ixn_ok H hg hc
 rw [any_find]
 cases hf : l.findIdx? pr with
 | none =>
  rw [hf] at hix
  refine Calls_W 9 Tryz.f21 ?_
  have T0 : Sm Nix h h := .refl
  refine W_sg 1 kr (L_nil (W_sg 2 kr (L_c rfl rfl kr (hix) ?_)))
  rintro v77 h77 ⟨e77, t77⟩
  try dsimp only at e77 t77
  subst e77
  have T77 := T0.ext t77
  have N77 := T77.nx
  have M77 := t77.nx
  refine L_i (-1) (0) (.bool false) rfl rfl kr kr rfl (by first | (simp; done) | (simp; omega)) (L_g 1 kr (L_nil (W_ret ?_)))
  refine rr ?_
  refine done_of (v := .bool false) (.inl rfl) kr ?_
  exact ⟨rfl, T77⟩
 | some i =>
  rw [hf] at hix
  refine Calls_W 9 Tryz.f21 ?_
  have T0 : Sm Nix h h := .refl
  refine W_sg 1 kr (L_nil (W_sg 2 kr (L_c rfl rfl kr (hix) ?_)))
  rintro v78 h78 ⟨e78, t78⟩
  try dsimp only at e78 t78
  subst e78
  have T78 := T0.ext t78
  have N78 := T78.nx
  have M78 := t78.nx
  refine L_i ((i : Int)) (0) (.bool true) rfl rfl kr kr rfl (by first | (simp; done) | (simp; omega)) (L_g 1 kr (L_nil (W_ret ?_)))
  refine rr ?_
  refine done_of (v := .bool true) (.inl rfl) kr ?_
  exact ⟨rfl, T78⟩
end
end Go.Proofs.YtlgakeilplnfmaaGreatDoor
